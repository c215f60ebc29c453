/-
  What the packages tree and markup compute, as plain Lean functions. No program here.
-/
import Derived.Test.YtipfakmbjajhlaaGreatDoorPure
set_option linter.unusedVariables false
namespace Go.Proofs.YtipfakmbjajhlaaGreatDoor 
namespace Pure
namespace Tree
def kind : Tree → Int | .mk k _ _ _ _ => k
def name : Tree → ByteArray | .mk _ n _ _ _ => n
def attrs : Tree → List Attr | .mk _ _ a _ _ => a
def text : Tree → ByteArray | .mk _ _ _ t _ => t
def kids : Tree → List Tree | .mk _ _ _ _ l => l
end Tree
def noB : ByteArray := ⟨#[]⟩
def textT (t : ByteArray) : Tree := .mk 2 noB [] t []
def elemT (n : ByteArray) (a : List Attr) (l : List Tree) : Tree := .mk 1 n a noB l
/-! ### tree.Check -/
def bytesLe (a b : Bytes) : Bool := decide (Lib.compareBytes a b ≤ 0)
def notAbove : Option ByteArray → ByteArray → Bool
  | none, _ => false
  | some p, n => bytesLe (toL n) (toL p)
def attrsLoop : Option ByteArray → List Attr → Int
  | _, [] => 0
  | prev, a :: r =>
    if isName (toL a.name) = false ∨ notAbove prev a.name = true then 6
    else if (text (toL a.value)).2 ≠ 0 then (text (toL a.value)).2 else attrsLoop (some a.name) r
def attrsBad (l : List Attr) : Int := if l.length > 32 then 2 else attrsLoop none l
/-- tree.own -/
def own (k : Int) (n : ByteArray) (a : List Attr) (t : ByteArray) : Int :=
  if k = 1 then (if isName (toL n) = false then 6 else attrsBad a) else if k = 2 then (text (toL t)).2 else 1
mutual
/-- looker.look: what is wrong, and how many nodes stood ahead then. -/
def look : Tree → Nat → Nat → Int × Nat
  | .mk k nm a tx kids, deep, n =>
    if deep > 64 ∨ n ≥ 4096 then (2, n) else if own k nm a tx ≠ 0 then (own k nm a tx, n)
    else if k = 2 then (0, n + 1) else lookL kids (deep + 1) (n + 1)
def lookL : List Tree → Nat → Nat → Int × Nat
  | [], _, n => (0, n)
  | t :: r, deep, n => match look t deep n with
    | (e, n') => if e ≠ 0 then (e, n') else lookL r deep n'
end
def check (t : Tree) : Int := (look t 1 0).1
mutual
def count : Tree → Nat
  | .mk k _ _ _ kids => if k = 1 then countL kids + 1 else 1
def countL : List Tree → Nat
  | [] => 0
  | t :: r => count t + countL r
end
def firstBad : List Tree → Int
  | [] => 0
  | t :: r => if check t ≠ 0 then check t else firstBad r
/-- markup.can -/
def canF (f : List Tree) : Int := if firstBad f ≠ 0 then firstBad f else if countL f > 4096 then 2 else 0
/-! ### markup.Print -/
def full (b : Bytes) : Bool := decide (b.length > 262144)
def put (b s : Bytes) : Bytes := if full b then b else b ++ s
def puts (b : Bytes) (l : List Bytes) : Bytes := l.foldl put b
def escOf (t : ByteArray) (q : Bool) : Bytes := (escape (toL t) q).1
def writeAttr (b : Bytes) (a : Attr) : Bytes := put (put (puts b [[32], toL a.name, [61, 34]]) (escOf a.value true)) [34]
def shows (t : Tree) : Bool := t.kind == 1 || !decide (toL t.text = [])
mutual
def write : Bytes → Tree → Bytes
  | b, .mk k nm a tx kids =>
    if full b then b else if k = 2 then put b (escOf tx false)
    else
      if kids.any shows = false then put (a.foldl writeAttr (puts b [[60], toL nm])) [47, 62]
      else puts (writeL (put (a.foldl writeAttr (puts b [[60], toL nm])) [62]) kids) [[60, 47], toL nm, [62]]
def writeL : Bytes → List Tree → Bytes
  | b, [] => b
  | b, t :: r => writeL (write b t) r
end
/-- markup.Print -/
def print (f : List Tree) : Bytes × Int :=
  if canF f ≠ 0 then ([], canF f) else if full (writeL [] f) then ([], 2) else (writeL [] f, 0)
/-! ### markup.Normal -/
/-- A text behind what there is. -/
def joinText (l : List Tree) (t : ByteArray) : Option (List Tree) :=
  if toL t = [] then some l else
  match l.getLast? with
  | none => some (l ++ [textT t])
  | some u => if u.kind ≠ 2 then some (l ++ [textT t]) else if u.text.size + t.size > 16384 then none else some (l.dropLast ++ [.mk u.kind u.name u.attrs (u.text ++ t) u.kids])
mutual
def normT : List Tree → Tree → Option (List Tree)
  | l, .mk k nm a tx kids => if k = 1 then (match normL [] kids with | none => none | some ks => some (l ++ [elemT nm a ks])) else joinText l tx
def normL : List Tree → List Tree → Option (List Tree)
  | l, [] => some l
  | l, t :: r => match normT l t with | none => none | some l' => normL l' r
end
/-- markup.Normal -/
def normalF (f : List Tree) : List Tree × Int :=
  if canF f ≠ 0 then ([], canF f) else match normL [] f with | none => ([], 2) | some l => (l, 0)
/-! ### markup.Parse -/
structure Fr where
  name : ByteArray
  attrs : List Attr
  kids : List Tree
/-- The trees that are open, the innermost one first: what an event makes of them. -/
def stepE (o : List Fr) (e : Event) : List Fr :=
  if e.kind = 1 then ⟨e.name, e.attrs, []⟩ :: o
  else match o with
    | [] => []
    | top :: r =>
      if e.kind = 2 then { top with kids := top.kids ++ [textT e.text] } :: r
      else match r with
        | [] => []
        | up :: r' => { up with kids := up.kids ++ [elemT top.name top.attrs top.kids] } :: r'
def builds (evs : List Event) : List Fr := evs.foldl stepE [⟨noB, [], []⟩]
def rootKids : List Fr → List Tree
  | [] => []
  | [r] => r.kids
  | _ :: l => rootKids l
/-- markup.Parse -/
def parse (l : Bytes) : List Tree × Int × Int := match scan l with
  | (evs, at_, e) => if e ≠ 0 then ([], at_, e) else (rootKids (builds evs), 0, 0)
/-! ### markup.Same, markup.Where -/
mutual
def same : Tree → Tree → Bool
  | .mk k nm a tx kids, .mk k' nm' a' tx' kids' =>
    if k ≠ k' then false else if k = 1 then decide (nm = nm') && (decide (a = a') && sameL kids kids') else if k = 2 then decide (tx = tx') else true
def sameL : List Tree → List Tree → Bool
  | [], [] => true
  | t :: r, t' :: r' => same t t' && sameL r r'
  | _, _ => false
end
end Pure
end Go.Proofs.YtipfakmbjajhlaaGreatDoor 
