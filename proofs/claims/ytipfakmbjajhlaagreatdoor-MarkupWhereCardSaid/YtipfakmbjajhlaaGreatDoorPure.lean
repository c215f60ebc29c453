/-
  What the packages chars, scan and markup compute, as plain Lean functions on bytes. No program here.
-/
import Derived.Lib.DecodeN
import Derived.Lib.Bytealg
import Derived.Lib.Strings
import Derived.Lib.Index
set_option linter.unusedVariables false
namespace Go.Proofs.YtipfakmbjajhlaaGreatDoor 
namespace Pure
abbrev Bytes := List UInt8
def toL (s : ByteArray) : Bytes := s.data.toList
def ofL (l : Bytes) : ByteArray := ⟨l.toArray⟩
@[simp] theorem toL_ofL (l : Bytes) : toL (ofL l) = l := rfl
@[simp] theorem ofL_toL (s : ByteArray) : ofL (toL s) = s := by cases s; rfl
theorem toL_inj {a b : ByteArray} (h : toL a = toL b) : a = b := by rw [← ofL_toL a, h, ofL_toL]
theorem length_toL (s : ByteArray) : (toL s).length = s.size := by unfold toL; exact Array.length_toList

structure Attr where
  name : ByteArray
  value : ByteArray
  deriving DecidableEq

structure Event where
  kind : Int
  name : ByteArray
  attrs : List Attr
  text : ByteArray

inductive Tree where
  | mk (kind : Int) (name : ByteArray) (attrs : List Attr) (text : ByteArray) (kids : List Tree)

def byteAt (l : Bytes) (i : Nat) : Nat := (l.getD i 0).toNat
/-- utf8.DecodeRuneInString. -/
def dec (l : Bytes) : Nat × Nat := if l = [] then (65533, 0) else Lib.decodeN l.length (byteAt l 0) (byteAt l 1) (byteAt l 2) (byteAt l 3)

/-- chars.can -/
def can (r : Int) : Bool :=
  (r == 9 || r == 10 || r == 13) || ((decide (32 ≤ r) && decide (r ≤ 55295)) || (decide (57344 ≤ r) && decide (r ≤ 65533))) || (decide (65536 ≤ r) && decide (r ≤ 1114111))

/-- chars.first: rune, width, error. -/
def first (l : Bytes) : Int × Int × Int :=
  if (dec l).2 = 0 then (0, 0, 4)
  else if ((dec l).1 = 65533 ∧ (dec l).2 = 1) ∨ can (dec l).1 = false then (0, 0, 7)
  else ((dec l).1, (dec l).2, 0)

/-- chars.text from a place on: with fuel. -/
def textFrom : Nat → Bytes → Int → Int × Int
  | 0, _, _ => (0, 0)
  | f + 1, l, at_ => if l = [] then (0, 0) else match first l with
    | (_, n, e) => if e = 0 then textFrom f (l.drop n.toNat) (at_ + n) else (at_, e)
def text (l : Bytes) : Int × Int := if l.length > 16384 then (0, 2) else textFrom (l.length + 1) l 0

def letter (c : UInt8) : Bool := (decide (97 ≤ c.toNat) && decide (c.toNat ≤ 122)) || (decide (65 ≤ c.toNat) && decide (c.toNat ≤ 90)) || c.toNat == 95
def named (c : UInt8) : Bool := letter c || (decide (48 ≤ c.toNat) && decide (c.toNat ≤ 57)) || c.toNat == 45 || c.toNat == 46
def blank (c : UInt8) : Bool := c.toNat == 32 || c.toNat == 9 || c.toNat == 10 || c.toNat == 13
/-- chars.Name -/
def isName (l : Bytes) : Bool := match l with
  | [] => false
  | c :: _ => decide (l.length ≤ 32) && letter c && l.all named

/-- chars.Escape's byte. -/
def escByte (quote : Bool) (c : UInt8) : Bytes :=
  if c = 38 then [38, 97, 109, 112, 59] else if c = 60 then [38, 108, 116, 59] else if c = 62 then [38, 103, 116, 59] else if c = 13 then [38, 35, 49, 51, 59]
  else if quote && c = 34 then [38, 113, 117, 111, 116, 59] else if quote && c = 9 then [38, 35, 57, 59] else if quote && c = 10 then [38, 35, 49, 48, 59] else [c]
def escape (l : Bytes) (quote : Bool) : Bytes × Int × Int := match text l with
  | (at_, e) => if e = 0 then (l.flatMap (escByte quote), 0, 0) else ([], at_, e)

/-- The reference that begins with '&' and a name: what it stands for, its length, its error. 'numbered' in base 10 alone ('&#x' is not told here). -/
def isDigit10 (c : UInt8) : Bool := decide (48 ≤ c.toNat) && decide (c.toNat ≤ 57)
def digitsVal (l : Bytes) : Nat := l.foldl (fun n c => n * 10 + (c.toNat - 48)) 0
/-- string(rune(r)) -/
def runeBytes (r : Int) : Bytes := toL (Utf8.encode r)
/-- chars.numbered(s, 2, 10, 7): s begins with '&#'. -/
def numbered10 (s : Bytes) : Bytes × Int × Int :=
  let ds := ((s.drop 2).take 7).takeWhile isDigit10
  match s.drop (2 + ds.length) with
  | [] => ([], 0, 4)
  | c :: _ => if c ≠ 59 ∨ ds = [] then ([], 0, 20) else if can (digitsVal ds : Int) = false then ([], 0, 7) else (runeBytes (digitsVal ds : Int), ((2 + ds.length + 1 : Nat) : Int), 0)
def hasPre (s p : Bytes) : Bool := p.isPrefixOf s
def namedRefs : List (Bytes × UInt8) := [([38, 97, 109, 112, 59], 38), ([38, 108, 116, 59], 60), ([38, 103, 116, 59], 62), ([38, 113, 117, 111, 116, 59], 34), ([38, 97, 112, 111, 115, 59], 39)]
def refLoop (s : Bytes) : List (Bytes × UInt8) → Int → Bytes × Int × Int
  | [], why => ([], 0, if s = [38] then 4 else why)
  | (t, c) :: r, why => if hasPre s t then ([c], (t.length : Int), 0) else if hasPre t s then refLoop s r 4 else refLoop s r why
/-- chars.reference, but for '&#x'. -/
def reference (s : Bytes) : Bytes × Int × Int :=
  if hasPre s [38, 35] then (if s.length = 2 then ([], 0, 4) else numbered10 s) else refLoop s namedRefs 20
/-- chars.Unescape, with fuel: 'acc' is what came of it. -/
def unescFrom : Nat → Bytes → Int → Bytes → Bytes × Int × Int
  | 0, _, _, acc => (acc, 0, 0)
  | f + 1, l, at_, acc => match l with
    | [] => (acc, 0, 0)
    | c :: _ =>
      match (if c = 38 then reference l else ((l.take (first l).2.1.toNat), (first l).2.1, (first l).2.2)) with
      | (t, n, e) =>
        if (if e = 0 ∧ acc.length + t.length > 16384 then 2 else e) ≠ 0 then ([], at_, if e = 0 ∧ acc.length + t.length > 16384 then 2 else e)
        else unescFrom f (l.drop n.toNat) (at_ + n) (acc ++ t)
def unescape (l : Bytes) : Bytes × Int × Int := unescFrom (l.length + 1) l 0 []

/-! ### The reader -/
/-- The reader's state: what is left of the text; the open elements (the last one first); the text that is gathered; how many nodes; what was told. -/
structure St where
  rest : Bytes
  opn : List ByteArray
  txt : Bytes
  nodes : Nat
  evs : List Event
/-- How a part of the reader ends: with an answer; or with an error, at the place behind which so many bytes are left. -/
inductive R (α : Type) where
  | ok (a : α) (s : St)
  | fail (left : Nat) (why : Int) (evs : List Event)
def R.bind {α β : Type} (r : R α) (f : α → St → R β) : R β := match r with
  | .ok a s => f a s
  | .fail l w e => .fail l w e
def tellE (s : St) (e : Event) : St := { s with evs := s.evs ++ [e] }
def wordsE (t : Bytes) : Event := ⟨2, ofL [], [], ofL t⟩
def endE (n : ByteArray) : Event := ⟨3, n, [], ofL []⟩
def begins (left : Nat) (s : St) : R Unit := if s.nodes ≥ 4096 ∨ s.opn.length ≥ 64 then .fail left 2 s.evs else .ok () { s with nodes := s.nodes + 1 }
def flush (s : St) : R Unit := if s.txt = [] then .ok () s else .ok () { tellE s (wordsE s.txt) with txt := [] }
def adds (t : Bytes) (left : Nat) (s : St) : R Unit :=
  (if s.txt = [] then begins left s else .ok () s).bind fun _ s => if s.txt.length + t.length > 16384 then .fail left 2 s.evs else .ok () { s with txt := s.txt ++ t }
def char (s : St) : R Bytes := match first s.rest with
  | (_, n, e) => if e ≠ 0 then .fail s.rest.length e s.evs else .ok (s.rest.take n.toNat) { s with rest := s.rest.drop n.toNat }
/-- What of the text a reference may be: at most ten bytes, up to the first ';'. -/
def refPart (l : Bytes) : Bytes := let s := l.take 10; if Lib.indexByte s 59 < 0 then s else s.take ((Lib.indexByte s 59).toNat + 1)
def refer (s : St) : R Bytes := match unescape (refPart s.rest) with
  | (t, _, e) => if e ≠ 0 then .fail s.rest.length e s.evs else .ok t { s with rest := s.rest.drop (refPart s.rest).length }
def next (s : St) : R UInt8 := match s.rest with
  | [] => .fail 0 4 s.evs
  | c :: _ => .ok c s
def skip (s : St) : St := { s with rest := s.rest.drop 1 }
def must (c : UInt8) (s : St) : R Unit := (next s).bind fun d s => if d ≠ c then .fail s.rest.length 3 s.evs else .ok () (skip s)
def blanks (s : St) : R Bool := .ok (match s.rest with | [] => false | c :: _ => blank c) { s with rest := s.rest.dropWhile blank }
def name (s : St) : R ByteArray :=
  if isName (s.rest.takeWhile named) then .ok (ofL (s.rest.takeWhile named)) { s with rest := s.rest.dropWhile named } else .fail s.rest.length 6 s.evs
/-- Past a mark, from k bytes on. -/
def past (k : Nat) (mark : Bytes) (s : St) : R Unit :=
  if Lib.index (s.rest.drop k) mark < 0 then .fail s.rest.length 4 s.evs else .ok () { s with rest := (s.rest.drop k).drop ((Lib.index (s.rest.drop k) mark).toNat + mark.length) }
def valueLoop : Nat → UInt8 → Bytes → St → R Bytes
  | 0, _, _, s => .fail 0 0 s.evs
  | f + 1, q, acc, s => (next s).bind fun c s => if c = q then .ok acc s else
      if c = 60 then .fail s.rest.length 3 s.evs
      else ((if c = 38 then refer s else char s).bind fun t s' => if acc.length + t.length > 16384 then .fail s.rest.length 2 s.evs else valueLoop f q (acc ++ t) s')
def attr (l : List Attr) (s : St) : R Attr :=
  (name s).bind fun n s' =>
    if l.length ≥ 32 then .fail s.rest.length 2 s.evs
    else if l.any (fun b => b.name == n) then .fail s.rest.length 41 s.evs
    else (must 61 s').bind fun _ s => (next s).bind fun q s => if q ≠ 34 ∧ q ≠ 39 then .fail s.rest.length 3 s.evs else
      (valueLoop (s.rest.length + 1) q [] (skip s)).bind fun v s => .ok ⟨n, ofL v⟩ (skip s)
/-- Attributes as they rise by their names. -/
def insA (a : Attr) : List Attr → List Attr
  | [] => [a]
  | b :: l => if Lib.compareBytes (toL b.name) (toL a.name) < 0 then b :: insA a l else a :: b :: l
def sortA : List Attr → List Attr
  | [] => []
  | a :: l => insA a (sortA l)
def startE (n : ByteArray) (l : List Attr) : Event := ⟨1, n, sortA l, ofL []⟩
def opensLoop : Nat → ByteArray → List Attr → St → R Unit
  | 0, _, _, s => .fail 0 0 s.evs
  | f + 1, n, l, s => (blanks s).bind fun ahead s => (next s).bind fun c s =>
      if c = 47 then (must 62 (skip s)).bind fun _ s => .ok () (tellE (tellE s (startE n l)) (endE n))
      else if c = 62 then .ok () { tellE (skip s) (startE n l) with opn := n :: s.opn }
      else if ahead && letter c then (attr l s).bind fun a s => opensLoop f n (l ++ [a]) s
      else .fail s.rest.length 3 s.evs
def opens (s : St) : R Unit := (flush s).bind fun _ s => (begins s.rest.length s).bind fun _ s => (name (skip s)).bind fun n s => opensLoop (s.rest.length + 1) n [] s
def closes (s : St) : R Unit := (flush s).bind fun _ s => (next { s with rest := s.rest.drop 2 }).bind fun c s1 =>
  if letter c = false then .fail s1.rest.length 3 s.evs else (name s1).bind fun w s2 =>
    match s2.opn with
    | [] => .fail s.rest.length 40 s.evs
    | o :: os => if o ≠ w then .fail s.rest.length 40 s.evs else (blanks s2).bind fun _ s3 => (must 62 s3).bind fun _ s4 => .ok () (tellE { s4 with opn := os } (endE w))
def rawLoop : Nat → Nat → St → R Unit
  | 0, _, s => .fail 0 0 s.evs
  | f + 1, stop, s => if s.rest.length ≤ stop then .ok () s else (char s).bind fun t s' => (adds t s.rest.length s').bind fun _ s' => rawLoop f stop s'
def bRemark : Bytes := [60, 33, 45, 45]
def bRaw : Bytes := [60, 33, 91, 67, 68, 65, 84, 65, 91]
def tag (s : St) : R Unit :=
  if s.rest = [60] ∨ (s.rest ≠ bRemark ∧ hasPre bRemark s.rest) ∨ (s.rest ≠ bRaw ∧ hasPre bRaw s.rest) then .fail s.rest.length 4 s.evs
  else if hasPre s.rest bRemark then past 4 [45, 45, 62] s
  else if hasPre s.rest [60, 63] then past 2 [63, 62] s
  else if hasPre s.rest bRaw then (past 9 [93, 93, 62] s).bind fun _ s1 => (rawLoop (s.rest.length + 1) (s1.rest.length + 3) { s1 with rest := s.rest.drop 9 }).bind fun _ s2 => .ok () { s2 with rest := s1.rest }
  else if hasPre s.rest [60, 47] then closes s
  else if letter (s.rest.getD 1 0) then opens s
  else .fail s.rest.length 3 s.evs
def piece (s : St) : R Unit := match s.rest with
  | [] => .ok () s
  | c :: _ => if c = 60 then tag s else if c = 38 then (refer s).bind fun t s' => adds t s.rest.length s' else (char s).bind fun t s' => adds t s.rest.length s'
def pieces : Nat → St → R Unit
  | 0, s => .fail 0 0 s.evs
  | f + 1, s => if s.rest = [] then .ok () s else (piece s).bind fun _ s => pieces f s
/-- scan.Scan: what was told; the place and the error. -/
def scan (l : Bytes) : List Event × Int × Int :=
  if l.length > 262144 then ([], 0, 2) else
  match (pieces (l.length + 1) ⟨l, [], [], 0, []⟩).bind (fun _ s => (flush s).bind fun _ s => if s.opn = [] then .ok () s else .fail 0 4 s.evs) with
  | .ok _ s => (s.evs, 0, 0)
  | .fail left why evs => (evs, (l.length : Int) - left, why)
end Pure
end Go.Proofs.YtipfakmbjajhlaaGreatDoor 
