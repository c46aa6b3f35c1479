/- Plain definitions: the tokens of a source, as a function of its bytes; no program in sight. -/
import Derived.Test.YtgkknjlegfdcnaaDoorCalW
namespace Go.Proofs.YtgkknjlegfdcnaaDoor.Lx
open Go.Proofs.YtgkknjlegfdcnaaDoor.Cal

def digB (c : UInt8) : Bool := decide (48 ≤ c.toNat) && decide (c.toNat ≤ 57)
def letB (c : UInt8) : Bool := decide (97 ≤ (c ||| 32).toNat) && decide ((c ||| 32).toNat ≤ 122)
def partB (c : UInt8) : Bool := letB c || digB c || c == 95
def blankB (c : UInt8) : Bool := c == 32 || c == 9
def lineB (c : UInt8) : Bool := c != 10
def signB (c : UInt8) : Bool := [40, 41, 44, 43, 45, 42, 47, 60, 61].contains c

/-- The number of bytes of a class with which a list begins. -/
def spanN (p : UInt8 → Bool) : List UInt8 → Nat
  | [] => 0
  | c :: l => if p c = true then spanN p l + 1 else 0

/-- Blanks and a remark. -/
def blankN (l : List UInt8) : Nat :=
  let n := spanN blankB l
  match l.drop n with
  | 35 :: r => n + spanN lineB (35 :: r)
  | _ => n

def datedB (l : List UInt8) : Bool :=
  match l with
  | a :: b :: c :: d :: e :: f :: g :: i :: j :: k :: _ => digB a && digB b && digB c && digB d && e == 45 && digB f && digB g && i == 45 && digB j && digB k
  | _ => false

def endsB (l : List UInt8) (n : Nat) : Bool := match l.drop n with | [] => true | c :: _ => !partB c

/-- The length of the number with which a list begins, and its error. -/
def numN (l : List UInt8) : Nat × Nat :=
  let n := spanN digB l
  let ok := l.head? != some 48 || n == 1
  let q : Bool × Nat := match l.drop n with
    | 47 :: d :: r => if digB d = true then (ok && d != 48, n + (1 + spanN digB (d :: r))) else (ok, n)
    | _ => (ok, n)
  if (q.1 = true ∧ q.2 ≤ 200) ∧ endsB l q.2 = true then (q.2, 0) else (0, 112)

/-- The calendar knows the date that stands there. -/
def dateOK (l : List UInt8) : Bool := decide (parE (l.take 10) = 0)

/-- Kind, length and error of the token with which a list begins. -/
def kindL (l : List UInt8) : Nat × Nat × Nat :=
  match l with
  | [] => (0, 0, 110)
  | c :: _ =>
    if letB c = true then (if spanN partB l ≤ 24 then (1, spanN partB l, 0) else (0, 0, 111))
    else if datedB l = true then (if dateOK l = true ∧ endsB l 10 = true then (3, 10, 0) else (0, 0, 113))
    else if digB c = true then (2, (numN l).1, (numN l).2)
    else if signB c = true then (4, 1, 0)
    else (0, 0, 110)

structure Tok where
  kind : Nat
  text : List UInt8
  line : Nat
  col : Nat

structure Bad where
  err : Nat
  line : Nat
  col : Nat

/-- What is left of a source, and its place; the end behind the last token of the line. -/
structure St where
  left : List UInt8
  line : Nat
  col : Nat
  fin : Option (Nat × Nat)

def endT (o : Option (Nat × Nat)) : List Tok := match o with | none => [] | some p => [⟨5, [], p.1, p.2⟩]

/-- The tokens of what is left, and the first error. -/
def lexF : Nat → St → List Tok × Option Bad
  | 0, _ => ([], none)
  | f + 1, s =>
    match s.left.drop (blankN s.left) with
    | [] => (endT s.fin, none)
    | c :: r =>
      if c = 10 then
        let q := lexF f ⟨r, s.line + 1, 1, none⟩
        (endT s.fin ++ q.1, q.2)
      else
        let k := kindL (c :: r)
        let col := s.col + blankN s.left
        if k.2.2 = 0 then
          let q := lexF f ⟨(c :: r).drop k.2.1, s.line, col + k.2.1, some (s.line, col + k.2.1)⟩
          (⟨k.1, (c :: r).take k.2.1, s.line, col⟩ :: q.1, q.2)
        else ([], some ⟨k.2.2, s.line, col⟩)

def start (l : List UInt8) : St := ⟨l, 1, 1, none⟩
def lexS (l : List UInt8) : List Tok × Option Bad := lexF (l.length + 1) (start l)

/-- What Lex answers: the tokens, and the error (0 if there is none). -/
def lexT (l : List UInt8) : List Tok := if l.length ≤ 65536 then (match (lexS l).2 with | none => (lexS l).1 | some _ => []) else []
def lexE (l : List UInt8) : Bad := if l.length ≤ 65536 then (match (lexS l).2 with | none => ⟨0, 0, 0⟩ | some b => b) else ⟨3, 0, 0⟩

theorem spanN_le (p : UInt8 → Bool) (l : List UInt8) : spanN p l ≤ l.length := by
  induction l with
  | nil => simp [spanN]
  | cons c l ih => unfold spanN; split <;> simp <;> omega

theorem blankN_le (l : List UInt8) : blankN l ≤ l.length := by
  unfold blankN
  have h := spanN_le blankB l
  simp only []
  split
  · rename_i r hr
    have h2 := spanN_le lineB (35 :: r)
    have h3 : (l.drop (spanN blankB l)).length = (35 :: r).length := by rw [hr]
    rw [List.length_drop] at h3
    simp only [List.length_cons] at h2 h3 ⊢
    omega
  · exact h

end Go.Proofs.YtgkknjlegfdcnaaDoor.Lx
