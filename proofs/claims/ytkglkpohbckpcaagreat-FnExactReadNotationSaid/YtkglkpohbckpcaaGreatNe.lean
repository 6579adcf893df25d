/- Plain facts on notations: kinds of texts, their characters, their form, what is read. -/
import Derived.Test.YtkglkpohbckpcaaGreatNs
import Derived.Test.YtkglkpohbckpcaaGreatYm
import Derived.Test.YtkglkpohbckpcaaGreatYx
import Derived.Test.YtkglkpohbckpcaaGreatQs
namespace Go.Proofs.YtkglkpohbckpcaaGreat
open Go.RowKit
set_option linter.unusedVariables false

def kinR (l : List UInt8) : Nat := if 60 ∈ l then 4 else if 40 ∈ l then 3 else if 91 ∈ l then 2 else 1
def exsR (k : Nat) : List UInt8 := if k = 2 then [91, 93] else if k = 3 then [40, 41, 44, 120, 42] else if k = 4 then [60, 62, 124, 32, 112] else []
def chOk (k : Nat) (c : UInt8) : Bool := decide (0 ≤ rDig (c.toNat : Int)) || decide (c ∈ exsR k)
def badF (k : Nat) : Nat → List UInt8 → Option Nat
  | _, [] => none
  | i, c :: r => if chOk k c then badF k (i + 1) r else some i
theorem badF_ok {k i : Nat} {c : UInt8} {r : List UInt8} (h : chOk k c = true) : badF k i (c :: r) = badF k (i + 1) r := by rw [badF, if_pos h]
theorem badF_no {k i : Nat} {c : UInt8} {r : List UInt8} (h : chOk k c = false) : badF k i (c :: r) = some i := by rw [badF, if_neg (by rw [h]; simp)]
theorem kinR_cases (l : List UInt8) : kinR l = 1 ∨ kinR l = 2 ∨ kinR l = 3 ∨ kinR l = 4 := by
  unfold kinR
  split
  · simp
  · split
    · simp
    · split <;> simp
def halfR : Option (List Beat) → Bool
  | some p => decide (p.length ≤ 3)
  | none => false
def formR (l : List UInt8) : Bool :=
  if kinR l = 1 then thOk (rdDig l) else if kinR l = 2 then (rdM l).isSome
  else if kinR l = 3 then (if l.getLast? = some 42 then halfR (rdB l.dropLast) else (rdB l).isSome) else (rdPa l).isSome
def noteR (l : List UInt8) : Bool :=
  if kinR l = 1 then okP (rdDig l) else if kinR l = 2 then (rReadMulti l).2 else if kinR l = 3 then (rReadSync l).2 else (rReadPassing l).2
def faultB (l : List UInt8) : Option Nat → Int × Int
  | some i => (3, (i : Int))
  | none => if formR l = false then (4, 0) else if noteR l then (0, 0) else if kinR l = 1 then (5, (rCollisionOf (rdDig l)).2.1) else (5, 0)
def rFaultL (l : List UInt8) : Int × Int :=
  if l = [] then (1, 0) else if 200 < l.length then (2, 200) else faultB l (badF (kinR l) 0 l)
end Go.Proofs.YtkglkpohbckpcaaGreat
