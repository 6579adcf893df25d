/- Several texts in one: Nqa, Yp, Ne, Nc. -/
import Derived.Test.YtgphkfnobmponaaGreatG05
import Derived.Test.YtgphkfnobmponaaGreatG06
import Derived.Test.YtgphkfnobmponaaGreatG17
import Derived.Test.YtgphkfnobmponaaGreatG08
import Derived.Test.YtgphkfnobmponaaGreatDw
import Derived.Test.YtgphkfnobmponaaGreatNs
import Derived.Test.YtgphkfnobmponaaGreatG14
import Derived.Test.YtgphkfnobmponaaGreatYx
import Derived.Test.YtgphkfnobmponaaGreatQs
import Derived.Test.YtgphkfnobmponaaGreatG15
import Derived.Test.YtgphkfnobmponaaGreatG09
/- Notations: their values, where their lists lie, how they are read. -/
namespace Go.Proofs.YtgphkfnobmponaaGreat
open Go.RowKit
set_option linter.unusedVariables false

abbrev Note := Int × List Int × List (List Int) × List Beat × Psg
def noNote : Note := (0, [], [], [], ([], []))
/-- Where the five lists of a notation lie. -/
structure Six where
  A : Option Addr
  c : Nat
  A2 : Option Addr
  c2 : Nat
  A3 : Option Addr
  c3 : Nat
  A4 : Option Addr
  c4 : Nat
  A5 : Option Addr
  c5 : Nat
theorem zc {w : World} {g : Nat} {t : TypeId} {v0 v1 v2 v3 v4 v5 : Value} (h : Bx w g t #[v0, v1, v2, v3, v4, v5]) :
    (w.cell? ⟨g, 0, none⟩ = some v0 ∧ w.cell? ⟨g, 1, none⟩ = some v1 ∧ w.cell? ⟨g, 2, none⟩ = some v2 ∧ w.cell? ⟨g, 3, none⟩ = some v3 ∧ w.cell? ⟨g, 4, none⟩ = some v4 ∧ w.cell? ⟨g, 5, none⟩ = some v5) ∧
    (w.frozen? ⟨g, 0, none⟩ = false ∧ w.frozen? ⟨g, 1, none⟩ = false ∧ w.frozen? ⟨g, 2, none⟩ = false ∧ w.frozen? ⟨g, 3, none⟩ = false ∧ w.frozen? ⟨g, 4, none⟩ = false ∧ w.frozen? ⟨g, 5, none⟩ = false) :=
  ⟨⟨h.cell 0, h.cell 1, h.cell 2, h.cell 3, h.cell 4, h.cell 5⟩, ⟨h.frozen 0, h.frozen 1, h.frozen 2, h.frozen 3, h.frozen 4, h.frozen 5⟩⟩
/-- A world that has just been made gets a name. -/
theorem wl_name {P : Program} {ops : Array Oper} {Q : Exit → Act → World → Prop} {rest : List Oper} {a : Act} {w1 : World} {O : Obj} (h : ∀ W, w1.alloc O = W → wpList P ops Q rest a W) : wpList P ops Q rest a (w1.alloc O) := h _ rfl
/-- The notation that lies there reads as x. -/
def NtRd (x : Note) (s : Six) (w : World) : Prop :=
  Rd w w.heap.size 1 s.A x.2.1.length (ints x.2.1) ∧ RdG w w.heap.size s.A2 x.2.2.1.length x.2.2.1 ∧ Rd w w.heap.size 4 s.A3 x.2.2.2.1.length (bts x.2.2.2.1) ∧ Rd w w.heap.size 2 s.A4 x.2.2.2.2.1.length (ths x.2.2.2.2.1) ∧ Rd w w.heap.size 2 s.A5 x.2.2.2.2.2.length (ths x.2.2.2.2.2)
theorem NtRd.below {x : Note} {s : Six} {w w' : World} (h : NtRd x s w) (hb : Below w.heap.size w w') : NtRd x s w' := by
  obtain ⟨h1, h2, h3, h4, h5⟩ := h
  exact ⟨(h1.below hb (Nat.le_refl _)).more hb.size, (h2.below hb (Nat.le_refl _)).more hb.size, (h3.below hb (Nat.le_refl _)).more hb.size, (h4.below hb (Nat.le_refl _)).more hb.size, (h5.below hb (Nat.le_refl _)).more hb.size⟩
/-- Lists that are short. -/
def NtSm (x : Note) : Prop := x.2.1.length ≤ 2000000 ∧ (x.2.2.1.length ≤ 2000000 ∧ (∀ r ∈ x.2.2.1, r.length ≤ 2000000) ∧ tot x.2.2.1 ≤ 2000000) ∧ x.2.2.2.1.length ≤ 2000000 ∧ x.2.2.2.2.1.length ≤ 2000000 ∧ x.2.2.2.2.2.length ≤ 2000000
/-- An owned row under a store into a block below its own. -/
theorem own_put0 {w : World} {base e sz n : Nat} {v : Value} {xs : List Value} (h : w.ownsRow base e sz v n xs) {p : Addr} (hp : p.block < base) (u : Value) : (w.setCell p u).ownsRow base e sz v n xs := by
  refine ⟨h.1, ?_⟩
  rcases h.2 with hn | ⟨g, cap, cur, rfl, hg, hh, r⟩
  · exact .inl hn
  · exact .inr ⟨g, cap, cur, rfl, hg, by rw [Below.heap_setCell w p u g (by omega)]; exact hh, r⟩
end Go.Proofs.YtgphkfnobmponaaGreat

/- Contracts of PairUp. -/
namespace Go.Proofs.YtgphkfnobmponaaGreat
open Go.RowKit
set_option linter.unusedVariables false

theorem all_nth : ∀ {p : List Beat}, p.all btOk = true ↔ ∀ k, k < 2 * p.length → thrOk (nth p k) = true := by
  intro p
  induction p with
  | nil => simp
  | cons b p ih =>
    rw [List.all_cons, Bool.and_eq_true, ih]
    constructor
    · rintro ⟨h1, h2⟩ k hk
      simp only [btOk, Bool.and_eq_true] at h1
      match k, hk with
      | 0, _ => exact h1.1
      | 1, _ => exact h1.2
      | k + 2, hk => rw [nth_cons]; exact h2 k (by rw [List.length_cons] at hk; omega)
    · intro h
      refine ⟨?_, fun k hk => ?_⟩
      · simp only [btOk, Bool.and_eq_true]
        exact ⟨h 0 (by rw [List.length_cons]; omega), h 1 (by rw [List.length_cons]; omega)⟩
      · have := h (k + 2) (by rw [List.length_cons]; omega)
        rwa [nth_cons] at this
theorem prP_all {n : Nat} {a : List Int} (h : a.length = 2 * n) : (prP a).all btOk = true ↔ ∀ k, k < a.length → thrOk (bkT k (a.getD k 0)) = true := by
  rw [all_nth, prP_len n a h, h]
  constructor
  · intro g k hk; rw [← prP_nth n a h k hk]; exact g k hk
  · intro g k hk; rw [prP_nth n a h k hk]; exact g k hk
theorem prP_step {n : Nat} {a : List Int} (h : a.length = 2 * n) {j : Nat} (hj : j < n) : (prP a).take (j + 1) = (prP a).take j ++ [(bkT (2 * j) (a.getD (2 * j) 0), bkT (2 * j + 1) (a.getD (2 * j + 1) 0))] := by
  have hl := prP_len n a h
  have h0 := prP_nth n a h (2 * j) (by omega)
  have h1 := prP_nth n a h (2 * j + 1) (by omega)
  have e0 : nth (prP a) (2 * j) = ((prP a).getD j b0).1 := by unfold nth; rw [if_pos (by omega), show 2 * j / 2 = j by omega]
  have e1 : nth (prP a) (2 * j + 1) = ((prP a).getD j b0).2 := by unfold nth; rw [if_neg (by omega), show (2 * j + 1) / 2 = j by omega]
  rw [← h0, ← h1, e0, e1, List.take_add_one, List.getElem?_eq_getElem (by omega), List.getD_eq_getElem?_getD, List.getElem?_eq_getElem (by omega)]; rfl
theorem bkT_odd {k : Nat} {x : Int} (h : x % 2 = 1) : bkT k x = (x + (2 * ((k : Int) % 2) - 1), true) := by
  rw [bkT, if_pos h]; exact Prod.ext (by simp) rfl
theorem bkT_even {k : Nat} {x : Int} (h : ¬ x % 2 = 1) : bkT k x = (x, false) := by rw [bkT, if_neg h]
set_option maxHeartbeats 400000 in
theorem l05Back_any (x : Int) (k : Nat) (w : World) (x0 : 0 ≤ x) (x1 : x ≤ 15) (hk : k < 2) :
    Calls Tryz.prog 146 #[.int .i64 x, .int .i64 (k : Int)] w fun e w' => e = .returned (.tuple #[.agg #[.int .i64 (bkT k x).1, .bool (bkT k x).2], .bool (thrOk (bkT k x))]) ∧ Below w.heap.size w w' := by
  by_cases hx : x % 2 = 1
  · have hq : (x % 2 == 1) = true := by simpa using hx
    rw [bkT_odd hx]
    have hkk : k = 0 ∨ k = 1 := by omega
    rcases hkk with rfl | rfl
    · have hy : x + (2 * (((0 : Nat) : Int) % 2) - 1) = x - 1 := by simp; omega
      rw [hy]
      have hT := hid (fun w1 => l05Throw_any (x - 1) true w1)
      generalize thrOk (x - 1, true) = tb at *
      clear hy hx
      go_enter Tryz.func146, Tryz.ntmps146
      go_wp2
      go_region_held3 (fun w' => w'.cell? ⟨w.heap.size + 1, 0, none⟩ = some (.int .i64 (x - 1)) ∧ w'.cell? ⟨w.heap.size + 1, 1, none⟩ = some (.bool true)) (go_keep) ((go_at_call 137; refine (hT.out _).mono ?_; rintro e w5 ⟨rfl, hb5⟩; have hcl := (fun o => hb5.cell (p := ⟨w.heap.size, o, none⟩) (by first | (simp; done) | (simp; omega))); have hfl := (fun o => hb5.frozen (p := ⟨w.heap.size, o, none⟩) (by first | (simp; done) | (simp; omega))); have hcl2 := (fun o => hb5.cell (p := ⟨w.heap.size + 1, o, none⟩) (by first | (simp; done) | (simp; omega)))))
      all_goals
        go_wp2
        refine bodyPost_ret (v := .tuple #[.agg #[.int .i64 (x - 1), .bool true], .bool tb]) ?_ rfl ⟨rfl, ?_⟩
        · simp (maxDischargeDepth := 8) [results, Tryz.results146, go_sem, *]
        · exact (by repeat' (first | exact Below.refl _ _ | (with_reducible first | assumption | exact Nat.le_refl _ | refine Below.alloc ?_ ?_ _ | refine Below.setCell ?_ ?_ _ | refine Below.drew ?_ | refine below_drewN ?_ _) | refine Below.trans ?_ (Below.mono (by assumption) ?_) | exact Below.size (by assumption) | omega | go_size | (simp at *; omega)))
    · have hy : x + (2 * (((1 : Nat) : Int) % 2) - 1) = x + 1 := by simp
      rw [hy]
      have hT := hid (fun w1 => l05Throw_any (x + 1) true w1)
      generalize thrOk (x + 1, true) = tb at *
      clear hy hx
      go_enter Tryz.func146, Tryz.ntmps146
      go_wp2
      go_region_held3 (fun w' => w'.cell? ⟨w.heap.size + 1, 0, none⟩ = some (.int .i64 (x + 1)) ∧ w'.cell? ⟨w.heap.size + 1, 1, none⟩ = some (.bool true)) (go_keep) ((go_at_call 137; refine (hT.out _).mono ?_; rintro e w5 ⟨rfl, hb5⟩; have hcl := (fun o => hb5.cell (p := ⟨w.heap.size, o, none⟩) (by first | (simp; done) | (simp; omega))); have hfl := (fun o => hb5.frozen (p := ⟨w.heap.size, o, none⟩) (by first | (simp; done) | (simp; omega))); have hcl2 := (fun o => hb5.cell (p := ⟨w.heap.size + 1, o, none⟩) (by first | (simp; done) | (simp; omega)))))
      all_goals
        go_wp2
        refine bodyPost_ret (v := .tuple #[.agg #[.int .i64 (x + 1), .bool true], .bool tb]) ?_ rfl ⟨rfl, ?_⟩
        · simp (maxDischargeDepth := 8) [results, Tryz.results146, go_sem, *]
        · exact (by repeat' (first | exact Below.refl _ _ | (with_reducible first | assumption | exact Nat.le_refl _ | refine Below.alloc ?_ ?_ _ | refine Below.setCell ?_ ?_ _ | refine Below.drew ?_ | refine below_drewN ?_ _) | refine Below.trans ?_ (Below.mono (by assumption) ?_) | exact Below.size (by assumption) | omega | go_size | (simp at *; omega)))
  · have hq : (x % 2 == 1) = false := by simpa using hx
    rw [bkT_even hx]
    · have hT := hid (fun w1 => l05Throw_any x false w1)
      generalize thrOk (x, false) = tb at *
      clear hx
      go_enter Tryz.func146, Tryz.ntmps146
      go_wp2
      go_region_held3 (fun w' => w'.cell? ⟨w.heap.size + 1, 0, none⟩ = some (.int .i64 x) ∧ w'.cell? ⟨w.heap.size + 1, 1, none⟩ = some (.bool false)) (go_keep) ((go_at_call 137; refine (hT.out _).mono ?_; rintro e w5 ⟨rfl, hb5⟩; have hcl := (fun o => hb5.cell (p := ⟨w.heap.size, o, none⟩) (by first | (simp; done) | (simp; omega))); have hfl := (fun o => hb5.frozen (p := ⟨w.heap.size, o, none⟩) (by first | (simp; done) | (simp; omega))); have hcl2 := (fun o => hb5.cell (p := ⟨w.heap.size + 1, o, none⟩) (by first | (simp; done) | (simp; omega)))))
      all_goals
        go_wp2
        refine bodyPost_ret (v := .tuple #[.agg #[.int .i64 x, .bool false], .bool tb]) ?_ rfl ⟨rfl, ?_⟩
        · simp (maxDischargeDepth := 8) [results, Tryz.results146, go_sem, *]
        · exact (by repeat' (first | exact Below.refl _ _ | (with_reducible first | assumption | exact Nat.le_refl _ | refine Below.alloc ?_ ?_ _ | refine Below.setCell ?_ ?_ _ | refine Below.drew ?_ | refine below_drewN ?_ _) | refine Below.trans ?_ (Below.mono (by assumption) ?_) | exact Below.size (by assumption) | omega | go_size | (simp at *; omega)))
end Go.Proofs.YtgphkfnobmponaaGreat

/- Plain facts on notations: kinds of texts, their characters, their form, what is read. -/
namespace Go.Proofs.YtgphkfnobmponaaGreat
open Go.RowKit
set_option linter.unusedVariables false

def kinR (l : List UInt8) : Nat := if 60 ∈ l then 4 else if 40 ∈ l then 3 else if 91 ∈ l then 2 else 1
def exsR (k : Nat) : List UInt8 := if k = 2 then [91, 93] else if k = 3 then [40, 41, 44, 120, 42] else if k = 4 then [60, 62, 124, 32, 112] else []
def chOk (k : Nat) (c : UInt8) : Bool := decide (0 ≤ rDig (c.toNat : Int)) || decide (c ∈ exsR k)
def badF (k : Nat) : Nat → List UInt8 → Option Nat
  | _, [] => none
  | i, c :: r => if chOk k c then badF k (i + 1) r else some i
theorem badF_ok {k i : Nat} {c : UInt8} {r : List UInt8} (h : chOk k c = true) : badF k i (c :: r) = badF k (i + 1) r := by rw [badF, if_pos h]
theorem badF_no {k i : Nat} {c : UInt8} {r : List UInt8} (h : chOk k c = false) : badF k i (c :: r) = some i := by rw [badF, if_neg (by rw [h]; simp)]
theorem kinR_cases (l : List UInt8) : kinR l = 1 ∨ kinR l = 2 ∨ kinR l = 3 ∨ kinR l = 4 := by
  unfold kinR
  split
  · simp
  · split
    · simp
    · split <;> simp
def halfR : Option (List Beat) → Bool
  | some p => decide (p.length ≤ 3)
  | none => false
def formR (l : List UInt8) : Bool :=
  if kinR l = 1 then thOk (rdDig l) else if kinR l = 2 then (rdM l).isSome
  else if kinR l = 3 then (if l.getLast? = some 42 then halfR (rdB l.dropLast) else (rdB l).isSome) else (rdPa l).isSome
def noteR (l : List UInt8) : Bool :=
  if kinR l = 1 then okP (rdDig l) else if kinR l = 2 then (rReadMulti l).2 else if kinR l = 3 then (rReadSync l).2 else (rReadPassing l).2
def faultB (l : List UInt8) : Option Nat → Int × Int
  | some i => (3, (i : Int))
  | none => if formR l = false then (4, 0) else if noteR l then (0, 0) else if kinR l = 1 then (5, (rCollisionOf (rdDig l)).2.1) else (5, 0)
def rFaultL (l : List UInt8) : Int × Int :=
  if l = [] then (1, 0) else if 200 < l.length then (2, 200) else faultB l (badF (kinR l) 0 l)
end Go.Proofs.YtgphkfnobmponaaGreat

/- Contracts of the readers of multiplex patterns, the program's: readStacks, ReadMulti. -/
namespace Go.Proofs.YtgphkfnobmponaaGreat
open Go.RowKit
set_option linter.unusedVariables false

/-- Rows of the call's own, and whether they are beats. -/
def MuRes (B N : Nat) (r : Option (List (List Int))) (e : Ending) (w : World) : Prop := ∃ (q : List (List Int)) (A : Option Addr) (c : Nat), q.length ≤ N ∧ (∀ x ∈ q, x.length ≤ N) ∧ e = .returned (.tuple #[.slice A q.length c, .bool r.isSome]) ∧ Grid w B w.heap.size (.slice A q.length c) q ∧ ∀ q', r = some q' → q' = q
theorem MuRes.no (B N : Nat) (w : World) : MuRes B N none (.returned (.tuple #[.slice none 0 0, .bool false])) w := ⟨[], none, 0, Nat.zero_le _, (fun x h => by cases h), rfl, Grid.nil _ _ _, (fun q h => by cases h)⟩
theorem MuRes.mk {B N : Nat} {w : World} {A : Option Addr} {c : Nat} {q : List (List Int)} {r : Option (List (List Int))} {b : Bool} (h1 : q.length ≤ N) (h2 : ∀ x ∈ q, x.length ≤ N) (h : Grid w B w.heap.size (.slice A q.length c) q) (hb : r.isSome = b) (hr : ∀ q', r = some q' → q' = q) : MuRes B N r (.returned (.tuple #[.slice A q.length c, .bool b])) w := ⟨q, A, c, h1, h2, by rw [hb], h, hr⟩
/-- A pattern of the call's own, and a yes or no. -/
def RmRes (B : Nat) (r : List (List Int) × Bool) (e : Ending) (w : World) : Prop := ∃ (A : Option Addr) (c : Nat), e = .returned (.tuple #[.agg #[.slice A r.1.length c], .bool r.2]) ∧ Grid w B w.heap.size (.slice A r.1.length c) r.1
theorem RmRes.no (B : Nat) (w : World) : RmRes B ([], false) (.returned (.tuple #[.agg #[.slice none 0 0], .bool false])) w := ⟨none, 0, rfl, Grid.nil _ _ _⟩
theorem RmRes.mk {B : Nat} {w : World} {A : Option Addr} {c : Nat} {q : List (List Int)} {b : Bool} (h : Grid w B w.heap.size (.slice A q.length c) q) : RmRes B (q, b) (.returned (.tuple #[.agg #[.slice A q.length c], .bool b])) w := ⟨A, c, rfl, h⟩
theorem rows_snoc {rows : List (List Int)} {row : List Int} {N : Nat} (h : ∀ r ∈ rows, r.length ≤ N) (hr : row.length ≤ N) : ∀ r ∈ rows ++ [row], r.length ≤ N := fun r hm => by
  rcases List.mem_append.1 hm with h1 | h1
  · exact h r h1
  · rw [List.mem_singleton.1 h1]; exact hr
theorem u8q {x c : UInt8} : (((x.toNat : Int)) == (c.toNat : Int)) = decide (x = c) := by
  rw [Bool.eq_iff_iff]
  simp only [beq_iff_eq, Int.natCast_inj, decide_eq_true_eq]
  exact UInt8.toNat_inj
set_option maxRecDepth 100000 in
set_option maxHeartbeats 2000000 in
theorem readStacks_any (s : ByteArray) (w : World) (hs : s.size ≤ 1099511627775) :
    Calls Tryz.prog 64 #[.string s] w fun e w' => MuRes w.heap.size s.size (rdM (tl s)) e w' ∧ Below w.heap.size w w' := by
  have hst : Hid (mpR [] none ((tl s).drop 0) = mprs none (tl s)) := mpR_start _
  rw [rdM]
  generalize mprs none (tl s) = R at *
  go_enter Tryz.func64, Tryz.ntmps64
  go_wp2
  go_loopw [4, 5] (fun v i wr => Hid (∃ (k : Nat) (rows : List (List Int)), k ≤ s.size ∧ i = .int .i64 k ∧ rows.length ≤ k ∧ Hid (∀ r ∈ rows, r.length ≤ s.size) ∧ Hid (mpR rows none ((tl s).drop k) = R) ∧ Grid wr w.heap.size wr.heap.size v rows ∧ Below w.heap.size w wr)) (fun _ i _ => s.size - (intOf i).toNat)
  case atStart => exact hid ⟨0, [], Nat.zero_le _, rfl, Nat.zero_le _, hid (fun r h => by cases h), hst, Grid.lit _ _ (Nat.le_refl _), (by repeat' (first | exact Below.refl _ _ | (with_reducible first | assumption | exact Nat.le_refl _ | refine Below.alloc ?_ ?_ _ | refine Below.setCell ?_ ?_ _ | refine Below.drew ?_ | refine below_drewN ?_ _) | refine Below.trans ?_ (Below.mono (by assumption) ?_) | exact Below.size (by assumption) | omega | go_size | (simp at *; omega)))⟩
  case round =>
    obtain ⟨k, rows, hk, rfl, hrl, hrb, he, hG, hb0⟩ := hrel.out
    clear hrel hst
    have hz0 := hb0.size
    obtain ⟨wi, rfl⟩ : ∃ wi : World, wi = wr := ⟨_, rfl⟩
    obtain ⟨A, c, rfl⟩ := hG.form
    by_cases hlt : k < s.size
    · have he1 := he.out
      rw [tl_drop s k hlt] at he1
      by_cases h91 : s[k]'hlt = 91
      · have hq : (((s[k]'hlt).toNat : Int) == 91) = true := by rw [h91]; rfl
        have hqn : (((s[k]'hlt).toNat : Int) != 91) = false := by rw [h91]; rfl
        rw [h91, mpR_open] at he1
        have HI := hid he1
        clear he1 he h91
        go_wp2
        clear hqn
        go_loopw [5, 6] (fun i v wx => Hid (∃ (j : Nat) (row : List Int), j ≤ s.size ∧ Hid (k + 1 + row.length = j) ∧ i = .int .i64 j ∧ Hid (mpR rows (some row) ((tl s).drop j) = R) ∧ wx.ownsRow wi.heap.size 2 1 v row.length (ints row) ∧ Below wi.heap.size wi wx)) (fun i _ _ => s.size - (intOf i).toNat)
        case atStart => exact hid ⟨k + 1, [], by omega, by show _ = _; simp, by go_num, HI, World.ownsRow_lit _ _ 0 (Nat.le_refl _) (by simp [maxLen]) rfl, (by repeat' (first | exact Below.refl _ _ | (with_reducible first | assumption | exact Nat.le_refl _ | refine Below.alloc ?_ ?_ _ | refine Below.setCell ?_ ?_ _ | refine Below.drew ?_ | refine below_drewN ?_ _) | refine Below.trans ?_ (Below.mono (by assumption) ?_) | exact Below.size (by assumption) | omega | go_size | (simp at *; omega)))⟩
        case round =>
          clear HI hq
          obtain ⟨j, row, hj, hkj, rfl, hi, ho, hb1⟩ := hrel.out
          clear hrel
          have hz1 := hb1.size
          obtain ⟨A6, c6, rfl⟩ := own_form ho
          have hrl6 : row.length ≤ s.size := by have := hkj.out; omega
          have hkj2 : k + 1 ≤ j := by have := hkj.out; omega
          have hB1 : Below w.heap.size w wr := hb0.trans (hb1.mono hz0)
          by_cases hjl : j < s.size
          · have hi1 := hi.out
            rw [tl_drop s j hjl] at hi1
            by_cases h93 : s[j]'hjl = 93
            · have hq : (((s[j]'hjl).toNat : Int) == 93) = true := by rw [h93]; rfl
              have hjn : ((j : Int) == (s.size : Int)) = false := by simp; omega
              rw [h93] at hi1
              by_cases h2 : row.length < 2
              · rw [mpR_short h2] at hi1
                have h2I : (row.length : Int) < 2 := by omega
                clear hi h93
                go_wp2
                go_ret2
                exact ⟨by rw [← hi1]; exact MuRes.no _ _ _, hB1⟩
              · rw [mpR_close h2] at hi1
                have HI := hid hi1
                have h2I : ¬ (row.length : Int) < 2 := by omega
                have hG2 := hG.below hb1
                have hum : ∀ g, (Value.slice A6 row.length c6).ownBlock = some g → wi.heap.size ≤ g := fun g h => (ho.lt g h).1
                have HRB := hid (rows_snoc hrb.out (show row.length ≤ s.size by have := hkj.out; omega))
                clear hi h93 hi1 h2
                go_wp2_with (at_builtin; refine push_row hG2 (own_more ho hz0) hum hz1 _ Tryz.underlying25 inf_row rfl _ _ rfl rfl rfl (by omega) (by omega) ?_; intro v4 w4 hG4 hb4 hg4)
                go_roundw
                case rel => exact hid ⟨j + 1, rows ++ [row], by omega, by go_num, by rw [List.length_append]; simp; omega, HRB, HI, hG4.up (by first | exact hb4.size | (have := hb4.size; simp at *; omega)), (by repeat' (first | exact Below.refl _ _ | (with_reducible first | assumption | exact Nat.le_refl _ | refine Below.alloc ?_ ?_ _ | refine Below.setCell ?_ ?_ _ | refine Below.drew ?_ | refine below_drewN ?_ _) | refine Below.trans ?_ (Below.mono (by assumption) ?_) | exact Below.size (by assumption) | omega | go_size | (simp at *; omega)))⟩
                case measure => simp [intOf]; omega
            · have hq : (((s[j]'hjl).toNat : Int) == 93) = false := by rw [show (93 : Int) = ((93 : UInt8).toNat : Int) from rfl, u8q]; exact decide_eq_false h93
              rw [mpR_more h93] at hi1
              have HI := hid hi1
              have hby : ((s[j]'hjl).toNat : Int) ≤ 255 := by have := (s[j]'hjl).toNat_lt; omega
              have hby0 : 0 ≤ ((s[j]'hjl).toNat : Int) := by omega
              have hD := hid (hexOf_any ((s[j]'hjl).toNat : Int) hby0 hby wr)
              generalize rDig ((s[j]'hjl).toNat : Int) = d at *
              clear hi h93 hi1
              go_wp2_with (first | (go_at_call 35; refine (hD.out).mono ?_; rintro e w' ⟨rfl, rfl⟩) | (at_builtin; refine push_int ho (d) _ Tryz.underlying24 inf_int rfl rfl _ _ rfl rfl rfl (by omega) (by omega) ?_; intro v1 w1 ho1 hb1 hg1))
              go_roundw
              case rel => exact hid ⟨j + 1, row ++ [d], by omega, by show _ = _; have := hkj.out; rw [List.length_append, List.length_singleton]; omega, by go_num, HI, by simpa using ho1, (by repeat' (first | exact Below.refl _ _ | (with_reducible first | assumption | exact Nat.le_refl _ | refine Below.alloc ?_ ?_ _ | refine Below.setCell ?_ ?_ _ | refine Below.drew ?_ | refine below_drewN ?_ _) | refine Below.trans ?_ (Below.mono (by assumption) ?_) | exact Below.size (by assumption) | omega | go_size | (simp at *; omega)))⟩
              case measure => simp [intOf]; omega
          · have hjn : ((j : Int) == (s.size : Int)) = true := by simp; omega
            have hi1 := hi.out
            rw [List.drop_eq_nil_of_le (by rw [tl_len]; omega), mpR_stop] at hi1
            clear hi
            go_wp2
            go_ret2
            exact ⟨by rw [← hi1]; exact MuRes.no _ _ _, hB1⟩
      · have hq : (((s[k]'hlt).toNat : Int) == 91) = false := by rw [show (91 : Int) = ((91 : UInt8).toNat : Int) from rfl, u8q]; exact decide_eq_false h91
        rw [mpR_one h91] at he1
        have HI := hid he1
        have hby : ((s[k]'hlt).toNat : Int) ≤ 255 := by have := (s[k]'hlt).toNat_lt; omega
        have hby0 : 0 ≤ ((s[k]'hlt).toNat : Int) := by omega
        have hD := hid (hexOf_any ((s[k]'hlt).toNat : Int) hby0 hby wi)
        generalize rDig ((s[k]'hlt).toNat : Int) = d at *
        have hbA : Below wi.heap.size wi (wi.alloc (Obj.cells #[.int .i64 d] 2)) := (by repeat' (first | exact Below.refl _ _ | (with_reducible first | assumption | exact Nat.le_refl _ | refine Below.alloc ?_ ?_ _ | refine Below.setCell ?_ ?_ _ | refine Below.drew ?_ | refine below_drewN ?_ _) | refine Below.trans ?_ (Below.mono (by assumption) ?_) | exact Below.size (by assumption) | omega | go_size | (simp at *; omega)))
        have hG2 := hG.below hbA
        have hz1 := hbA.size
        have hsz : Hid ((wi.alloc (Obj.cells #[.int .i64 d] 2)).heap.size = wi.heap.size + 1) := by show _ = _; simp
        have ho : (wi.alloc (Obj.cells #[.int .i64 d] 2)).ownsRow wi.heap.size 2 1 (.slice (some ⟨wi.heap.size, 0, none⟩) 1 1) [d].length (ints [d]) := World.ownsRow_lit _ _ 1 (Nat.le_refl _) (by simp [maxLen]) rfl
        have hum : ∀ g, (Value.slice (some ⟨wi.heap.size, 0, none⟩) 1 1).ownBlock = some g → wi.heap.size ≤ g := fun g h => (ho.lt g h).1
        have HRB := hid (rows_snoc hrb.out (show [d].length ≤ s.size by simp; omega))
        clear he he1 h91
        go_wp2_with (first | (go_at_call 35; refine (hD.out).mono ?_; rintro e w' ⟨rfl, rfl⟩) | (at_builtin; refine push_row hG2 (own_more ho hz0) hum hz1 _ Tryz.underlying25 inf_row rfl _ _ rfl rfl (by rw [hsz.out]; rfl) (by omega) (by rw [hsz.out]; omega) ?_; intro v4 w4 hG4 hb4 hg4))
        go_roundw
        case rel => exact hid ⟨k + 1, rows ++ [[d]], by omega, by go_num, by rw [List.length_append]; simp; omega, HRB, HI, hG4.up (by first | exact hb4.size | (have := hb4.size; simp at *; omega)), (by repeat' (first | exact Below.refl _ _ | (with_reducible first | assumption | exact Nat.le_refl _ | refine Below.alloc ?_ ?_ _ | refine Below.setCell ?_ ?_ _ | refine Below.drew ?_ | refine below_drewN ?_ _) | refine Below.trans ?_ (Below.mono (by assumption) ?_) | exact Below.size (by assumption) | omega | go_size | (simp at *; omega)))⟩
        case measure => simp [intOf]; omega
    · have hT := areStacks_any A rows.length c rows wi (by omega) (fun r hr => by have := hrb.out r hr; omega) hG.read
      have he1 := he.out
      rw [List.drop_eq_nil_of_le (by rw [tl_len]; omega), mpR_end] at he1
      subst he1
      have HS := hid (shp_isSome rows)
      have HE := hid (fun q' (h : shp (some rows) = some q') => shp_eq h)
      generalize msSh rows = b at *
      have hT := hid hT
      clear he
      go_wp2_with (go_at_call 99; refine (hT.out).mono ?_; rintro e w' ⟨rfl, rfl⟩)
      go_ret2
      exact ⟨MuRes.mk (by omega) hrb.out hG HS.out HE.out, hb0⟩
/-- A cell below the grid is written: the grid stays. -/
theorem Grid.setq {w : World} {base M : Nat} {v : Value} {rows : List (List Int)} (h : Grid w base M v rows) {p : Addr} (hp : p.block < base) (u : Value) : Grid (w.setCell p u) base M v rows := by
  have key : ∀ {e sz n : Nat} {x : Value} {xs : List Value}, w.ownsRow base e sz x n xs → (w.setCell p u).ownsRow base e sz x n xs := by
    intro e sz n x xs h
    refine ⟨h.1, ?_⟩
    rcases h.2 with hn | ⟨g, cap, cur, rfl, hg, hh, r⟩
    · exact .inl hn
    · exact .inr ⟨g, cap, cur, rfl, hg, by rw [Below.heap_setCell w p u g (by omega)]; exact hh, r⟩
  obtain ⟨vs, h1, h2, h3, h4⟩ := h
  exact ⟨vs, h1, key h2, fun j u row a b => ⟨key (h3 j u row a b).1, (h3 j u row a b).2⟩, h4⟩
theorem mElse_T {q : List (List Int)} {b : Bool} (h : mOk q = b) : mElse (shp (some q)) = if b then (q, true) else ([], false) := by rw [mElse_shp, h]
set_option maxHeartbeats 1000000 in
theorem ReadMulti_any (s : ByteArray) (w : World) (hs : s.size ≤ 1099511627775) :
    Calls Tryz.prog 31 #[.string s] w fun e w' => RmRes w.heap.size (rReadMulti (tl s)) e w' ∧ Below w.heap.size w w' := by
  have hC := readStacks_any s (w.alloc (Obj.cells #[.slice none 0 0] 27)) hs
  have hX := Bx.new w 27 #[.slice none 0 0]
  rw [rReadMulti]
  have hrs : ∀ q, rdM (tl s) = some q → rdM (tl s) = shp (some q) := by
    intro q h
    have h2 := h
    rw [rdM] at h
    cases hm : mprs none (tl s) with
    | none => rw [hm] at h; cases h
    | some r => rw [hm] at h; have := shp_eq h; subst this; rw [h2]; exact h.symm
  generalize rdM (tl s) = r at *
  have hC := hid hC
  have HRS := hid hrs
  clear hrs
  go_enter Tryz.func31, Tryz.ntmps31
  go_wp2_with fail
  refine hC.out.mono ?_
  rintro e w1 ⟨⟨q, A, c, hq1, hq2, rfl, hG, hr⟩, hb1⟩
  have hX1 := hX.below hb1 hX.lt
  have z1 := hb1.size
  have hgr : w.heap.size < w1.heap.size := by simp at z1; omega
  have hB1 : Below w.heap.size w w1 := (by repeat' (first | exact Below.refl _ _ | (with_reducible first | assumption | exact Nat.le_refl _ | refine Below.alloc ?_ ?_ _ | refine Below.setCell ?_ ?_ _ | refine Below.drew ?_ | refine below_drewN ?_ _) | refine Below.trans ?_ (Below.mono (by assumption) ?_) | exact Below.size (by assumption) | omega | go_size | (simp at *; omega)))
  have e0 := hX1.cell 0
  have f0 := hX1.frozen 0
  replace e0 : w1.cell? ⟨w.heap.size, 0, none⟩ = some (.slice none 0 0) := e0
  have hbs : (w.alloc (Obj.cells #[.slice none 0 0] 27)).heap.size = w.heap.size + 1 := by simp
  rw [hbs] at hG
  have HG := hid hG
  have HR := hid hr
  clear hC hX hb1 hX1 hG hr hbs z1
  cases r with
  | none =>
    go_wp2
    refine bodyPost_ret (v := .tuple #[.agg #[.slice none 0 0], .bool false]) ?_ rfl ?_
    · simp (maxDischargeDepth := 8) [results, Tryz.results31, go_sem, *]
    exact ⟨RmRes.no _ _, (by repeat' (first | exact Below.refl _ _ | (with_reducible first | assumption | exact Nat.le_refl _ | refine Below.alloc ?_ ?_ _ | refine Below.setCell ?_ ?_ _ | refine Below.drew ?_ | refine below_drewN ?_ _) | refine Below.trans ?_ (Below.mono (by assumption) ?_) | exact Below.size (by assumption) | omega | go_size | (simp at *; omega)))⟩
  | some q1 =>
    have ep := HR.out q1 rfl
    subst ep
    obtain ⟨W, hW⟩ : ∃ W, w1.alloc (Obj.cells #[.slice A q1.length c] 27) = W := ⟨_, rfl⟩
    have hbW : Below w1.heap.size w1 W := by rw [← hW]; exact (by repeat' (first | exact Below.refl _ _ | (with_reducible first | assumption | exact Nat.le_refl _ | refine Below.alloc ?_ ?_ _ | refine Below.setCell ?_ ?_ _ | refine Below.drew ?_ | refine below_drewN ?_ _) | refine Below.trans ?_ (Below.mono (by assumption) ?_) | exact Below.size (by assumption) | omega | go_size | (simp at *; omega)))
    have hV := ValidMulti_any A q1.length c q1 W (by omega) (fun r hr => by have := hq2 r hr; omega) ((HG.out.read.below hbW (Nat.le_refl _)).more hbW.size)
    obtain ⟨pb, hpb⟩ : ∃ pb, mOk q1 = pb := ⟨_, rfl⟩
    rw [hpb] at hV
    rw [← hW] at hV
    have HE : Hid (mElse (some q1) = if pb then (q1, true) else ([], false)) := by show _ = _; rw [HRS.out q1 rfl]; exact mElse_T hpb
    have hV := hid hV
    clear HR hW hbW hpb HRS
    go_wp2_with fail
    refine hV.out.mono ?_
    rintro e w2 ⟨rfl, hb2⟩
    have hB2 : Below w1.heap.size w1 w2 := (by repeat' (first | exact Below.refl _ _ | (with_reducible first | assumption | exact Nat.le_refl _ | refine Below.alloc ?_ ?_ _ | refine Below.setCell ?_ ?_ _ | refine Below.drew ?_ | refine below_drewN ?_ _) | refine Below.trans ?_ (Below.mono (by assumption) ?_) | exact Below.size (by assumption) | omega | go_size | (simp at *; omega)))
    have q0 := (hB2.cell (p := ⟨w.heap.size, 0, none⟩) hgr).trans e0
    have q2 := (hB2.frozen (p := ⟨w.heap.size, 0, none⟩) hgr).trans f0
    have q4 : w2.cell? ⟨w1.heap.size, 0, none⟩ = some (.slice A q1.length c) := (hb2.cell (p := ⟨w1.heap.size, 0, none⟩) (by simp)).trans (by simp)
    clear hV hb2 e0 f0
    cases pb
    · go_wp2
      refine bodyPost_ret (v := .tuple #[.agg #[.slice none 0 0], .bool false]) ?_ rfl ?_
      · simp (maxDischargeDepth := 8) [results, Tryz.results31, go_sem, *]
      exact ⟨by rw [HE.out]; exact RmRes.no _ _, (by repeat' (first | exact Below.refl _ _ | (with_reducible first | assumption | exact Nat.le_refl _ | refine Below.alloc ?_ ?_ _ | refine Below.setCell ?_ ?_ _ | refine Below.drew ?_ | refine below_drewN ?_ _) | refine Below.trans ?_ (Below.mono (by assumption) ?_) | exact Below.size (by assumption) | omega | go_size | (simp at *; omega)))⟩
    · go_wp2
      refine bodyPost_ret (v := .tuple #[.agg #[.slice A q1.length c], .bool true]) ?_ rfl ?_
      · simp (maxDischargeDepth := 8) [results, Tryz.results31, go_sem, *]
      refine ⟨?_, (by repeat' (first | exact Below.refl _ _ | (with_reducible first | assumption | exact Nat.le_refl _ | refine Below.alloc ?_ ?_ _ | refine Below.setCell ?_ ?_ _ | refine Below.drew ?_ | refine below_drewN ?_ _) | refine Below.trans ?_ (Below.mono (by assumption) ?_) | exact Below.size (by assumption) | omega | go_size | (simp at *; omega)))⟩
      rw [HE.out]
      exact RmRes.mk (((HG.out.below hB2).setq (p := ⟨w.heap.size, 0, none⟩) (by show w.heap.size < _; omega) _).more (by omega)).size
end Go.Proofs.YtgphkfnobmponaaGreat
