/- Several texts in one: R, S, A, C, Ap, Bo. -/
import Derived.Test.YtgphkfnobmponaaGreatProg
import Derived.Test.YtgphkfnobmponaaGreatG01
import Derived.Deep.QuietTactic
import Derived.BigQuiet
import Derived.Laws.AppendOwnNone
import Derived.Deep.RegionLaw
/- Contracts of the source of drawn numbers (spec/l00_source.go): what is drawn lies in its range; nothing but the source's own block is written. -/
namespace Go.Proofs.YtgphkfnobmponaaGreat
open Go.RowKit
set_option linter.unusedVariables false

/-- Block g is a source over the bytes xs that has been asked at most K times. -/
def Src (w : World) (g : Nat) (A : Option Addr) (n c : Nat) (xs : List Int) (K : Nat) : Prop :=
  ∃ (at_ seed : Int), Bx w g 86 #[.slice A n c, .int .i64 at_, .int .u64 seed] ∧ 0 ≤ at_ ∧ at_ ≤ (K : Int) ∧ 0 ≤ seed ∧ seed ≤ 18446744073709551615 ∧
    (∀ x ∈ xs, 0 ≤ x ∧ x ≤ 255) ∧ Rd w g 1 A n (xs.map (Value.int .u8)) ∧ n ≤ 1099511627776
theorem Src.lt {w : World} {g : Nat} {A : Option Addr} {n c : Nat} {xs : List Int} {K : Nat} (h : Src w g A n c xs K) : g < w.heap.size := by
  obtain ⟨_, _, h, _⟩ := h; exact h.lt
theorem Src.below {w w' : World} {g B : Nat} {A : Option Addr} {n c : Nat} {xs : List Int} {K : Nat} (h : Src w g A n c xs K) (hb : Below B w w') (hg : g < B) : Src w' g A n c xs K := by
  obtain ⟨a, s, h1, h2, h3, h4, h5, h6, h7, h8⟩ := h
  exact ⟨a, s, h1.below hb hg, h2, h3, h4, h5, h6, h7.keep fun p hp => hb.cell (Nat.lt_trans hp hg), h8⟩
theorem Src.more {w : World} {g : Nat} {A : Option Addr} {n c : Nat} {xs : List Int} {K K' : Nat} (h : Src w g A n c xs K) (hk : K ≤ K') : Src w g A n c xs K' := by
  obtain ⟨a, s, h1, h2, h3, r⟩ := h
  exact ⟨a, s, h1, h2, by omega, r⟩

theorem grown_set (w : World) (g i : Nat) (u : Value) : w.grownBy (w.setCell ⟨g, i, none⟩ u) (some g) :=
  ⟨rfl, rfl, rfl, by simp, fun k _ hk => Below.heap_setCell w ⟨g, i, none⟩ u k (fun e => hk (by simp [e]))⟩
theorem grown_trans {a b c : World} {row : Option Nat} (h : a.grownBy b row) (k : b.grownBy c row) : a.grownBy c row :=
  ⟨k.os.trans h.os, k.tape.trans h.tape, k.output.trans h.output, Nat.le_trans h.size k.size, fun j hj hne => (k.block j (Nat.lt_of_lt_of_le hj h.size) hne).trans (h.block j hj hne)⟩
theorem grown_drewN (w : World) (n : Nat) (row : Option Nat) : w.grownBy (w.drewN n) row := ⟨rfl, rfl, rfl, Nat.le_refl _, fun _ _ _ => rfl⟩
theorem Rd.grown {w w' : World} {B sz n : Nat} {A : Option Addr} {us : List Value} {g : Nat} (h : Rd w B sz A n us) (hg : w.grownBy w' (some g)) (hB : B ≤ g) (hs : g < w.heap.size) : Rd w' B sz A n us :=
  h.keep fun p hp => World.cell?_of_block (hg.block p.block (by omega) (by simp; omega))
theorem and_255 (x : Int) (h0 : 0 ≤ x) (h1 : x ≤ 18446744073709551615) : 0 ≤ bits BinOp.and IntKind.u64 x 255 ∧ bits BinOp.and IntKind.u64 x 255 ≤ 255 := by
  have h := bits_and_u64_nat x.toNat 255 (by omega) (by omega)
  rw [Int.toNat_of_nonneg h0] at h
  have e : ((255 : Nat) : Int) = 255 := rfl
  rw [e] at h
  have := Nat.and_le_right (n := x.toNat) (m := 255)
  omega

theorem u64_range (y : Int) : 0 ≤ IntKind.u64.wrap y ∧ IntKind.u64.wrap y ≤ 18446744073709551615 := by
  rw [IntKind.wrap_u64]; omega
theorem src_end {w : World} {g n c K k m : Nat} {A : Option Addr} {xs : List Int} {a s : Int} (y : Int) (h1 : Bx w g 86 #[.slice A n c, .int .i64 a, .int .u64 s]) (h2 : 0 ≤ a) (h3 : a ≤ (K : Int))
    (h6 : ∀ x ∈ xs, 0 ≤ x ∧ x ≤ 255) (h7 : Rd w g 1 A n (xs.map (Value.int .u8))) (h8 : n ≤ 1099511627776) :
    Src ((((w.drewN k).setCell ⟨g, 1, none⟩ (.int .i64 (a + 1))).setCell ⟨g, 2, none⟩ (.int .u64 (IntKind.u64.wrap y))).drewN m) g A n c xs (K + 1) ∧
      w.grownBy ((((w.drewN k).setCell ⟨g, 1, none⟩ (.int .i64 (a + 1))).setCell ⟨g, 2, none⟩ (.int .u64 (IntKind.u64.wrap y))).drewN m) (some g) := by
  have hg : w.grownBy ((((w.drewN k).setCell ⟨g, 1, none⟩ (.int .i64 (a + 1))).setCell ⟨g, 2, none⟩ (.int .u64 (IntKind.u64.wrap y))).drewN m) (some g) :=
    grown_trans (grown_trans (grown_trans (grown_drewN _ _ _) (grown_set _ _ _ _)) (grown_set _ _ _ _)) (grown_drewN _ _ _)
  have hr := u64_range y
  exact ⟨⟨a + 1, IntKind.u64.wrap y, (((h1.drewN k).set_ 1 _).set_ 2 _).drewN m, by omega, by omega, hr.1, hr.2, h6, h7.grown hg (Nat.le_refl _) h1.lt, h8⟩, hg⟩

set_option maxHeartbeats 400000 in
theorem next_src (g : Nat) (A : Option Addr) (n c K : Nat) (xs : List Int) (w : World) (hK : K ≤ 1099511627776) (h : Src w g A n c xs K) :
    Calls Tryz.prog 83 #[.pointer (some ⟨g, 0, none⟩)] w fun e w' => (∃ x : Int, 0 ≤ x ∧ x ≤ 255 ∧ e = .returned (.int .i64 x)) ∧ Src w' g A n c xs (K + 1) ∧ w.grownBy w' (some g) := by
  obtain ⟨a, s, h1, h2, h3, h4, h5, h6, h7, h8⟩ := h
  have c0 : w.cell? ⟨g, 0, none⟩ = some (.slice A n c) := h1.cell 0
  have c1 : w.cell? ⟨g, 1, none⟩ = some (.int .i64 a) := h1.cell 1
  have c2 : w.cell? ⟨g, 2, none⟩ = some (.int .u64 s) := h1.cell 2
  have f1 := h1.frozen 1
  have f2 := h1.frozen 2
  go_enter Tryz.func83, Tryz.ntmps83
  go_wp2
  by_cases hlt : a < (n : Int)
  · obtain ⟨j, rfl⟩ := Int.eq_ofNat_of_zero_le h2
    obtain ⟨b, off, x, rfl, hb, hx, _, hc⟩ := h7.at_ (show j < n by omega)
    obtain ⟨x0, x1⟩ := h6 x (List.mem_of_getElem? hx)
    have H6 := hid h6
    have H1 := hid h1
    have H7 := hid h7
    clear h6 h1 h7 hx hb
    go_quiet (fail)
    go_wp2
    go_quiet (fail)
    go_wp2
    go_quiet (fail)
    go_wp2
    go_ret
    exact ⟨⟨x, x0, x1, rfl⟩, src_end _ H1.out h2 h3 H6.out H7.out h8⟩
  · have H6 := hid h6
    have H1 := hid h1
    have H7 := hid h7
    clear h6 h1 h7
    go_quiet (fail)
    go_wp2
    go_quiet (fail)
    go_wp2
    go_ret
    have hb : ∀ y : Int, 0 ≤ wrap64 (bits BinOp.and IntKind.u64 (IntKind.u64.wrap y / 1099511627776) 255) ∧ wrap64 (bits BinOp.and IntKind.u64 (IntKind.u64.wrap y / 1099511627776) 255) ≤ 255 := by
      intro y
      have h9 := u64_range y
      have h10 := and_255 (IntKind.u64.wrap y / 1099511627776) (by omega) (by omega)
      rw [IntWalk.wrap64_in _ (by omega)]; exact h10
    exact ⟨⟨_, (hb _).1, (hb _).2, rfl⟩, src_end _ H1.out h2 h3 H6.out H7.out h8⟩
theorem pick_src (g : Nat) (A : Option Addr) (n c K : Nat) (xs : List Int) (k : Int) (w : World) (hK : K ≤ 549755813888) (hk : k ≤ 65536) (h : Src w g A n c xs K) :
    Calls Tryz.prog 46 #[.pointer (some ⟨g, 0, none⟩), .int .i64 k] w fun e w' => (∃ x : Int, 0 ≤ x ∧ (x < k ∨ x = 0) ∧ e = .returned (.int .i64 x)) ∧ Src w' g A n c xs (K + 2) ∧ w.grownBy w' (some g) := by
  by_cases h1 : k ≤ 1
  · go_enter Tryz.func46, Tryz.ntmps46
    go_wp2
    go_ret
    exact ⟨⟨0, by omega, .inr rfl, rfl⟩, h.more (by omega), World.grownBy.refl _ _⟩
  · have hlt := h.lt
    by_cases h2 : 200 < k
    · have hN := hid (fun (K : Nat) (w : World) (hK : K ≤ 1099511627776) (h : Src w g A n c xs K) => next_src g A n c K xs w hK h)
      have H := hid h
      clear h
      go_enter Tryz.func46, Tryz.ntmps46
      go_wp2_with fail
      refine (hN.out K _ (by omega) H.out).mono ?_
      rintro e w1 ⟨⟨x, x0, x1, rfl⟩, hs1, hg1⟩
      go_wp2_with fail
      refine (hN.out (K + 1) _ (by omega) hs1).mono ?_
      rintro e w2 ⟨⟨y, y0, y1, rfl⟩, hs2, hg2⟩
      have hm0 : 0 ≤ (x * 256 + y) % k := Int.emod_nonneg _ (by omega)
      have hm1 : (x * 256 + y) % k < k := Int.emod_lt_of_pos _ (by omega)
      go_wp2
      go_ret
      exact ⟨⟨_, hm0, .inl hm1, rfl⟩, hs2, grown_trans hg1 hg2⟩
    · have hN := hid (next_src g A n c K xs w (by omega) h)
      clear h
      go_enter Tryz.func46, Tryz.ntmps46
      go_wp2_with fail
      refine hN.out.mono ?_
      rintro e w1 ⟨⟨x, x0, x1, rfl⟩, hs1, hg1⟩
      have hm0 : 0 ≤ x % k := Int.emod_nonneg _ (by omega)
      have hm1 : x % k < k := Int.emod_lt_of_pos _ (by omega)
      go_wp2
      go_ret
      exact ⟨⟨_, hm0, .inl hm1, rfl⟩, hs1.more (by omega), hg1⟩
theorem l00From_any (A : Option Addr) (n c : Nat) (xs : List Int) (w : World) (hn : n ≤ 1099511627776) (hx : ∀ x ∈ xs, 0 ≤ x ∧ x ≤ 255) (hr : Rd w w.heap.size 1 A n (xs.map (Value.int .u8))) :
    Calls Tryz.prog 24 #[.slice A n c] w fun e w' => e = .returned (.pointer (some ⟨w.heap.size, 0, none⟩)) ∧ Src w' w.heap.size A n c xs 0 ∧ Below w.heap.size w w' := by
  have HR := hid hr
  have HX := hid hx
  clear hr hx
  go_enter Tryz.func24, Tryz.ntmps24
  go_wp2
  go_ret
  exact ⟨rfl, ⟨0, 0, Bx.new _ _ _, by omega, by omega, by omega, by omega, HX.out, HR.out.alloc (Nat.le_refl _) _, hn⟩, (by repeat' (first | exact Below.refl _ _ | (with_reducible first | assumption | exact Nat.le_refl _ | refine Below.alloc ?_ ?_ _ | refine Below.setCell ?_ ?_ _ | refine Below.drew ?_ | refine below_drewN ?_ _) | refine Below.trans ?_ (Below.mono (by assumption) ?_) | exact Below.size (by assumption) | omega | go_size | (simp at *; omega)))⟩
end Go.Proofs.YtgphkfnobmponaaGreat

/- Plain facts on lists of throws: nothing of the program is named here. -/
namespace Go.Proofs.YtgphkfnobmponaaGreat
open Go.RowKit
set_option linter.unusedVariables false

/-- A list of throws. -/
def thOk (p : List Int) : Bool := p.all (betweenB · 0 15) && betweenB p.length 1 12
theorem thOk_iff {p : List Int} (k : thOk p = true) : (∀ x ∈ p, 0 ≤ x ∧ x ≤ 15) ∧ 1 ≤ p.length ∧ p.length ≤ 12 := by
  simp only [thOk, betweenB, Bool.and_eq_true, List.all_eq_true, decide_eq_true_eq] at k
  exact ⟨k.1, by omega, by omega⟩
theorem thOk_mk {p : List Int} (h : ∀ x ∈ p, 0 ≤ x ∧ x ≤ 15) (h1 : 1 ≤ p.length) (h2 : p.length ≤ 12) : thOk p = true := by
  simp only [thOk, betweenB, Bool.and_eq_true, List.all_eq_true, decide_eq_true_eq]
  exact ⟨h, by omega, by omega⟩

/-- The landings from the beat i on, modulo n. -/
def lndF (n : Int) : Int → List Int → List Int
  | _, [] => []
  | i, t :: ts => (i + t) % n :: lndF n (i + 1) ts
def lnd (p : List Int) : List Int := lndF p.length 0 p
theorem lndF_len (n : Int) : ∀ (p : List Int) (i : Int), (lndF n i p).length = p.length := by
  intro p
  induction p with
  | nil => intro i; rfl
  | cons t ts ih => intro i; simp [lndF, ih]
theorem lnd_len (p : List Int) : (lnd p).length = p.length := lndF_len _ _ _
theorem lndF_at (n : Int) : ∀ (p : List Int) (i : Int) (j : Nat) (x : Int), p[j]? = some x → (lndF n i p)[j]? = some ((i + (j : Int) + x) % n) := by
  intro p
  induction p with
  | nil => intro i j x h; simp at h
  | cons t ts ih =>
    intro i j x h
    cases j with
    | zero => simp at h; subst h; simp [lndF]
    | succ j =>
      simp only [List.getElem?_cons_succ] at h
      simp only [lndF, List.getElem?_cons_succ]
      rw [ih (i + 1) j x h]
      congr 2; omega
/-- Where the throw at the beat j lands. -/
def Ld (p : List Int) (j : Nat) : Int := ((j : Int) + p.getD j 0) % (p.length : Int)
theorem lnd_at (p : List Int) (j : Nat) (h : j < p.length) : (lnd p)[j]? = some (Ld p j) := by
  have hx : p[j]? = some p[j] := List.getElem?_eq_getElem h
  rw [lnd, lndF_at _ _ _ _ _ hx, Ld, List.getD_eq_getElem?_getD, hx]
  simp

/-- The least i from i on, below k, of which L says the same as of k; f numbers are looked at. -/
def col1 (L : Nat → Int) (k : Nat) : Nat → Nat → Option Nat
  | 0, _ => none
  | f + 1, i => if L i = L k then some i else col1 L k f (i + 1)
theorem col1_none {L : Nat → Int} {k : Nat} : ∀ {f i : Nat}, col1 L k f i = none → ∀ j, i ≤ j → j < i + f → L j ≠ L k := by
  intro f
  induction f with
  | zero => intro i _ j a b; omega
  | succ f ih =>
    intro i h j a b
    simp only [col1] at h
    split at h
    · cases h
    · rename_i e
      rcases Nat.lt_or_eq_of_le a with a | rfl
      · exact ih h j a (by omega)
      · exact e
theorem col1_some {L : Nat → Int} {k : Nat} : ∀ {f i r : Nat}, col1 L k f i = some r → i ≤ r ∧ r < i + f ∧ L r = L k := by
  intro f
  induction f with
  | zero => intro i r h; cases h
  | succ f ih =>
    intro i r h
    simp only [col1] at h
    split at h
    · cases h; rename_i e; exact ⟨by omega, by omega, e⟩
    · have := ih h; exact ⟨by omega, by omega, this.2.2⟩
/-- The first two numbers of which L says the same. -/
def col2 (L : Nat → Int) : Nat → Nat → Option (Nat × Nat)
  | 0, _ => none
  | f + 1, k => match col1 L k k 0 with
    | some i => some (i, k)
    | none => col2 L f (k + 1)
theorem col2_some1 {L : Nat → Int} {f k i : Nat} (h : col1 L k k 0 = some i) : col2 L (f + 1) k = some (i, k) := by simp [col2, h]
theorem col2_none1 {L : Nat → Int} {f k : Nat} (h : col1 L k k 0 = none) : col2 L (f + 1) k = col2 L f (k + 1) := by simp [col2, h]
theorem col2_none {L : Nat → Int} : ∀ {f k : Nat}, col2 L f k = none → ∀ b, k ≤ b → b < k + f → ∀ a, a < b → L a ≠ L b := by
  intro f
  induction f with
  | zero => intro k _ b c d; omega
  | succ f ih =>
    intro k h b c d a hab
    cases h1 : col1 L k k 0 with
    | some i => rw [col2_some1 h1] at h; cases h
    | none =>
      rw [col2_none1 h1] at h
      rcases Nat.lt_or_eq_of_le c with c | rfl
      · exact ih h b c (by omega) a hab
      · exact col1_none h1 a (by omega) (by omega)
theorem col2_some {L : Nat → Int} : ∀ {f k a b : Nat}, col2 L f k = some (a, b) → a < b ∧ k ≤ b ∧ b < k + f ∧ L a = L b := by
  intro f
  induction f with
  | zero => intro k a b h; cases h
  | succ f ih =>
    intro k a b h
    cases h1 : col1 L k k 0 with
    | some i =>
      rw [col2_some1 h1] at h
      cases h
      have := col1_some h1
      exact ⟨by omega, by omega, by omega, this.2.2⟩
    | none =>
      rw [col2_none1 h1] at h
      have := ih h
      exact ⟨this.1, by omega, by omega, this.2.2.2⟩
/-- The first two throws of a list that collide. -/
def colP (p : List Int) : Option (Nat × Nat) := col2 (Ld p) p.length 0
theorem colP_one (p : List Int) : colP p = col2 (Ld p) (p.length - 1) 1 := by
  unfold colP
  cases h : p.length with
  | zero => rfl
  | succ n => rw [col2_none1 rfl]; simp
/-- A pattern. -/
def okP (p : List Int) : Bool := thOk p && (colP p).isNone
theorem okP_th {p : List Int} (h : okP p = true) : thOk p = true := by simp only [okP, Bool.and_eq_true] at h; exact h.1
theorem okP_ne {p : List Int} (h : okP p = true) {a b : Nat} (ha : a < p.length) (hb : b < p.length) (hab : a ≠ b) : Ld p a ≠ Ld p b := by
  simp only [okP, Bool.and_eq_true, Option.isNone_iff_eq_none] at h
  rcases Nat.lt_or_gt_of_ne hab with k | k
  · exact col2_none h.2 b (by omega) (by omega) a k
  · exact fun e => col2_none h.2 a (by omega) (by omega) b k e.symm
/-- What CollisionOf gives. -/
def colR : Option (Nat × Nat) → Int × Int × Int
  | some (i, k) => ((i : Int), (k : Int), 9)
  | none => (-1, -1, 0)
def rCollisionOf (p : List Int) : Int × Int × Int := if thOk p then colR (colP p) else (0, 0, 1)
theorem okP_code (p : List Int) : okP p = ((rCollisionOf p).2.2 == 0) := by
  unfold okP rCollisionOf
  cases h : thOk p with
  | false => rfl
  | true =>
    simp only [if_true, Bool.true_and]
    cases hc : colP p with
    | none => rfl
    | some x => obtain ⟨a, b⟩ := x; rfl
end Go.Proofs.YtgphkfnobmponaaGreat

/- Contracts of the small functions of numbers and states. -/
namespace Go.Proofs.YtgphkfnobmponaaGreat
open Go.RowKit
set_option linter.unusedVariables false


theorem between_any (n l h : Int) (w : World) :
    Calls Tryz.prog 55 #[.int .i64 n, .int .i64 l, .int .i64 h] w fun e w' => e = .returned (.bool (betweenB n l h)) ∧ w = w' := by
  unfold betweenB
  go_enter Tryz.func55, Tryz.ntmps55
  go_wp2
  all_goals (go_ret; exact ⟨by simp_all; try omega, rfl⟩)
theorem l00In_any (n l h : Int) (w : World) :
    Calls Tryz.prog 54 #[.int .i64 n, .int .i64 l, .int .i64 h] w fun e w' => e = .returned (.bool (betweenB n l h)) ∧ w = w' := by
  unfold betweenB
  go_enter Tryz.func54, Tryz.ntmps54
  go_wp2
  all_goals (go_ret; exact ⟨by simp_all; try omega, rfl⟩)





end Go.Proofs.YtgphkfnobmponaaGreat

/- Contracts of the laws' own helpers over slices of numbers: copy, compare, mark, look again. -/
namespace Go.Proofs.YtgphkfnobmponaaGreat
open Go.RowKit
set_option linter.unusedVariables false

theorem quiet_same {P : Program} {f : FuncId} {args : Array Value} {w : World} {n : Nat} {v : Value} (h : Calls P f args (w.drewN n) fun e w' => e = .returned v ∧ w.drewN n = w') :
    Calls P f args (w.drewN n) fun e w'' => e = .returned v ∧ ∃ m, w'' = w.drewN m := Calls.quiet_of_same (h.mono fun _ _ ⟨a, b⟩ => ⟨a, b.symm⟩)

theorem inf_int : (Tryz.prog.info? 2).map (fun i => (i.zero, i.size, i.bytes)) = some (some (.int .i64 0), 1, 8) := by kernel_rfl

/-- The marks k, k + 1, .. -/
def marks (k : Nat) : Nat → List Int
  | 0 => []
  | n + 1 => marks k n ++ [((k + n : Nat) : Int)]
end Go.Proofs.YtgphkfnobmponaaGreat

/- Appends of whole slices and of single elements of several cells, as laws of a walk and as steps of a region that draws its order. Nothing of the program is named here. -/
namespace Go.Proofs.YtgphkfnobmponaaGreat
open Go.RowKit
set_option linter.unusedVariables false

/-- 'append(out, list...)', elements of sz cells, out the call's own. -/
theorem wp_app_own {P : Program} {w : World} {o : Oper} {a : Act} {K : Act → World → Prop} {Q : Exit → Act → World → Prop}
    {base B n sz : Nat} {v : Value} {xs : List Value} {e : Nat} (hown : w.ownsRow base e sz v n xs) (A : Option Addr) (m c : Nat) (ys : List Value) (hr : Rd w B sz A m ys) (hA : A = none → c = 0) (h1 : ∀ u ∈ ys, u.oneCell' = true)
    {t : TypeId} {z : Value} {by_ : Nat} (ht : P.underlying t = some (.slice e)) (inf : (P.info? e).map (fun i => (i.zero, i.size, i.bytes)) = some (some z, sz, by_)) (hz : z.cells.size = sz) (hsz : 0 < sz)
    (s x : Operand) (ho : o.op = .call { callee := .builtin .append, args := #[s, x], argTypes := #[t, t] }) (hs : a.eval s = v) (hx : a.eval x = .slice A m c)
    (hn : n + m ≤ 1099511627776) (hby : by_ ≤ 64) (hbase : base ≤ w.heap.size)
    (h : ∀ v' w', w'.ownsRow base e sz v' (n + m) (xs ++ ys) → Below base w w' → w.grownBy w' v.ownBlock → K (a.put o.dst v') w') :
    o.wp P a w K Q := by
  obtain ⟨i0, hi, hz0, hz1, hz2⟩ := info_parts inf
  have hl := hr.1
  cases A with
  | none =>
    have hm : m = 0 := by
      rcases Nat.eq_zero_or_pos m with h0 | h0
      · exact h0
      · obtain ⟨_, _, he, _⟩ := hr.2 h0; cases he
    subst hm
    have hc := hA rfl
    subst hc
    have hy : ys = [] := List.eq_nil_of_length_eq_zero (by simpa using hl)
    subst hy
    have hrun := run_append_owned_none (P := P) (w := w) base t o.type e i0 sz ht hi v n _ hown
    unfold Oper.wp
    simp [execOp, ho, resolve, invoke, builtin, hs, hx, hrun, Result.andThen]
    exact h v w (by rw [List.append_nil]; exact hown) (Below.refl _ _) (World.grownBy.refl _ _)
  | some ad =>
    refine wp_append_own w s x t ho base e i0 z sz by_ ht hi hz0 hz1 hz2 hz hsz v n _ hs hown ad m c ys hx hl ?_ h1 (by unfold maxLen; omega) ?_ hbase ?_
    · intro j u hj
      have hjl : 0 < m := by
        have := (List.getElem?_eq_some_iff.1 hj).1
        rcases Nat.eq_zero_or_pos m with h0 | h0
        · subst h0; simp at hl; simp [hl] at this
        · exact h0
      obtain ⟨b, off, he, hb, hc⟩ := hr.2 hjl
      injection he with he
      subst he
      have e1 : (⟨b, off, none⟩ : Addr).add j = ⟨b, off + j, none⟩ := by unfold Addr.add; split <;> simp_all
      rw [e1]
      exact hc j u hj
    · have := Nat.mul_le_mul hn hby
      omega
    · intro v' w' g1 g2 _
      have hlt := hown.lt
      exact h v' w' g1 ((Below.refl base w).grown g2 hbase (fun k hk => (hlt k hk).1)) g2
theorem app_own {P : Program} {w : World} {ops : Array Oper} {rest : List Oper} {o : Oper} {a : Act} {Q : Exit → Act → World → Prop}
    {base B n sz : Nat} {v : Value} {xs : List Value} {e : Nat} (hown : w.ownsRow base e sz v n xs) (A : Option Addr) (m c : Nat) (ys : List Value) (hr : Rd w B sz A m ys) (hA : A = none → c = 0) (h1 : ∀ u ∈ ys, u.oneCell' = true)
    {t : TypeId} {z : Value} {by_ : Nat} (ht : P.underlying t = some (.slice e)) (inf : (P.info? e).map (fun i => (i.zero, i.size, i.bytes)) = some (some z, sz, by_)) (hz : z.cells.size = sz) (hsz : 0 < sz)
    (hgd : o.guard = none) (s x : Operand) (ho : o.op = .call { callee := .builtin .append, args := #[s, x], argTypes := #[t, t] }) (hs : a.eval s = v) (hx : a.eval x = .slice A m c)
    (hn : n + m ≤ 1099511627776) (hby : by_ ≤ 64) (hbase : base ≤ w.heap.size)
    (h : ∀ v' w', w'.ownsRow base e sz v' (n + m) (xs ++ ys) → Below base w w' → w.grownBy w' v.ownBlock → wpList P ops Q rest (a.put o.dst v') w') :
    wpList P ops Q (o :: rest) a w :=
  wpList_plain hgd fun K hK => wp_app_own hown A m c ys hr hA h1 ht inf hz hsz s x ho hs hx hn hby hbase fun v' w' h1 h2 h3 => hK _ _ (h v' w' h1 h2 h3)
theorem step_app_own {P : Program} {ops : Array Oper} {o : Oper} {a : Act} {w : World} {K : Act → World → Prop} {Q : Exit → Act → World → Prop} {E : Prop}
    {base B n sz : Nat} {v : Value} {xs : List Value} {e : Nat} (hown : w.ownsRow base e sz v n xs) (A : Option Addr) (m c : Nat) (ys : List Value) (hr : Rd w B sz A m ys) (hA : A = none → c = 0) (h1 : ∀ u ∈ ys, u.oneCell' = true)
    {t : TypeId} {z : Value} {by_ : Nat} (ht : P.underlying t = some (.slice e)) (inf : (P.info? e).map (fun i => (i.zero, i.size, i.bytes)) = some (some z, sz, by_)) (hz : z.cells.size = sz) (hsz : 0 < sz)
    (hgd : o.guard = none) (s x : Operand) (ho : o.op = .call { callee := .builtin .append, args := #[s, x], argTypes := #[t, t] }) (hs : a.eval s = v) (hx : a.eval x = .slice A m c)
    (hn : n + m ≤ 1099511627776) (hby : by_ ≤ 64) (hbase : base ≤ w.heap.size)
    (h : ∀ v' w', w'.ownsRow base e sz v' (n + m) (xs ++ ys) → Below base w w' → w.grownBy w' v.ownBlock → K (a.put o.dst v') w') :
    if Region.wanted o (yielded ops a.tmps) = true then Oper.wp P o a w K Q else E := by
  have hw : Region.wanted o (yielded ops a.tmps) = true := by simp [Region.wanted, hgd]
  rw [if_pos hw]
  exact wp_app_own hown A m c ys hr hA h1 ht inf hz hsz s x ho hs hx hn hby hbase h
/-- 'append(out, x)' as a step of a region that draws its order: the element has just been laid. -/
theorem step_push_own {P : Program} {ops : Array Oper} {o : Oper} {a : Act} {w : World} {K : Act → World → Prop} {Q : Exit → Act → World → Prop} {E : Prop}
    {base n sz : Nat} {v : Value} {xs : List Value} {e : Nat} (hown : w.ownsRow base e sz v n xs) (g : Nat) (us : Array Value) (hcell : ∀ j u, us.toList[j]? = some u → w.cell? ⟨g, j, none⟩ = some u) (hl : us.size = sz) (h1 : ∀ u ∈ us.toList, u.oneCell' = true)
    {t : TypeId} {z : Value} {by_ : Nat} (ht : P.underlying t = some (.slice e)) (inf : (P.info? e).map (fun i => (i.zero, i.size, i.bytes)) = some (some z, sz, by_)) (hz : z.cells.size = sz) (hsz : 0 < sz)
    (hgd : o.guard = none) (s x : Operand) (ho : o.op = .call { callee := .builtin .append, args := #[s, x], argTypes := #[t, t] }) (hs : a.eval s = v) (hx : a.eval x = .slice (some ⟨g, 0, none⟩) 1 1)
    (hn : n ≤ 1099511627775) (hby : by_ ≤ 64) (hbase : base ≤ w.heap.size) (hg : g < w.heap.size)
    (h : ∀ v' w', w'.ownsRow base e sz v' (n + 1) (xs ++ us.toList) → Below base w w' → w.grownBy w' v.ownBlock → K (a.put o.dst v') w') :
    if Region.wanted o (yielded ops a.tmps) = true then Oper.wp P o a w K Q else E :=
  step_app_own hown (some ⟨g, 0, none⟩) 1 1 us.toList (B := g + 1) ⟨by simp [hl], fun _ => ⟨g, 0, rfl, by omega, fun j u hu => by rw [Nat.zero_add]; exact hcell j u hu⟩⟩ (fun h => by cases h) h1 ht inf hz hsz hgd s x ho hs hx (by omega) hby hbase h
end Go.Proofs.YtgphkfnobmponaaGreat

/- A piece of a block: the cells from an offset on. -/
namespace Go.Proofs.YtgphkfnobmponaaGreat
open Go.RowKit
set_option linter.unusedVariables false

/-- From offset o on, block g holds the cells cs. -/
def Bo (w : World) (g o : Nat) (cs : Array Value) : Prop := g < w.heap.size ∧ ∀ (i : Nat) (v : Value), cs[i]? = some v → w.cell? ⟨g, o + i, none⟩ = some v
theorem Bo.lt {w : World} {g o : Nat} {cs : Array Value} (h : Bo w g o cs) : g < w.heap.size := h.1
theorem Bo.cell {w : World} {g o : Nat} {cs : Array Value} (h : Bo w g o cs) (i : Nat) (hi : i < cs.size := by simp) : w.cell? ⟨g, o + i, none⟩ = cs[i]? := by
  rw [Array.getElem?_eq_getElem hi]
  exact h.2 i _ (Array.getElem?_eq_getElem hi)
theorem Bo.below {w w' : World} {g o B : Nat} {cs : Array Value} (h : Bo w g o cs) (hb : Below B w w') (hg : g < B) : Bo w' g o cs :=
  ⟨(by have h1 := hb.block g hg; rw [Array.getElem?_eq_getElem h.1] at h1; exact (Array.getElem?_eq_some_iff.1 h1).1), fun i v hv => (hb.cell (p := ⟨g, o + i, none⟩) hg).trans (h.2 i v hv)⟩
theorem Bx.bo {w : World} {g : Nat} {t : TypeId} {cs : Array Value} (h : Bx w g t cs) : Bo w g 0 cs :=
  ⟨h.lt, fun i v hv => by rw [Nat.zero_add, h.cell i]; exact hv⟩
end Go.Proofs.YtgphkfnobmponaaGreat
