/- Contracts of OrbitsOf, and the walk of its law. -/
import Derived.Test.YthbbfhlpoinenaaOb
import Derived.Test.YthbbfhlpoinenaaOq
import Derived.Test.YthbbfhlpoinenaaGl
namespace Go.Proofs.Ythbbfhlpoinenaa
open Go.RowKit
set_option linter.unusedVariables false

def rOrbitsOf (p : List Int) : List (List Int) × Int := if okP p then (orbs p, 0) else ([], 1)
theorem tot_le_mul : ∀ (rs : List (List Int)) (b : Nat), (∀ r ∈ rs, r.length ≤ b) → tot rs ≤ rs.length * b := by
  intro rs
  induction rs with
  | nil => intro b _; simp [tot]
  | cons r rs ih =>
    intro b h
    have h1 := h r List.mem_cons_self
    have h2 := ih b fun r2 hr => h r2 (List.mem_cons_of_mem _ hr)
    simp only [tot, List.length_cons, Nat.add_mul, Nat.one_mul]; omega
theorem OrbitsOf_row (p : List Int) : ∀ r ∈ (rOrbitsOf p).1, r.length ≤ 12 := by
  unfold rOrbitsOf
  split
  · rename_i h
    intro r hr
    have := orbs_row r hr
    have := (thOk_iff (okP_th h)).2.2
    omega
  · intro r hr; cases hr
theorem OrbitsOf_len (p : List Int) : (rOrbitsOf p).1.length ≤ 12 := by
  unfold rOrbitsOf
  split
  · rename_i h
    have := orbs_len p
    have := (thOk_iff (okP_th h)).2.2
    show (orbs p).length ≤ 12
    omega
  · simp
theorem OrbitsOf_tot (p : List Int) : tot (rOrbitsOf p).1 ≤ 144 := by
  have h1 := tot_le_mul (rOrbitsOf p).1 12 (OrbitsOf_row p)
  have h2 := OrbitsOf_len p
  have := Nat.mul_le_mul_right 12 h2
  omega
theorem specOrbitsOf_any (A : Option Addr) (n c : Nat) (p : List Int) (w : World) (hn : n ≤ 1099511627776) (hr : Rd w w.heap.size 1 A n (ints p)) :
    Calls Try.prog 32 #[.slice A n c] w fun e w' => ∃ v, e = .returned (.tuple #[v, .int .i64 (rOrbitsOf p).2]) ∧ Grid w' w.heap.size w'.heap.size v (rOrbitsOf p).1 ∧ Below w.heap.size w w' := by
  have hV := l02Ok_any A n c p w hn hr
  by_cases k : okP p = true
  · rw [k] at hV
    have hV := hid hV
    have hs : Hid (rOrbitsOf p = (orbs p, 0)) := by show _ = _; simp [rOrbitsOf, k]
    have HO := hid (fun (w1 : World) (h : Rd w1 w1.heap.size 1 A n (ints p)) => l13Orbits_any A n c p w1 k h)
    have HR := hid hr
    clear hr k
    go_enter Try.func32, Try.ntmps32
    go_wp2_with (first | (go_at_call 62; refine (hV.out).mono ?_; rintro e w1 ⟨rfl, hb1⟩; first | (have hk1 := bchain (by assumption) hb1; obtain ⟨hc1, hf1, hz1, hl1⟩ := bcell hk1) | (obtain ⟨hc1, hf1, hz1, hl1⟩ := bcell hb1)) | (go_at_call 64; refine (HO.out _ ((HR.out.below hb1 (Nat.le_refl _)).more hb1.size)).mono ?_; rintro e w2 ⟨v2, rfl, ho2, hb2⟩))
    go_ret2
    rw [hs.out]
    exact ⟨_, rfl, ho2.more hb1.size, (by repeat' (first | exact Below.refl _ _ | (with_reducible assumption) | (with_reducible refine Below.alloc ?_ ?_ _) | (with_reducible refine Below.setCell ?_ ?_ _) | (with_reducible refine Below.drew ?_) | (with_reducible refine below_drewN ?_ _) | (refine Below.trans ?_ (Below.mono (by assumption) ?_)) | (with_reducible exact Nat.le_refl _) | (with_reducible assumption) | (exact Below.size (by assumption)) | omega | go_size | (simp at *; omega)))⟩
  · have k : okP p = false := by simpa using k
    rw [k] at hV
    have hV := hid hV
    have hs : Hid (rOrbitsOf p = ([], 1)) := by show _ = _; simp [rOrbitsOf, k]
    clear k hr
    go_enter Try.func32, Try.ntmps32
    go_wp2_with (first | (go_at_call 62; refine (hV.out).mono ?_; rintro e w1 ⟨rfl, hb1⟩; first | (have hk1 := bchain (by assumption) hb1; obtain ⟨hc1, hf1, hz1, hl1⟩ := bcell hk1) | (obtain ⟨hc1, hf1, hz1, hl1⟩ := bcell hb1)))
    go_ret2
    rw [hs.out]
    exact ⟨_, rfl, Grid.nil _ _ _, (by repeat' (first | exact Below.refl _ _ | (with_reducible assumption) | (with_reducible refine Below.alloc ?_ ?_ _) | (with_reducible refine Below.setCell ?_ ?_ _) | (with_reducible refine Below.drew ?_) | (with_reducible refine below_drewN ?_ _) | (refine Below.trans ?_ (Below.mono (by assumption) ?_)) | (with_reducible exact Nat.le_refl _) | (with_reducible assumption) | (exact Below.size (by assumption)) | omega | go_size | (simp at *; omega)))⟩
theorem OrbitsOf_any (A : Option Addr) (n c : Nat) (p : List Int) (w : World) (hn : n ≤ 1099511627776) (hr : Rd w w.heap.size 1 A n (ints p)) :
    Calls Try.prog 33 #[.slice A n c] w fun e w' => ∃ v, e = .returned (.tuple #[v, .int .i64 (rOrbitsOf p).2]) ∧ Grid w' w.heap.size w'.heap.size v (rOrbitsOf p).1 ∧ Below w.heap.size w w' := by
  have hV := ValidPattern_any A n c p w hn hr
  by_cases k : okP p = true
  · rw [k] at hV
    have hV := hid hV
    have hs : Hid (rOrbitsOf p = (orbs p, 0)) := by show _ = _; simp [rOrbitsOf, k]
    have HO := hid (fun (w1 : World) (h : Rd w1 w1.heap.size 1 A n (ints p)) => orbitsOf_any A n c p w1 k h)
    have HR := hid hr
    clear hr k
    go_enter Try.func33, Try.ntmps33
    go_wp2_with (first | (go_at_call 65; refine (hV.out).mono ?_; rintro e w1 ⟨rfl, hb1⟩; first | (have hk1 := bchain (by assumption) hb1; obtain ⟨hc1, hf1, hz1, hl1⟩ := bcell hk1) | (obtain ⟨hc1, hf1, hz1, hl1⟩ := bcell hb1)) | (go_at_call 66; refine (HO.out _ ((HR.out.below hb1 (Nat.le_refl _)).more hb1.size)).mono ?_; rintro e w2 ⟨v2, rfl, ho2, hb2⟩))
    go_ret2
    rw [hs.out]
    exact ⟨_, rfl, ho2.more hb1.size, (by repeat' (first | exact Below.refl _ _ | (with_reducible assumption) | (with_reducible refine Below.alloc ?_ ?_ _) | (with_reducible refine Below.setCell ?_ ?_ _) | (with_reducible refine Below.drew ?_) | (with_reducible refine below_drewN ?_ _) | (refine Below.trans ?_ (Below.mono (by assumption) ?_)) | (with_reducible exact Nat.le_refl _) | (with_reducible assumption) | (exact Below.size (by assumption)) | omega | go_size | (simp at *; omega)))⟩
  · have k : okP p = false := by simpa using k
    rw [k] at hV
    have hV := hid hV
    have hs : Hid (rOrbitsOf p = ([], 1)) := by show _ = _; simp [rOrbitsOf, k]
    clear k hr
    go_enter Try.func33, Try.ntmps33
    go_wp2_with (first | (go_at_call 65; refine (hV.out).mono ?_; rintro e w1 ⟨rfl, hb1⟩; first | (have hk1 := bchain (by assumption) hb1; obtain ⟨hc1, hf1, hz1, hl1⟩ := bcell hk1) | (obtain ⟨hc1, hf1, hz1, hl1⟩ := bcell hb1)))
    go_ret2
    rw [hs.out]
    exact ⟨_, rfl, Grid.nil _ _ _, (by repeat' (first | exact Below.refl _ _ | (with_reducible assumption) | (with_reducible refine Below.alloc ?_ ?_ _) | (with_reducible refine Below.setCell ?_ ?_ _) | (with_reducible refine Below.drew ?_) | (with_reducible refine below_drewN ?_ _) | (refine Below.trans ?_ (Below.mono (by assumption) ?_)) | (with_reducible exact Nat.le_refl _) | (with_reducible assumption) | (exact Below.size (by assumption)) | omega | go_size | (simp at *; omega)))⟩

theorem fnExactOrbitsOf_walk (w : World) (aPA : Option Addr) (aPN aPC : Nat) (aP : List Int) (aPK : Came .i64 w aPA aPN aPC aP) :
    Calls Try.prog 9 #[.slice aPA aPN aPC] w fun e w' => e = .returned (.bool true) ∧ Below w.heap.size w w' := by
  by_cases hlong : 1048576 < aPN
  · have hm := aPK.2.1
    go_enter Try.func9, Try.ntmps9
    go_wp2
    go_ret
    exact ⟨rfl, (by repeat' (first | exact Below.refl _ _ | (with_reducible assumption) | (with_reducible refine Below.alloc ?_ ?_ _) | (with_reducible refine Below.setCell ?_ ?_ _) | (with_reducible refine Below.drew ?_) | (with_reducible refine below_drewN ?_ _) | (refine Below.trans ?_ (Below.mono (by assumption) ?_)) | (with_reducible exact Nat.le_refl _) | (with_reducible assumption) | (exact Below.size (by assumption)) | omega | go_size | (simp at *; omega)))⟩
  have KaP := Rd.of_came aPK
  have KLaP := KaP.len
  have B0aP := hid aPK
  have hS := hid (fun (AaP : Option Addr) (caP : Nat) (w1 : World) (kaP : Rd w1 w1.heap.size 1 AaP aPN (ints aP)) => specOrbitsOf_any AaP aPN caP aP w1 (by omega) kaP)
  have hI := hid (fun (AaP : Option Addr) (caP : Nat) (w1 : World) (kaP : Rd w1 w1.heap.size 1 AaP aPN (ints aP)) => OrbitsOf_any AaP aPN caP aP w1 (by omega) kaP)
  have hL := OrbitsOf_len aP
  have hT := OrbitsOf_tot aP
  have hR := OrbitsOf_row aP
  generalize rOrbitsOf aP = r at *
  obtain ⟨r0, r1⟩ := r
  try dsimp only at hL
  try dsimp only at hT
  try dsimp only at hR
  have hR := hid hR
  have hB := Below.refl w.heap.size w
  go_enter Try.func9, Try.ntmps9
  go_wp2_with (go_at_call 19; refine (toInt64S_any _ _ _ _ _ (by omega) ((KaP.below hB (Nat.le_refl _)).more hB.size)).mono ?_; rintro e w1 ⟨v1, rfl, ho1, hb1⟩; obtain ⟨A1, c1, rfl⟩ := own_form ho1; have l1 := ho1.lt; have s1 := hb1.size; replace hB := bchain hB hb1)
  go_wp2_with (go_at_call 32; refine (hS.out _ _ _ (Rd.of_own ho1)).mono ?_; rintro e w2 ⟨v2, rfl, ho2, hb2⟩; obtain ⟨A2, c2, rfl⟩ := Grid.form ho2; have l2 := Grid.lt ho2; have s2 := hb2.size; replace hB := bchain hB hb2)
  go_wp2_with (go_at_call 19; refine (toInt64S_any _ _ _ _ _ (by omega) ((KaP.below hB (Nat.le_refl _)).more hB.size)).mono ?_; rintro e w3 ⟨v3, rfl, ho3, hb3⟩; obtain ⟨A3, c3, rfl⟩ := own_form ho3; have l3 := ho3.lt; have s3 := hb3.size; replace hB := bchain hB hb3; replace ho2 := Grid.below ho2 hb3)
  go_wp2_with (go_at_call 33; refine (hI.out _ _ _ (Rd.of_own ho3)).mono ?_; rintro e w4 ⟨v4, rfl, ho4, hb4⟩; obtain ⟨A4, c4, rfl⟩ := Grid.form ho4; have l4 := Grid.lt ho4; have s4 := hb4.size; replace hB := bchain hB hb4; replace ho2 := Grid.below ho2 hb4; replace ho3 := own_below ho3 hb4)
  go_wp2_with (go_at_call 34; refine (eqInt64SS_same _ _ _ _ _ _ _ (by omega) (fun r h => Nat.le_trans (hR.out r h) (by omega)) (Grid.read ho4) (Grid.read ho2)).mono ?_; rintro e w5 ⟨rfl, hb5⟩; have s5 := hb5.size; replace hB := bchain hB hb5; replace ho2 := Grid.below ho2 hb5; replace ho3 := own_below ho3 hb5; replace ho4 := Grid.below ho4 hb5)
  go_wp2_with (go_at_call 19; refine (toInt64S_any _ _ _ _ _ (by omega) ((KaP.below hB (Nat.le_refl _)).more hB.size)).mono ?_; rintro e w6 ⟨v6, rfl, ho6, hb6⟩; obtain ⟨A6, c6, rfl⟩ := own_form ho6; have l6 := ho6.lt; have s6 := hb6.size; replace hB := bchain hB hb6; replace ho2 := Grid.below ho2 hb6; replace ho3 := own_below ho3 hb6; replace ho4 := Grid.below ho4 hb6)
  go_wp2_with (go_at_call 21; refine (eqInt64S_same _ _ _ _ _ _ _ (by omega) (Rd.of_own ho3) (Rd.of_own ho6)).mono ?_; rintro e w7 ⟨rfl, hb7⟩; have s7 := hb7.size; replace hB := bchain hB hb7; replace ho2 := Grid.below ho2 hb7; replace ho3 := own_below ho3 hb7; replace ho4 := Grid.below ho4 hb7)
  go_wp2_with (go_at_call 22; refine (markInt64S_any _ _ _ 1 _ _ (by omega) (by omega) ho3).mono ?_; rintro e w8 ⟨rfl, hm8, hg8⟩; have s8 := hg8.size; replace hB := below_grown hB hg8 (fun g h => by have := (l3 g h).1; omega); replace ho2 := Grid.off ho2 (fun g h => (l2 g h).2) (fun g h => .inr (by have := (l3 g h).1; omega)) hg8; replace ho4 := Grid.off ho4 (fun g h => (l4 g h).2) (fun g h => .inl (by have := (l3 g h).2; omega)) hg8)
  go_wp2_with (go_at_call 34; refine (eqInt64SS_same _ _ _ _ _ _ _ (by omega) (fun r h => Nat.le_trans (hR.out r h) (by omega)) (Grid.read ho4) (Grid.read ho2)).mono ?_; rintro e w9 ⟨rfl, hb9⟩; have s9 := hb9.size; replace hB := bchain hB hb9; replace ho2 := Grid.below ho2 hb9; replace ho4 := Grid.below ho4 hb9)
  go_wp2_with (go_at_call 35; refine (markInt64SS_any _ _ _ 1 _ _ (by omega) (by omega) ho4).mono ?_; rintro e w10 ⟨rfl, hm10, hb10⟩; have s10 := hb10.size; replace hB := hB.trans (hb10.mono (by omega)); replace ho2 := Grid.loM ho2 (fun g h => (l2 g h).2) hb10 (by omega); replace ho4 := hm10)
  go_wp2_with (go_at_call 36; refine (heldInt64SS_any _ _ _ 1 _ _ (by omega) (by omega) (Grid.read ho4)).mono ?_; rintro e w11 ⟨rfl, hb11⟩; have s11 := hb11.size; replace hB := bchain hB hb11; replace ho2 := Grid.below ho2 hb11; replace ho4 := Grid.below ho4 hb11)
  go_wp2_with (go_at_call 19; refine (toInt64S_any _ _ _ _ _ (by omega) ((KaP.below hB (Nat.le_refl _)).more hB.size)).mono ?_; rintro e w12 ⟨v12, rfl, ho12, hb12⟩; obtain ⟨A12, c12, rfl⟩ := own_form ho12; have l12 := ho12.lt; have s12 := hb12.size; replace hB := bchain hB hb12; replace ho2 := Grid.below ho2 hb12; replace ho4 := Grid.below ho4 hb12)
  go_wp2_with (go_at_call 33; refine (hI.out _ _ _ (Rd.of_own ho12)).mono ?_; rintro e w13 ⟨v13, rfl, ho13, hb13⟩; obtain ⟨A13, c13, rfl⟩ := Grid.form ho13; have l13 := Grid.lt ho13; have s13 := hb13.size; replace hB := bchain hB hb13; replace ho2 := Grid.below ho2 hb13; replace ho4 := Grid.below ho4 hb13)
  go_wp2_with (go_at_call 34; refine (eqInt64SS_same _ _ _ _ _ _ _ (by omega) (fun r h => Nat.le_trans (hR.out r h) (by omega)) (Grid.read ho13) (Grid.read ho2)).mono ?_; rintro e w14 ⟨rfl, hb14⟩; have s14 := hb14.size; replace hB := bchain hB hb14; replace ho4 := Grid.below ho4 hb14)
  go_wp2_with (go_at_call 36; refine (heldInt64SS_any _ _ _ 1 _ _ (by omega) (by omega) (Grid.read ho4)).mono ?_; rintro e w15 ⟨rfl, hb15⟩; have s15 := hb15.size; replace hB := bchain hB hb15)
  go_ret
  exact ⟨rfl, (by repeat' (first | exact Below.refl _ _ | (with_reducible assumption) | (with_reducible refine Below.alloc ?_ ?_ _) | (with_reducible refine Below.setCell ?_ ?_ _) | (with_reducible refine Below.drew ?_) | (with_reducible refine below_drewN ?_ _) | (refine Below.trans ?_ (Below.mono (by assumption) ?_)) | (with_reducible exact Nat.le_refl _) | (with_reducible assumption) | (exact Below.size (by assumption)) | omega | go_size | (simp at *; omega)))⟩


end Go.Proofs.Ythbbfhlpoinenaa
