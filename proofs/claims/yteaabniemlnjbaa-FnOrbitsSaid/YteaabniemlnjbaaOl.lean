/- Contracts of OrbitsOf, and the walk of its law. -/
import Derived.Test.YteaabniemlnjbaaOb
import Derived.Test.YteaabniemlnjbaaOq
import Derived.Test.YteaabniemlnjbaaGl
namespace Go.Proofs.Yteaabniemlnjbaa
open Go.RowKit
set_option linter.unusedVariables false

def rOrbitsOf (p : List Int) : List (List Int) × Int := if okP p then (orbs p, 0) else ([], 1)
theorem tot_le_mul : ∀ (rs : List (List Int)) (b : Nat), (∀ r ∈ rs, r.length ≤ b) → tot rs ≤ rs.length * b := by
  intro rs
  induction rs with
  | nil => intro b _; simp [tot]
  | cons r rs ih =>
    intro b h
    have h1 := h r List.mem_cons_self
    have h2 := ih b fun r2 hr => h r2 (List.mem_cons_of_mem _ hr)
    simp only [tot, List.length_cons, Nat.add_mul, Nat.one_mul]; omega
theorem OrbitsOf_row (p : List Int) : ∀ r ∈ (rOrbitsOf p).1, r.length ≤ 12 := by
  unfold rOrbitsOf
  split
  · rename_i h
    intro r hr
    have := orbs_row r hr
    have := (thOk_iff (okP_th h)).2.2
    omega
  · intro r hr; cases hr
theorem OrbitsOf_len (p : List Int) : (rOrbitsOf p).1.length ≤ 12 := by
  unfold rOrbitsOf
  split
  · rename_i h
    have := orbs_len p
    have := (thOk_iff (okP_th h)).2.2
    show (orbs p).length ≤ 12
    omega
  · simp
theorem OrbitsOf_tot (p : List Int) : tot (rOrbitsOf p).1 ≤ 144 := by
  have h1 := tot_le_mul (rOrbitsOf p).1 12 (OrbitsOf_row p)
  have h2 := OrbitsOf_len p
  have := Nat.mul_le_mul_right 12 h2
  omega
theorem OrbitsOf_any (A : Option Addr) (n c : Nat) (p : List Int) (w : World) (hn : n ≤ 1099511627776) (hr : Rd w w.heap.size 1 A n (ints p)) :
    Calls Try.prog 54 #[.slice A n c] w fun e w' => ∃ v, e = .returned (.tuple #[v, .int .i64 (rOrbitsOf p).2]) ∧ Grid w' w.heap.size w'.heap.size v (rOrbitsOf p).1 ∧ Below w.heap.size w w' := by
  have hV := ValidPattern_any A n c p w hn hr
  by_cases k : okP p = true
  · rw [k] at hV
    have hV := hid hV
    have hs : Hid (rOrbitsOf p = (orbs p, 0)) := by show _ = _; simp [rOrbitsOf, k]
    have HO := hid (fun (w1 : World) (h : Rd w1 w1.heap.size 1 A n (ints p)) => orbitsOf_any A n c p w1 k h)
    have HR := hid hr
    clear hr k
    go_enter Try.func54, Try.ntmps54
    go_wp2_with (first | (go_at_call 64; refine (hV.out).mono ?_; rintro e w1 ⟨rfl, hb1⟩; first | (have hk1 := bchain (by assumption) hb1; obtain ⟨hc1, hf1, hz1, hl1⟩ := bcell hk1) | (obtain ⟨hc1, hf1, hz1, hl1⟩ := bcell hb1)) | (go_at_call 111; refine (HO.out _ ((HR.out.below hb1 (Nat.le_refl _)).more hb1.size)).mono ?_; rintro e w2 ⟨v2, rfl, ho2, hb2⟩))
    go_ret2
    rw [hs.out]
    exact ⟨_, rfl, ho2.more hb1.size, (by repeat' (first | exact Below.refl _ _ | (with_reducible assumption) | (with_reducible refine Below.alloc ?_ ?_ _) | (with_reducible refine Below.setCell ?_ ?_ _) | (with_reducible refine Below.drew ?_) | (with_reducible refine below_drewN ?_ _) | (refine Below.trans ?_ (Below.mono (by assumption) ?_)) | (with_reducible exact Nat.le_refl _) | (with_reducible assumption) | (exact Below.size (by assumption)) | omega | go_size | (simp at *; omega)))⟩
  · have k : okP p = false := by simpa using k
    rw [k] at hV
    have hV := hid hV
    have hs : Hid (rOrbitsOf p = ([], 1)) := by show _ = _; simp [rOrbitsOf, k]
    clear k hr
    go_enter Try.func54, Try.ntmps54
    go_wp2_with (first | (go_at_call 64; refine (hV.out).mono ?_; rintro e w1 ⟨rfl, hb1⟩; first | (have hk1 := bchain (by assumption) hb1; obtain ⟨hc1, hf1, hz1, hl1⟩ := bcell hk1) | (obtain ⟨hc1, hf1, hz1, hl1⟩ := bcell hb1)))
    go_ret2
    rw [hs.out]
    exact ⟨_, rfl, Grid.nil _ _ _, (by repeat' (first | exact Below.refl _ _ | (with_reducible assumption) | (with_reducible refine Below.alloc ?_ ?_ _) | (with_reducible refine Below.setCell ?_ ?_ _) | (with_reducible refine Below.drew ?_) | (with_reducible refine below_drewN ?_ _) | (refine Below.trans ?_ (Below.mono (by assumption) ?_)) | (with_reducible exact Nat.le_refl _) | (with_reducible assumption) | (exact Below.size (by assumption)) | omega | go_size | (simp at *; omega)))⟩



end Go.Proofs.Yteaabniemlnjbaa
