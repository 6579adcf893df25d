/- Contracts of the states of patterns. -/
import Derived.Test.YtlbhfjbbkkkldaaHi
import Derived.Test.YtlbhfjbbkkkldaaBt
import Derived.Test.YtlbhfjbbkkkldaaN
namespace Go.Proofs.Ytlbhfjbbkkkldaa
open Go.RowKit
set_option linter.unusedVariables false

/-- The mask of a pattern before the beat b: its lowest t bits. -/
def stM (p : List Int) (b : Int) : Nat → Nat
  | 0 => 0
  | t + 1 => if lf p (b + (t : Int)) < b then stM p b t + 2 ^ t else stM p b t
theorem stM_yes {p : List Int} {b : Int} {t : Nat} (h : lf p (b + (t : Int)) < b) : stM p b (t + 1) = stM p b t + 2 ^ t := by simp [stM, h]
theorem stM_not {p : List Int} {b : Int} {t : Nat} (h : ¬ lf p (b + (t : Int)) < b) : stM p b (t + 1) = stM p b t := by simp [stM, h]
theorem stM_lt (p : List Int) (b : Int) : ∀ t, stM p b t < 2 ^ t := by
  intro t
  induction t with
  | zero => simp [stM]
  | succ t ih =>
    have : 2 ^ (t + 1) = 2 ^ t + 2 ^ t := by rw [Nat.pow_succ]; omega
    by_cases h : lf p (b + (t : Int)) < b
    · rw [stM_yes h]; omega
    · rw [stM_not h]; omega
theorem or_pow {m t : Nat} (h : m < 2 ^ t) : m ||| 2 ^ t = m + 2 ^ t := by
  have := Nat.two_pow_add_eq_or_of_lt h 1
  rw [Nat.mul_one] at this
  rw [Nat.or_comm, ← this, Nat.add_comm]
theorem bits_or_pow {m t : Nat} (h : m < 2 ^ t) (ht : t ≤ 30) : bits BinOp.or IntKind.i64 (m : Int) (2 ^ t) = ((m + 2 ^ t : Nat) : Int) := by
  have h30 : 2 ^ t ≤ 2 ^ 30 := Nat.pow_le_pow_right (by omega) ht
  have := bits_or_nat m (2 ^ t) (by omega) (by omega)
  rw [or_pow h] at this
  rw [← this]
  congr 1
set_option maxHeartbeats 1000000 in
theorem stateOf_any (A : Option Addr) (n c : Nat) (p : List Int) (b : Int) (N : Nat) (w : World) (hN : N ≤ 15) (b1 : -1000000 ≤ b) (b2 : b ≤ 1000000) (hp : okP p = true) (hr : Rd w w.heap.size 1 A n (ints p)) :
    Calls Try.prog 178 #[.slice A n c, .int .i64 b, .int .i64 N] w fun e w' => e = .returned (.agg #[.int .i64 N, .int .i64 (stM p b N)]) ∧ Below w.heap.size w w' := by
  have hF := hid (fun (w1 : World) (b : Int) (b1 : -1000000000 ≤ b) (b2 : b ≤ 1000000000) (h : Rd w1 w1.heap.size 1 A n (ints p)) => landsFrom_any A n c p b w1 b1 b2 hp h)
  have hbd := hid (fun (b : Int) => lf_bd hp b)
  have hrr := hid hr
  clear hr hp
  go_enter Try.func178, Try.ntmps178
  go_wp2
  have hby0 : Bx ((w.alloc (Obj.cells #[.int .i64 0, .int .i64 0] 119)).alloc (Obj.cells #[.int .i64 N, .int .i64 0] 119)) w.heap.size 119 #[.int .i64 0, .int .i64 0] := (Bx.new w _ _).alloc _
  have hbx0 : Bx ((w.alloc (Obj.cells #[.int .i64 0, .int .i64 0] 119)).alloc (Obj.cells #[.int .i64 N, .int .i64 0] 119)) (w.heap.size + 1) 119 #[.int .i64 N, .int .i64 0] := by have := Bx.new (w.alloc (Obj.cells #[.int .i64 0, .int .i64 0] 119)) 119 #[.int .i64 N, .int .i64 0]; simpa using this
  go_loopw [13] (fun i wr => ∃ t : Nat, t ≤ N ∧ i = .int .i64 t ∧ Bx wr (w.heap.size + 1) 119 #[.int .i64 N, .int .i64 (stM p b t)] ∧ Bx wr w.heap.size 119 #[.int .i64 0, .int .i64 0] ∧ Below w.heap.size w wr) (fun i _ => N - (intOf i).toNat)
  case atStart => exact ⟨0, Nat.zero_le _, rfl, hbx0, hby0, (by repeat' (first | exact Below.refl _ _ | (with_reducible assumption) | (with_reducible refine Below.alloc ?_ ?_ _) | (with_reducible refine Below.setCell ?_ ?_ _) | (with_reducible refine Below.drew ?_) | (with_reducible refine below_drewN ?_ _) | (refine Below.trans ?_ (Below.mono (by assumption) ?_)) | (with_reducible exact Nat.le_refl _) | (with_reducible assumption) | (exact Below.size (by assumption)) | omega | go_size | (simp at *; omega)))⟩
  case round =>
    obtain ⟨t, ht, rfl, hbx, hby, hb0⟩ := hrel
    have hz := hb0.size
    by_cases hlt : t < N
    · have hml := stM_lt p b t
      obtain ⟨l0, l1⟩ := hbd.out (b + (t : Int))
      have HF := hid (hF.out wr (b + (t : Int)) (by omega) (by omega) ((hrr.out.below hb0 (Nat.le_refl _)).more hz))
      by_cases hlf : lf p (b + (t : Int)) < b
      · have HZ := hid (stM_yes hlf)
        have HB := hid (bits_or_pow hml (by omega))
        obtain ⟨p1, p2, p3⟩ := pow_wrap (t : Int) (by omega) (by omega)
        rw [Int.toNat_natCast] at p1 p2 p3
        generalize stM p b t = m at *
        generalize lf p (b + (t : Int)) = f at *
        clear hml
        go_wp2_with (go_at_call 210; refine HF.out.mono ?_; rintro e w1 ⟨rfl, hb1⟩; have hbx1 := hid (hbx.below hb1 hbx.lt); have hby1 := hid (hby.below hb1 hby.lt); have q0 : w1.cell? ⟨w.heap.size + 1, 0, none⟩ = some (.int .i64 N) := hbx1.out.cell 0; have q1 : w1.cell? ⟨w.heap.size + 1, 1, none⟩ = some (.int .i64 m) := hbx1.out.cell 1; have f0 := hbx1.out.frozen 0; have f1 := hbx1.out.frozen 1; have hz1 := hb1.size)
        go_roundw
        case rel => exact ⟨t + 1, by omega, by go_num, by rw [HZ.out, ← HB.out]; exact hbx1.out.set_ 1 _, hby1.out.far (by simp) _, (by repeat' (first | exact Below.refl _ _ | (with_reducible assumption) | (with_reducible refine Below.alloc ?_ ?_ _) | (with_reducible refine Below.setCell ?_ ?_ _) | (with_reducible refine Below.drew ?_) | (with_reducible refine below_drewN ?_ _) | (refine Below.trans ?_ (Below.mono (by assumption) ?_)) | (with_reducible exact Nat.le_refl _) | (with_reducible assumption) | (exact Below.size (by assumption)) | omega | go_size | (simp at *; omega)))⟩
        case measure => simp [intOf]; omega
      · have HZ := hid (stM_not hlf)
        generalize stM p b t = m at *
        generalize lf p (b + (t : Int)) = f at *
        clear hml
        go_wp2_with (go_at_call 210; refine HF.out.mono ?_; rintro e w1 ⟨rfl, hb1⟩; have hbx1 := hid (hbx.below hb1 hbx.lt); have hby1 := hid (hby.below hb1 hby.lt))
        go_roundw
        case rel => exact ⟨t + 1, by omega, by go_num, by rw [HZ.out]; exact hbx1.out, hby1.out, (by repeat' (first | exact Below.refl _ _ | (with_reducible assumption) | (with_reducible refine Below.alloc ?_ ?_ _) | (with_reducible refine Below.setCell ?_ ?_ _) | (with_reducible refine Below.drew ?_) | (with_reducible refine below_drewN ?_ _) | (refine Below.trans ?_ (Below.mono (by assumption) ?_)) | (with_reducible exact Nat.le_refl _) | (with_reducible assumption) | (exact Below.size (by assumption)) | omega | go_size | (simp at *; omega)))⟩
        case measure => simp [intOf]; omega
    · have htN : t = N := by omega
      subst htN
      have q0 : wr.cell? ⟨w.heap.size + 1, 0, none⟩ = some (.int .i64 t) := hbx.cell 0
      have q1 : wr.cell? ⟨w.heap.size + 1, 1, none⟩ = some (.int .i64 (stM p b t)) := hbx.cell 1
      have f0 := hbx.frozen 0
      have f1 := hbx.frozen 1
      have z0 : wr.cell? ⟨w.heap.size, 0, none⟩ = some (.int .i64 0) := hby.cell 0
      have z1 : wr.cell? ⟨w.heap.size, 1, none⟩ = some (.int .i64 0) := hby.cell 1
      have g0 := hby.frozen 0
      have g1 := hby.frozen 1
      clear hbx hby
      go_wp2
      refine bodyPost_ret (v := .agg #[.int .i64 t, .int .i64 (stM p b t)]) ?_ rfl ⟨rfl, ?_⟩
      · simp (maxDischargeDepth := 8) [results, Try.results178, go_sem, *]
      · exact (by repeat' (first | exact Below.refl _ _ | (with_reducible assumption) | (with_reducible refine Below.alloc ?_ ?_ _) | (with_reducible refine Below.setCell ?_ ?_ _) | (with_reducible refine Below.drew ?_) | (with_reducible refine below_drewN ?_ _) | (refine Below.trans ?_ (Below.mono (by assumption) ?_)) | (with_reducible exact Nat.le_refl _) | (with_reducible assumption) | (exact Below.size (by assumption)) | omega | go_size | (simp at *; omega)))
set_option maxHeartbeats 1000000 in
theorem l08Of_any (A : Option Addr) (n c : Nat) (p : List Int) (b : Int) (N : Nat) (w : World) (hN : N ≤ 15) (b1 : -1000000 ≤ b) (b2 : b ≤ 1000000) (hp : okP p = true) (hr : Rd w w.heap.size 1 A n (ints p)) :
    Calls Try.prog 177 #[.slice A n c, .int .i64 b, .int .i64 N] w fun e w' => e = .returned (.agg #[.int .i64 N, .int .i64 (stM p b N)]) ∧ Below w.heap.size w w' := by
  have hlen := hr.len
  have hth := thOk_iff (okP_th hp)
  have hn1 : 1 ≤ n := by omega
  have hn2 : n ≤ 12 := by omega
  have hF := hid (fun (w1 : World) (b : Int) (b1 : -1000000000 ≤ b) (b2 : b ≤ 1000000000) (h : Rd w1 w1.heap.size 1 A n (ints p)) => l02From_any A n c p b w1 b1 b2 hp h)
  have hT := hid (fun (w1 : World) (b : Int) (h : Rd w1 w1.heap.size 1 A n (ints p)) => l02At_any A n c p b w1 (by omega) hn1 h)
  have hbd := hid (fun (b : Int) => lf_bd hp b)
  have hat := hid (fun (b : Int) => lf_at hp b)
  have hrr := hid hr
  clear hr hp hlen hth
  go_enter Try.func177, Try.ntmps177
  go_wp2
  have hby0 : Bx (w.alloc (Obj.cells #[.int .i64 0, .int .i64 0] 119)) w.heap.size 119 #[.int .i64 0, .int .i64 0] := Bx.new w _ _
  go_loopw [7, 8] (fun v i wr => ∃ t : Nat, t ≤ N ∧ i = .int .i64 t ∧ v = .int .i64 (stM p b t) ∧ Bx wr w.heap.size 119 #[.int .i64 0, .int .i64 0] ∧ Below w.heap.size w wr) (fun _ i _ => N - (intOf i).toNat)
  case atStart => exact ⟨0, Nat.zero_le _, rfl, rfl, hby0, (by repeat' (first | exact Below.refl _ _ | (with_reducible assumption) | (with_reducible refine Below.alloc ?_ ?_ _) | (with_reducible refine Below.setCell ?_ ?_ _) | (with_reducible refine Below.drew ?_) | (with_reducible refine below_drewN ?_ _) | (refine Below.trans ?_ (Below.mono (by assumption) ?_)) | (with_reducible exact Nat.le_refl _) | (with_reducible assumption) | (exact Below.size (by assumption)) | omega | go_size | (simp at *; omega)))⟩
  case round =>
    obtain ⟨t, ht, rfl, rfl, hby, hb0⟩ := hrel
    have hz := hb0.size
    by_cases hlt : t < N
    · have hml := stM_lt p b t
      obtain ⟨l0, l1⟩ := hbd.out (b + (t : Int))
      have HF := hid (hF.out wr (b + (t : Int)) (by omega) (by omega) ((hrr.out.below hb0 (Nat.le_refl _)).more hz))
      by_cases hlf : lf p (b + (t : Int)) < b
      · have HZ := hid (stM_yes hlf)
        have HB := hid (bits_or_pow hml (by omega))
        obtain ⟨p1, p2, p3⟩ := pow_wrap (t : Int) (by omega) (by omega)
        rw [Int.toNat_natCast] at p1 p2 p3
        have hpos : 0 < atB p (lf p (b + (t : Int))) := by have := hat.out (b + (t : Int)); omega
        have HT := hid (fun (w1 : World) (h : Rd w1 w1.heap.size 1 A n (ints p)) => hT.out w1 (lf p (b + (t : Int))) h)
        generalize atB p (lf p (b + (t : Int))) = y at *
        generalize stM p b t = m at *
        generalize lf p (b + (t : Int)) = f at *
        clear hml
        go_wp2_with (first | (go_at_call 208; refine HF.out.mono ?_; rintro e w1 ⟨rfl, hb1⟩; have hby1 := hid (hby.below hb1 hby.lt); have hz1 := hb1.size; have hr1 := hid ((hrr.out.below (hb0.trans (hb1.mono hz)) (Nat.le_refl _)).more (Nat.le_trans hz hz1))) | (go_at_call 209; refine (HT.out _ hr1.out).mono ?_; rintro e w' ⟨rfl, rfl⟩))
        go_roundw
        case rel => exact ⟨t + 1, by omega, by go_num, by rw [HZ.out, ← HB.out], hby1.out, (by repeat' (first | exact Below.refl _ _ | (with_reducible assumption) | (with_reducible refine Below.alloc ?_ ?_ _) | (with_reducible refine Below.setCell ?_ ?_ _) | (with_reducible refine Below.drew ?_) | (with_reducible refine below_drewN ?_ _) | (refine Below.trans ?_ (Below.mono (by assumption) ?_)) | (with_reducible exact Nat.le_refl _) | (with_reducible assumption) | (exact Below.size (by assumption)) | omega | go_size | (simp at *; omega)))⟩
        case measure => simp [intOf]; omega
      · have HZ := hid (stM_not hlf)
        have hd : decide (lf p (b + (t : Int)) < b) = false := by simpa using hlf
        generalize stM p b t = m at *
        generalize lf p (b + (t : Int)) = f at *
        clear hml
        go_wp2_with (go_at_call 208; refine HF.out.mono ?_; rintro e w1 ⟨rfl, hb1⟩; have hby1 := hid (hby.below hb1 hby.lt))
        go_roundw
        case rel => exact ⟨t + 1, by omega, by go_num, by rw [HZ.out], hby1.out, (by repeat' (first | exact Below.refl _ _ | (with_reducible assumption) | (with_reducible refine Below.alloc ?_ ?_ _) | (with_reducible refine Below.setCell ?_ ?_ _) | (with_reducible refine Below.drew ?_) | (with_reducible refine below_drewN ?_ _) | (refine Below.trans ?_ (Below.mono (by assumption) ?_)) | (with_reducible exact Nat.le_refl _) | (with_reducible assumption) | (exact Below.size (by assumption)) | omega | go_size | (simp at *; omega)))⟩
        case measure => simp [intOf]; omega
    · have htN : t = N := by omega
      subst htN
      have z0 : wr.cell? ⟨w.heap.size, 0, none⟩ = some (.int .i64 0) := hby.cell 0
      have z1 : wr.cell? ⟨w.heap.size, 1, none⟩ = some (.int .i64 0) := hby.cell 1
      have g0 := hby.frozen 0
      have g1 := hby.frozen 1
      clear hby
      go_wp2
      refine bodyPost_ret (v := .agg #[.int .i64 t, .int .i64 (stM p b t)]) ?_ rfl ⟨rfl, ?_⟩
      · simp (maxDischargeDepth := 8) [results, Try.results177, go_sem, *]
      · exact (by repeat' (first | exact Below.refl _ _ | (with_reducible assumption) | (with_reducible refine Below.alloc ?_ ?_ _) | (with_reducible refine Below.setCell ?_ ?_ _) | (with_reducible refine Below.drew ?_) | (with_reducible refine below_drewN ?_ _) | (refine Below.trans ?_ (Below.mono (by assumption) ?_)) | (with_reducible exact Nat.le_refl _) | (with_reducible assumption) | (exact Below.size (by assumption)) | omega | go_size | (simp at *; omega)))
end Go.Proofs.Ytlbhfjbbkkkldaa
