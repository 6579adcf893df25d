/- Contracts of RunThrows, and the walk of its law. -/
import Derived.Test.YtnngkaocblkgkaaA
import Derived.Test.YtnngkaocblkgkaaC
import Derived.Test.YtnngkaocblkgkaaN
import Derived.StillTailTactics
namespace Go.Proofs.Ytnngkaocblkgkaa
open Go.RowKit
set_option linter.unusedVariables false

theorem nextM_ok {h m t : Int} (k : stOk h m = true) (c : canB h m t = true) : stOk h (nextM m t) = true := by
  obtain ⟨h1, h2, m0, m1, _⟩ := stOk_iff k
  have hth : t ≤ h := by
    by_cases e : t = 0
    · omega
    · simp only [canB, e, if_false, Bool.and_eq_true, betweenB_iff] at c; exact c.1.1.2
  have hN : ((2 ^ h.toNat : Nat) : Int) = (2 : Int) ^ h.toNat := by simp
  have hm : m.toNat < 2 ^ h.toNat := by omega
  have key : 0 ≤ nextM m t ∧ nextM m t ≤ 2 ^ h.toNat - 1 := by
    by_cases ht : 0 < t
    · rw [nextM_pos m t ht]
      have e1 : m / 2 = ((m.toNat / 2 : Nat) : Int) := by omega
      have e2 : (2 : Int) ^ (t.toNat - 1) = ((2 ^ (t.toNat - 1) : Nat) : Int) := by simp
      have h3 : 2 ^ (t.toNat - 1) < 2 ^ h.toNat := Nat.pow_lt_pow_right (by omega) (by omega)
      have h4 : (2 : Nat) ^ h.toNat ≤ 2 ^ 10 := Nat.pow_le_pow_right (by omega) (by omega)
      rw [e1, e2, bits_or_nat _ _ (by omega) (by omega)]
      have h5 : m.toNat / 2 ||| 2 ^ (t.toNat - 1) < 2 ^ h.toNat := Nat.or_lt_two_pow (by omega) h3
      omega
    · rw [nextM_not m t ht]; omega
  simp only [stOk, Bool.and_eq_true, betweenB_iff]
  exact ⟨⟨h1, h2⟩, key⟩

/-- What RunThrows comes to from a valid state on. -/
def runF (h : Int) : Int → List Int → Nat → (Int × Int) × Int × Int
  | m, [], i => ((h, m), (i, 0))
  | m, t :: ts, i => if canB h m t then runF h (nextM m t) ts (i + 1) else ((h, m), (i, 6))
theorem runF_go {h m t : Int} {ts : List Int} {i : Nat} (c : canB h m t = true) : runF h m (t :: ts) i = runF h (nextM m t) ts (i + 1) := by simp [runF, c]
theorem runF_stop {h m t : Int} {ts : List Int} {i : Nat} (c : canB h m t = false) : runF h m (t :: ts) i = ((h, m), ((i : Int), 6)) := by simp [runF, c]
def rRunThrows (h m : Int) (ts : List Int) : (Int × Int) × Int × Int := if stOk h m then runF h m ts 0 else ((0, 0), (0, 1))

theorem RunThrows_any (h m : Int) (A : Option Addr) (n c : Nat) (ts : List Int) (w : World) (hn : n ≤ 1099511627776) (hr : Rd w w.heap.size 1 A n (ints ts)) :
    Calls Try.prog 26 #[.agg #[.int .i64 h, .int .i64 m], .slice A n c] w fun e w' => e = .returned (.tuple #[.agg #[.int .i64 (rRunThrows h m ts).1.1, .int .i64 (rRunThrows h m ts).1.2], .int .i64 (rRunThrows h m ts).2.1, .int .i64 (rRunThrows h m ts).2.2]) ∧ Below w.heap.size w w' := by
  by_cases k : stOk h m = true
  · have hs : rRunThrows h m ts = runF h m ts 0 := by simp [rRunThrows, k]
    have hst : Hid (runF h m (ts.drop 0) 0 = rRunThrows h m ts) := hs.symm
    have hlen := hr.len
    clear hs
    generalize rRunThrows h m ts = R at *
    obtain ⟨⟨Rh, Rm⟩, ⟨Ri, Rc⟩⟩ := R
    go_enter Try.func26, Try.ntmps26
    go_wp2_with (go_at_call 63; refine (validState_any _ _ _).mono ?_; rintro e w1 ⟨rfl, hb1⟩; obtain ⟨hc1, hf1, hz1, hl1⟩ := bcell hb1)
    have hbx : Bx w1 w.heap.size 23 #[.int .i64 h, .int .i64 m] := ((Bx.new w _ _).alloc _).below hb1 (by simp; omega)
    have hby : Bx w1 (w.heap.size + 1) 23 #[.int .i64 0, .int .i64 0] := by have := (Bx.new (w.alloc (Obj.cells #[.int .i64 h, .int .i64 m] 23)) 23 #[.int .i64 0, .int .i64 0]).below hb1 (by simp); simpa using this
    have hB1 : Below w.heap.size w w1 := (by repeat' (first | exact Below.refl _ _ | (with_reducible assumption) | (with_reducible refine Below.alloc ?_ ?_ _) | (with_reducible refine Below.setCell ?_ ?_ _) | (with_reducible refine Below.drew ?_) | (with_reducible refine below_drewN ?_ _) | (refine Below.trans ?_ (Below.mono (by assumption) ?_)) | (with_reducible exact Nat.le_refl _) | (with_reducible assumption) | (exact Below.size (by assumption)) | omega | go_size | (simp at *; omega)))
    clear hc1 hf1 hz1 hl1 hb1
    go_loopw [15] (fun i wr => ∃ (k : Nat) (y : Int), k ≤ n ∧ i = .int .i64 k ∧ stOk h y = true ∧ Hid (runF h y (ts.drop k) k = ((Rh, Rm), (Ri, Rc))) ∧ Bx wr w.heap.size 23 #[.int .i64 h, .int .i64 y] ∧ Bx wr (w.heap.size + 1) 23 #[.int .i64 0, .int .i64 0] ∧ Below w.heap.size w wr) (fun i _ => n - (intOf i).toNat)
    case atStart => exact ⟨0, m, Nat.zero_le _, rfl, k, hst, hbx, hby, hB1⟩
    case round =>
    obtain ⟨i, y, hi, rfl, hy, he, hbx, hby, hb0⟩ := hrel
    obtain ⟨y1, y2, y3, _, _⟩ := stOk_iff hy
    have s0 := hb0.size
    have q0 : wr.cell? ⟨w.heap.size, 0, none⟩ = some (.int .i64 h) := hbx.cell 0
    have q1 : wr.cell? ⟨w.heap.size, 1, none⟩ = some (.int .i64 y) := hbx.cell 1
    have f0 := hbx.frozen 0
    have f1 := hbx.frozen 1
    have z0 : wr.cell? ⟨w.heap.size + 1, 0, none⟩ = some (.int .i64 0) := hby.cell 0
    have z1 : wr.cell? ⟨w.heap.size + 1, 1, none⟩ = some (.int .i64 0) := hby.cell 1
    have g0 := hby.frozen 0
    have g1 := hby.frozen 1
    by_cases hlt : i < n
    · obtain ⟨b, off, x, rfl, hb, hx, hdr, hc⟩ := (hr.below hb0 (Nat.le_refl _)).at_ hlt
      by_cases cc : canB h y x = true
      · have hx10 := canB_le hy cc
        have hno := nextM_ok hy cc
        have HZ : Hid (runF h (nextM y x) (ts.drop (i + 1)) (i + 1) = ((Rh, Rm), (Ri, Rc))) := by show _ = _; rw [← he.out, hdr, runF_go cc]
        clear he hdr hx hb hr hlen
        go_wp2_with (first | (go_at_call 68; refine (can_any _ _ _ _ (by omega)).mono ?_; rintro e w2 ⟨rfl, hb2⟩; have s2 := hb2.size; replace hbx := hbx.below hb2 hbx.lt; replace hby := hby.below hb2 hby.lt; have q0 : w2.cell? ⟨w.heap.size, 0, none⟩ = some (.int .i64 h) := hbx.cell 0; have q1 : w2.cell? ⟨w.heap.size, 1, none⟩ = some (.int .i64 y) := hbx.cell 1; have f0 := hbx.frozen 0; have f1 := hbx.frozen 1; have z0 : w2.cell? ⟨w.heap.size + 1, 0, none⟩ = some (.int .i64 0) := hby.cell 0; have z1 : w2.cell? ⟨w.heap.size + 1, 1, none⟩ = some (.int .i64 0) := hby.cell 1; have g0 := hby.frozen 0; have g1 := hby.frozen 1) | (go_at_call 69; refine (next_any _ _ _ _ (by omega) y3).mono ?_; rintro e w3 ⟨rfl, hb3⟩; have s3 := hb3.size; replace hbx := hbx.below hb3 hbx.lt; replace hby := hby.below hb3 hby.lt; have q0 : w3.cell? ⟨w.heap.size, 0, none⟩ = some (.int .i64 h) := hbx.cell 0; have q1 : w3.cell? ⟨w.heap.size, 1, none⟩ = some (.int .i64 y) := hbx.cell 1; have f0 := hbx.frozen 0; have f1 := hbx.frozen 1; have z0 : w3.cell? ⟨w.heap.size + 1, 0, none⟩ = some (.int .i64 0) := hby.cell 0; have z1 : w3.cell? ⟨w.heap.size + 1, 1, none⟩ = some (.int .i64 0) := hby.cell 1; have g0 := hby.frozen 0; have g1 := hby.frozen 1))
        go_roundw
        case rel => exact ⟨i + 1, nextM y x, by omega, by go_num, hno, HZ, (hbx.set_ 0 _).set_ 1 _, (hby.far (by simp) _).far (by simp) _, (by repeat' (first | exact Below.refl _ _ | (with_reducible assumption) | (with_reducible refine Below.alloc ?_ ?_ _) | (with_reducible refine Below.setCell ?_ ?_ _) | (with_reducible refine Below.drew ?_) | (with_reducible refine below_drewN ?_ _) | (refine Below.trans ?_ (Below.mono (by assumption) ?_)) | (with_reducible exact Nat.le_refl _) | (with_reducible assumption) | (exact Below.size (by assumption)) | omega | go_size | (simp at *; omega)))⟩
        case measure => simp [intOf]; omega
      · have cc : canB h y x = false := by simpa using cc
        have HZ : Hid (((h, y), ((i : Int), (6 : Int))) = ((Rh, Rm), (Ri, Rc))) := by show _ = _; rw [← he.out, hdr, runF_stop cc]
        clear he hdr hx hb hr hlen
        go_wp2_with (first | (go_at_call 68; refine (can_any _ _ _ _ (by omega)).mono ?_; rintro e w2 ⟨rfl, hb2⟩; have s2 := hb2.size; replace hbx := hbx.below hb2 hbx.lt; replace hby := hby.below hb2 hby.lt; have q0 : w2.cell? ⟨w.heap.size, 0, none⟩ = some (.int .i64 h) := hbx.cell 0; have q1 : w2.cell? ⟨w.heap.size, 1, none⟩ = some (.int .i64 y) := hbx.cell 1; have f0 := hbx.frozen 0; have f1 := hbx.frozen 1; have z0 : w2.cell? ⟨w.heap.size + 1, 0, none⟩ = some (.int .i64 0) := hby.cell 0; have z1 : w2.cell? ⟨w.heap.size + 1, 1, none⟩ = some (.int .i64 0) := hby.cell 1; have g0 := hby.frozen 0; have g1 := hby.frozen 1))
        have hZ := HZ.out
        simp only [Prod.mk.injEq] at hZ
        obtain ⟨⟨rfl, rfl⟩, rfl, rfl⟩ := hZ
        refine bodyPost_ret (v := .tuple #[.agg #[.int .i64 h, .int .i64 y], .int .i64 (i : Int), .int .i64 6]) ?_ rfl ⟨rfl, ?_⟩
        · simp (maxDischargeDepth := 8) [results, Try.results26, go_sem, *]
        · exact (by repeat' (first | exact Below.refl _ _ | (with_reducible assumption) | (with_reducible refine Below.alloc ?_ ?_ _) | (with_reducible refine Below.setCell ?_ ?_ _) | (with_reducible refine Below.drew ?_) | (with_reducible refine below_drewN ?_ _) | (refine Below.trans ?_ (Below.mono (by assumption) ?_)) | (with_reducible exact Nat.le_refl _) | (with_reducible assumption) | (exact Below.size (by assumption)) | omega | go_size | (simp at *; omega)))
    · have hin : i = n := by omega
      subst hin
      have HZ : Hid (((h, y), ((i : Int), (0 : Int))) = ((Rh, Rm), (Ri, Rc))) := by
        show _ = _
        rw [← he.out, List.drop_eq_nil_of_le (by omega)]; rfl
      clear he hr hlen
      go_wp2
      have hZ := HZ.out
      simp only [Prod.mk.injEq] at hZ
      obtain ⟨⟨rfl, rfl⟩, rfl, rfl⟩ := hZ
      refine bodyPost_ret (v := .tuple #[.agg #[.int .i64 h, .int .i64 y], .int .i64 (i : Int), .int .i64 0]) ?_ rfl ⟨rfl, ?_⟩
      · simp (maxDischargeDepth := 8) [results, Try.results26, go_sem, *]
      · exact (by repeat' (first | exact Below.refl _ _ | (with_reducible assumption) | (with_reducible refine Below.alloc ?_ ?_ _) | (with_reducible refine Below.setCell ?_ ?_ _) | (with_reducible refine Below.drew ?_) | (with_reducible refine below_drewN ?_ _) | (refine Below.trans ?_ (Below.mono (by assumption) ?_)) | (with_reducible exact Nat.le_refl _) | (with_reducible assumption) | (exact Below.size (by assumption)) | omega | go_size | (simp at *; omega)))
  · have k : stOk h m = false := by simpa using k
    have hs : rRunThrows h m ts = ((0, 0), (0, 1)) := by simp [rRunThrows, k]
    rw [hs]
    clear hs
    go_enter Try.func26, Try.ntmps26
    go_wp2_with (first | (go_at_call 63; refine (validState_any _ _ _).mono ?_; rintro e w1 ⟨rfl, hb1⟩; first | (have hk1 := bchain (by assumption) hb1; obtain ⟨hc1, hf1, hz1, hl1⟩ := bcell hk1) | (obtain ⟨hc1, hf1, hz1, hl1⟩ := bcell hb1)))
    refine bodyPost_ret (v := .tuple #[.agg #[.int .i64 0, .int .i64 0], .int .i64 0, .int .i64 1]) ?_ rfl ⟨rfl, ?_⟩
    · simp (maxDischargeDepth := 8) [results, Try.results26, go_sem, *]
    · exact (by repeat' (first | exact Below.refl _ _ | (with_reducible assumption) | (with_reducible refine Below.alloc ?_ ?_ _) | (with_reducible refine Below.setCell ?_ ?_ _) | (with_reducible refine Below.drew ?_) | (with_reducible refine below_drewN ?_ _) | (refine Below.trans ?_ (Below.mono (by assumption) ?_)) | (with_reducible exact Nat.le_refl _) | (with_reducible assumption) | (exact Below.size (by assumption)) | omega | go_size | (simp at *; omega)))
theorem specRunThrows_any (h m : Int) (A : Option Addr) (n c : Nat) (ts : List Int) (w : World) (hn : n ≤ 1099511627776) (hr : Rd w w.heap.size 1 A n (ints ts)) :
    Calls Try.prog 25 #[.agg #[.int .i64 h, .int .i64 m], .slice A n c] w fun e w' => e = .returned (.tuple #[.agg #[.int .i64 (rRunThrows h m ts).1.1, .int .i64 (rRunThrows h m ts).1.2], .int .i64 (rRunThrows h m ts).2.1, .int .i64 (rRunThrows h m ts).2.2]) ∧ Below w.heap.size w w' := by
  by_cases k : stOk h m = true
  · have hs : rRunThrows h m ts = runF h m ts 0 := by simp [rRunThrows, k]
    have hst : Hid (runF h m (ts.drop 0) 0 = rRunThrows h m ts) := hs.symm
    have hlen := hr.len
    clear hs
    generalize rRunThrows h m ts = R at *
    obtain ⟨⟨Rh, Rm⟩, ⟨Ri, Rc⟩⟩ := R
    go_enter Try.func25, Try.ntmps25
    go_wp2_with (go_at_call 60; refine (l08Ok_any _ _ _).mono ?_; rintro e w1 ⟨rfl, hb1⟩; obtain ⟨hc1, hf1, hz1, hl1⟩ := bcell hb1)
    have hbx : Bx w1 w.heap.size 23 #[.int .i64 h, .int .i64 m] := ((Bx.new w _ _).alloc _).below hb1 (by simp; omega)
    have hby : Bx w1 (w.heap.size + 1) 23 #[.int .i64 0, .int .i64 0] := by have := (Bx.new (w.alloc (Obj.cells #[.int .i64 h, .int .i64 m] 23)) 23 #[.int .i64 0, .int .i64 0]).below hb1 (by simp); simpa using this
    have hB1 : Below w.heap.size w w1 := (by repeat' (first | exact Below.refl _ _ | (with_reducible assumption) | (with_reducible refine Below.alloc ?_ ?_ _) | (with_reducible refine Below.setCell ?_ ?_ _) | (with_reducible refine Below.drew ?_) | (with_reducible refine below_drewN ?_ _) | (refine Below.trans ?_ (Below.mono (by assumption) ?_)) | (with_reducible exact Nat.le_refl _) | (with_reducible assumption) | (exact Below.size (by assumption)) | omega | go_size | (simp at *; omega)))
    clear hc1 hf1 hz1 hl1 hb1
    go_loopw [7] (fun i wr => ∃ (k : Nat) (y : Int), k ≤ n ∧ i = .int .i64 k ∧ stOk h y = true ∧ Hid (runF h y (ts.drop k) k = ((Rh, Rm), (Ri, Rc))) ∧ Bx wr w.heap.size 23 #[.int .i64 h, .int .i64 y] ∧ Bx wr (w.heap.size + 1) 23 #[.int .i64 0, .int .i64 0] ∧ Below w.heap.size w wr) (fun i _ => n - (intOf i).toNat)
    case atStart => exact ⟨0, m, Nat.zero_le _, rfl, k, hst, hbx, hby, hB1⟩
    case round =>
    obtain ⟨i, y, hi, rfl, hy, he, hbx, hby, hb0⟩ := hrel
    obtain ⟨y1, y2, y3, _, _⟩ := stOk_iff hy
    have s0 := hb0.size
    have q0 : wr.cell? ⟨w.heap.size, 0, none⟩ = some (.int .i64 h) := hbx.cell 0
    have q1 : wr.cell? ⟨w.heap.size, 1, none⟩ = some (.int .i64 y) := hbx.cell 1
    have f0 := hbx.frozen 0
    have f1 := hbx.frozen 1
    have z0 : wr.cell? ⟨w.heap.size + 1, 0, none⟩ = some (.int .i64 0) := hby.cell 0
    have z1 : wr.cell? ⟨w.heap.size + 1, 1, none⟩ = some (.int .i64 0) := hby.cell 1
    have g0 := hby.frozen 0
    have g1 := hby.frozen 1
    by_cases hlt : i < n
    · obtain ⟨b, off, x, rfl, hb, hx, hdr, hc⟩ := (hr.below hb0 (Nat.le_refl _)).at_ hlt
      have hb' : b < wr.heap.size := Nat.lt_of_lt_of_le hb hb0.size
      by_cases cc : canB h y x = true
      · have hx10 := canB_le hy cc
        have hno := nextM_ok hy cc
        have HZ : Hid (runF h (nextM y x) (ts.drop (i + 1)) (i + 1) = ((Rh, Rm), (Ri, Rc))) := by show _ = _; rw [← he.out, hdr, runF_go cc]
        clear he hdr hx hb hr hlen
        go_wp2
        go_still_tail 5, (by kernel_rfl)
        change wpList _ _ _ _ _ wr.drew
        go_wp2_with (go_at_call 66; refine (l08Can_any _ _ _ _ (by omega)).mono ?_; rintro e w2 ⟨rfl, hb2⟩; have s2 := hb2.size; replace hbx := hbx.drew.below hb2 hbx.lt; replace hby := hby.drew.below hb2 hby.lt; have q0 : w2.cell? ⟨w.heap.size, 0, none⟩ = some (.int .i64 h) := hbx.cell 0; have q1 : w2.cell? ⟨w.heap.size, 1, none⟩ = some (.int .i64 y) := hbx.cell 1; have f0 := hbx.frozen 0; have f1 := hbx.frozen 1; have z0 : w2.cell? ⟨w.heap.size + 1, 0, none⟩ = some (.int .i64 0) := hby.cell 0; have z1 : w2.cell? ⟨w.heap.size + 1, 1, none⟩ = some (.int .i64 0) := hby.cell 1; have g0 := hby.frozen 0; have g1 := hby.frozen 1; have hc2 : w2.cell? ⟨b, off + i, none⟩ = some (.int .i64 x) := (hb2.cell (p := ⟨b, off + i, none⟩) hb').trans hc)
        go_still_tail 5, (by kernel_rfl)
        change wpList _ _ _ _ _ w2.drew
        go_wp2_with (go_at_call 67; refine (l08Next_any _ _ _ _ (by omega) y3).mono ?_; rintro e w3 ⟨rfl, hb3⟩; have s3 := hb3.size; replace hbx := hbx.drew.below hb3 hbx.lt; replace hby := hby.drew.below hb3 hby.lt; have q0 : w3.cell? ⟨w.heap.size, 0, none⟩ = some (.int .i64 h) := hbx.cell 0; have q1 : w3.cell? ⟨w.heap.size, 1, none⟩ = some (.int .i64 y) := hbx.cell 1; have f0 := hbx.frozen 0; have f1 := hbx.frozen 1; have z0 : w3.cell? ⟨w.heap.size + 1, 0, none⟩ = some (.int .i64 0) := hby.cell 0; have z1 : w3.cell? ⟨w.heap.size + 1, 1, none⟩ = some (.int .i64 0) := hby.cell 1; have g0 := hby.frozen 0; have g1 := hby.frozen 1)
        go_roundw
        case rel => exact ⟨i + 1, nextM y x, by omega, by go_num, hno, HZ, (hbx.set_ 0 _).set_ 1 _, (hby.far (by simp) _).far (by simp) _, (by repeat' (first | exact Below.refl _ _ | (with_reducible assumption) | (with_reducible refine Below.alloc ?_ ?_ _) | (with_reducible refine Below.setCell ?_ ?_ _) | (with_reducible refine Below.drew ?_) | (with_reducible refine below_drewN ?_ _) | (refine Below.trans ?_ (Below.mono (by assumption) ?_)) | (with_reducible exact Nat.le_refl _) | (with_reducible assumption) | (exact Below.size (by assumption)) | omega | go_size | (simp at *; omega)))⟩
        case measure => simp [intOf]; omega
      · have cc : canB h y x = false := by simpa using cc
        have HZ : Hid (((h, y), ((i : Int), (6 : Int))) = ((Rh, Rm), (Ri, Rc))) := by show _ = _; rw [← he.out, hdr, runF_stop cc]
        clear he hdr hx hb hr hlen
        go_wp2
        go_still_tail 5, (by kernel_rfl)
        change wpList _ _ _ _ _ wr.drew
        go_wp2_with (go_at_call 66; refine (l08Can_any _ _ _ _ (by omega)).mono ?_; rintro e w2 ⟨rfl, hb2⟩; have s2 := hb2.size; replace hbx := hbx.drew.below hb2 hbx.lt; replace hby := hby.drew.below hb2 hby.lt; have q0 : w2.cell? ⟨w.heap.size, 0, none⟩ = some (.int .i64 h) := hbx.cell 0; have q1 : w2.cell? ⟨w.heap.size, 1, none⟩ = some (.int .i64 y) := hbx.cell 1; have f0 := hbx.frozen 0; have f1 := hbx.frozen 1; have z0 : w2.cell? ⟨w.heap.size + 1, 0, none⟩ = some (.int .i64 0) := hby.cell 0; have z1 : w2.cell? ⟨w.heap.size + 1, 1, none⟩ = some (.int .i64 0) := hby.cell 1; have g0 := hby.frozen 0; have g1 := hby.frozen 1)
        have hZ := HZ.out
        simp only [Prod.mk.injEq] at hZ
        obtain ⟨⟨rfl, rfl⟩, rfl, rfl⟩ := hZ
        refine bodyPost_ret (v := .tuple #[.agg #[.int .i64 h, .int .i64 y], .int .i64 (i : Int), .int .i64 6]) ?_ rfl ⟨rfl, ?_⟩
        · simp (maxDischargeDepth := 8) [results, Try.results25, go_sem, *]
        · exact (by repeat' (first | exact Below.refl _ _ | (with_reducible assumption) | (with_reducible refine Below.alloc ?_ ?_ _) | (with_reducible refine Below.setCell ?_ ?_ _) | (with_reducible refine Below.drew ?_) | (with_reducible refine below_drewN ?_ _) | (refine Below.trans ?_ (Below.mono (by assumption) ?_)) | (with_reducible exact Nat.le_refl _) | (with_reducible assumption) | (exact Below.size (by assumption)) | omega | go_size | (simp at *; omega)))
    · have hin : i = n := by omega
      subst hin
      have HZ : Hid (((h, y), ((i : Int), (0 : Int))) = ((Rh, Rm), (Ri, Rc))) := by
        show _ = _
        rw [← he.out, List.drop_eq_nil_of_le (by omega)]; rfl
      clear he hr hlen
      go_wp2
      have hZ := HZ.out
      simp only [Prod.mk.injEq] at hZ
      obtain ⟨⟨rfl, rfl⟩, rfl, rfl⟩ := hZ
      refine bodyPost_ret (v := .tuple #[.agg #[.int .i64 h, .int .i64 y], .int .i64 (i : Int), .int .i64 0]) ?_ rfl ⟨rfl, ?_⟩
      · simp (maxDischargeDepth := 8) [results, Try.results25, go_sem, *]
      · exact (by repeat' (first | exact Below.refl _ _ | (with_reducible assumption) | (with_reducible refine Below.alloc ?_ ?_ _) | (with_reducible refine Below.setCell ?_ ?_ _) | (with_reducible refine Below.drew ?_) | (with_reducible refine below_drewN ?_ _) | (refine Below.trans ?_ (Below.mono (by assumption) ?_)) | (with_reducible exact Nat.le_refl _) | (with_reducible assumption) | (exact Below.size (by assumption)) | omega | go_size | (simp at *; omega)))
  · have k : stOk h m = false := by simpa using k
    have hs : rRunThrows h m ts = ((0, 0), (0, 1)) := by simp [rRunThrows, k]
    rw [hs]
    clear hs
    go_enter Try.func25, Try.ntmps25
    go_wp2_with (first | (go_at_call 60; refine (l08Ok_any _ _ _).mono ?_; rintro e w1 ⟨rfl, hb1⟩; first | (have hk1 := bchain (by assumption) hb1; obtain ⟨hc1, hf1, hz1, hl1⟩ := bcell hk1) | (obtain ⟨hc1, hf1, hz1, hl1⟩ := bcell hb1)))
    refine bodyPost_ret (v := .tuple #[.agg #[.int .i64 0, .int .i64 0], .int .i64 0, .int .i64 1]) ?_ rfl ⟨rfl, ?_⟩
    · simp (maxDischargeDepth := 8) [results, Try.results25, go_sem, *]
    · exact (by repeat' (first | exact Below.refl _ _ | (with_reducible assumption) | (with_reducible refine Below.alloc ?_ ?_ _) | (with_reducible refine Below.setCell ?_ ?_ _) | (with_reducible refine Below.drew ?_) | (with_reducible refine below_drewN ?_ _) | (refine Below.trans ?_ (Below.mono (by assumption) ?_)) | (with_reducible exact Nat.le_refl _) | (with_reducible assumption) | (exact Below.size (by assumption)) | omega | go_size | (simp at *; omega)))
theorem eqState_same (h m : Int) (w : World) :
    Calls Try.prog 17 #[.agg #[.int .i64 h, .int .i64 m], .agg #[.int .i64 h, .int .i64 m]] w fun e w' => e = .returned (.bool true) ∧ Below w.heap.size w w' := by
  go_enter Try.func17, Try.ntmps17
  go_wp2
  go_ret
  exact ⟨rfl, (by repeat' (first | exact Below.refl _ _ | (with_reducible assumption) | (with_reducible refine Below.alloc ?_ ?_ _) | (with_reducible refine Below.setCell ?_ ?_ _) | (with_reducible refine Below.drew ?_) | (with_reducible refine below_drewN ?_ _) | (refine Below.trans ?_ (Below.mono (by assumption) ?_)) | (with_reducible exact Nat.le_refl _) | (with_reducible assumption) | (exact Below.size (by assumption)) | omega | go_size | (simp at *; omega)))⟩
theorem toState_any (h m : Int) (w : World) :
    Calls Try.prog 23 #[.agg #[.int .i64 h, .int .i64 m]] w fun e w' => e = .returned (.agg #[.int .i64 h, .int .i64 m]) ∧ Below w.heap.size w w' := by
  go_enter Try.func23, Try.ntmps23
  go_wp2
  refine bodyPost_ret (v := .agg #[.int .i64 h, .int .i64 m]) ?_ rfl ⟨rfl, ?_⟩
  · simp (maxDischargeDepth := 8) [results, Try.results23, go_sem, *]
  · exact (by repeat' (first | exact Below.refl _ _ | (with_reducible assumption) | (with_reducible refine Below.alloc ?_ ?_ _) | (with_reducible refine Below.setCell ?_ ?_ _) | (with_reducible refine Below.drew ?_) | (with_reducible refine below_drewN ?_ _) | (refine Below.trans ?_ (Below.mono (by assumption) ?_)) | (with_reducible exact Nat.le_refl _) | (with_reducible assumption) | (exact Below.size (by assumption)) | omega | go_size | (simp at *; omega)))
theorem fnExactRunThrows_walk (w : World) (aSH aSM : Int) (_ : BD aSH) (_ : BD aSM) (aThrowsA : Option Addr) (aThrowsN aThrowsC : Nat) (aThrows : List Int) (aThrowsK : Came .i64 w aThrowsA aThrowsN aThrowsC aThrows) :
    Calls Try.prog 6 #[.agg #[.int .i64 aSH, .int .i64 aSM], .slice aThrowsA aThrowsN aThrowsC] w fun e w' => e = .returned (.bool true) ∧ Below w.heap.size w w' := by
  by_cases hlong : 1048576 < aThrowsN
  · have hm := aThrowsK.2.1
    go_enter Try.func6, Try.ntmps6
    go_wp2
    go_ret
    exact ⟨rfl, (by repeat' (first | exact Below.refl _ _ | (with_reducible assumption) | (with_reducible refine Below.alloc ?_ ?_ _) | (with_reducible refine Below.setCell ?_ ?_ _) | (with_reducible refine Below.drew ?_) | (with_reducible refine below_drewN ?_ _) | (refine Below.trans ?_ (Below.mono (by assumption) ?_)) | (with_reducible exact Nat.le_refl _) | (with_reducible assumption) | (exact Below.size (by assumption)) | omega | go_size | (simp at *; omega)))⟩
  have KaThrows := Rd.of_came aThrowsK
  have KLaThrows := KaThrows.len
  have B0aThrows := hid aThrowsK
  have hS := hid (fun (AaThrows : Option Addr) (caThrows : Nat) (w1 : World) (kaThrows : Rd w1 w1.heap.size 1 AaThrows aThrowsN (ints aThrows)) => specRunThrows_any aSH aSM AaThrows aThrowsN caThrows aThrows w1 (by omega) kaThrows)
  have hI := hid (fun (AaThrows : Option Addr) (caThrows : Nat) (w1 : World) (kaThrows : Rd w1 w1.heap.size 1 AaThrows aThrowsN (ints aThrows)) => RunThrows_any aSH aSM AaThrows aThrowsN caThrows aThrows w1 (by omega) kaThrows)
  generalize rRunThrows aSH aSM aThrows = r at *
  obtain ⟨⟨r0h, r0m⟩, ⟨r1, r2⟩⟩ := r
  go_enter Try.func6, Try.ntmps6
  go_wp2_with (go_at_call 23; refine (toState_any _ _ _).mono ?_; rintro e w1 ⟨rfl, hb1⟩; have s1 := hb1.size; have hX0 := hb1; have hB : Below w.heap.size w w1 := (by repeat' (first | exact Below.refl _ _ | (with_reducible assumption) | (with_reducible refine Below.alloc ?_ ?_ _) | (with_reducible refine Below.setCell ?_ ?_ _) | (with_reducible refine Below.drew ?_) | (with_reducible refine below_drewN ?_ _) | (refine Below.trans ?_ (Below.mono (by assumption) ?_)) | (with_reducible exact Nat.le_refl _) | (with_reducible assumption) | (exact Below.size (by assumption)) | omega | go_size | (simp at *; omega))); obtain ⟨hchX0, hfhX0, hzhX0, hlhX0⟩ := bcell hX0)
  go_wp2_with (go_at_call 19; refine (toInt64S_any _ _ _ _ _ (by omega) ((KaThrows.below hB (Nat.le_refl _)).more hB.size)).mono ?_; rintro e w2 ⟨v2, rfl, ho2, hb2⟩; obtain ⟨A2, c2, rfl⟩ := own_form ho2; have l2 := ho2.lt; have s2 := hb2.size; replace hB := bchain hB hb2; replace hX0 := bchain hX0 hb2; obtain ⟨hchX0, hfhX0, hzhX0, hlhX0⟩ := bcell hX0)
  go_wp2_with (go_at_call 25; refine (hS.out _ _ _ (Rd.of_own ho2)).mono ?_; rintro e w3 ⟨rfl, hb3⟩; have s3 := hb3.size; replace hB := bchain hB hb3; replace hX0 := bchain hX0 hb3; replace ho2 := own_below ho2 hb3; obtain ⟨hchX0, hfhX0, hzhX0, hlhX0⟩ := bcell hX0)
  go_wp2_with (go_at_call 19; refine (toInt64S_any _ _ _ _ _ (by omega) ((((KaThrows.below hB (Nat.le_refl _)).more hB.size).alloc (Nat.le_refl _) _).more (by simp))).mono ?_; rintro e w4 ⟨v4, rfl, ho4, hb4⟩; obtain ⟨A4, c4, rfl⟩ := own_form ho4; have l4 := ho4.lt; have s4 := sizeA hb4; replace hB := bchainA hB hb4; replace hX0 := bchainA hX0 hb4; have hX4 := hb4; replace ho2 := own_below (ho2.alloc _) hb4; obtain ⟨hchX0, hfhX0, hzhX0, hlhX0⟩ := bcell hX0; obtain ⟨hchX4, hfhX4, hzhX4, hlhX4⟩ := bcell hX4)
  go_wp2_with (go_at_call 23; refine (toState_any _ _ _).mono ?_; rintro e w5 ⟨rfl, hb5⟩; have s5 := hb5.size; replace hB := bchain hB hb5; replace hX0 := bchain hX0 hb5; replace hX4 := bchain hX4 hb5; replace ho2 := own_below ho2 hb5; replace ho4 := own_below ho4 hb5; obtain ⟨hchX0, hfhX0, hzhX0, hlhX0⟩ := bcell hX0; obtain ⟨hchX4, hfhX4, hzhX4, hlhX4⟩ := bcell hX4)
  go_wp2_with (go_at_call 26; refine (hI.out _ _ _ (Rd.of_own ho4)).mono ?_; rintro e w6 ⟨rfl, hb6⟩; have s6 := hb6.size; replace hB := bchain hB hb6; replace hX0 := bchain hX0 hb6; replace hX4 := bchain hX4 hb6; replace ho2 := own_below ho2 hb6; replace ho4 := own_below ho4 hb6; obtain ⟨hchX0, hfhX0, hzhX0, hlhX0⟩ := bcell hX0; obtain ⟨hchX4, hfhX4, hzhX4, hlhX4⟩ := bcell hX4)
  go_wp2_with (go_at_call 17; refine (eqState_same _ _ _).mono ?_; rintro e w7 ⟨rfl, hb7⟩; have s7 := sizeA hb7; replace hB := bchainA hB hb7; replace hX0 := bchainA hX0 hb7; replace hX4 := bchainA hX4 hb7; have hX7 := hb7; replace ho2 := own_below (ho2.alloc _) hb7; replace ho4 := own_below (ho4.alloc _) hb7; obtain ⟨hchX0, hfhX0, hzhX0, hlhX0⟩ := bcell hX0; obtain ⟨hchX4, hfhX4, hzhX4, hlhX4⟩ := bcell hX4; obtain ⟨hchX7, hfhX7, hzhX7, hlhX7⟩ := bcell hX7)
  go_wp2_with (go_at_call 19; refine (toInt64S_any _ _ _ _ _ (by omega) ((KaThrows.below hB (Nat.le_refl _)).more hB.size)).mono ?_; rintro e w8 ⟨v8, rfl, ho8, hb8⟩; obtain ⟨A8, c8, rfl⟩ := own_form ho8; have l8 := ho8.lt; have s8 := hb8.size; replace hB := bchain hB hb8; replace hX0 := bchain hX0 hb8; replace hX4 := bchain hX4 hb8; replace hX7 := bchain hX7 hb8; replace ho2 := own_below ho2 hb8; replace ho4 := own_below ho4 hb8; obtain ⟨hchX0, hfhX0, hzhX0, hlhX0⟩ := bcell hX0; obtain ⟨hchX4, hfhX4, hzhX4, hlhX4⟩ := bcell hX4; obtain ⟨hchX7, hfhX7, hzhX7, hlhX7⟩ := bcell hX7)
  go_wp2_with (go_at_call 21; refine (eqInt64S_same _ _ _ _ _ _ _ (by omega) (Rd.of_own ho4) (Rd.of_own ho8)).mono ?_; rintro e w9 ⟨rfl, hb9⟩; have s9 := hb9.size; replace hB := bchain hB hb9; replace hX0 := bchain hX0 hb9; replace hX4 := bchain hX4 hb9; replace hX7 := bchain hX7 hb9; replace ho2 := own_below ho2 hb9; replace ho4 := own_below ho4 hb9; replace ho8 := own_below ho8 hb9; obtain ⟨hchX0, hfhX0, hzhX0, hlhX0⟩ := bcell hX0; obtain ⟨hchX4, hfhX4, hzhX4, hlhX4⟩ := bcell hX4; obtain ⟨hchX7, hfhX7, hzhX7, hlhX7⟩ := bcell hX7)
  go_ret
  exact ⟨rfl, (by repeat' (first | exact Below.refl _ _ | (with_reducible assumption) | (with_reducible refine Below.alloc ?_ ?_ _) | (with_reducible refine Below.setCell ?_ ?_ _) | (with_reducible refine Below.drew ?_) | (with_reducible refine below_drewN ?_ _) | (refine Below.trans ?_ (Below.mono (by assumption) ?_)) | (with_reducible exact Nat.le_refl _) | (with_reducible assumption) | (exact Below.size (by assumption)) | omega | go_size | (simp at *; omega)))⟩
end Go.Proofs.Ytnngkaocblkgkaa
