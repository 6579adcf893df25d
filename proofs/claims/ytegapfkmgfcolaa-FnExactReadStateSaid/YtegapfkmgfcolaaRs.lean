/- Contracts of ReadState, and the walk of its law. -/
import Derived.Test.YtegapfkmgfcolaaB
namespace Go.Proofs.Ytegapfkmgfcolaa
open Go.RowKit
set_option linter.unusedVariables false

theorem byts_drop (s : ByteArray) (k : Nat) (h : k < s.size) : s.data.toList.drop k = s[k] :: s.data.toList.drop (k + 1) := by
  rw [List.drop_eq_getElem_cons (by simpa using h)]; rfl
/-- The mask that the letters from the k-th on add to a mask, if all are digits. -/
def rdS : List UInt8 → Nat → Int → Option Int
  | [], _, m => some m
  | b :: l, k, m => if (b.toNat : Int) = 48 then rdS l (k + 1) m else if (b.toNat : Int) = 49 then rdS l (k + 1) (bits BinOp.or IntKind.i64 m (2 ^ k)) else none
theorem rdS_0 {b : UInt8} {l : List UInt8} {k : Nat} {m : Int} (h : (b.toNat : Int) = 48) : rdS (b :: l) k m = rdS l (k + 1) m := by simp [rdS, h]
theorem rdS_1 {b : UInt8} {l : List UInt8} {k : Nat} {m : Int} (h : (b.toNat : Int) = 49) : rdS (b :: l) k m = rdS l (k + 1) (bits BinOp.or IntKind.i64 m (2 ^ k)) := by simp [rdS, h]
theorem rdS_2 {b : UInt8} {l : List UInt8} {k : Nat} {m : Int} (h : ¬ (b.toNat : Int) = 48) (h2 : ¬ (b.toNat : Int) = 49) : rdS (b :: l) k m = none := by simp [rdS, h, h2]
def stBool (n : Int) : Option Int → (Int × Int) × Bool
  | some m => ((n, m), true)
  | none => ((0, 0), false)
/-- What ReadState gives. -/
def rReadState (s : ByteArray) : (Int × Int) × Bool := if betweenB s.size 1 10 then stBool s.size (rdS s.data.toList 0 0) else ((0, 0), false)

set_option maxHeartbeats 1000000 in
theorem ReadState_any (s : ByteArray) (hsz : s.size ≤ 1099511627776) (w : World) :
    Calls Try.prog 31 #[.string s] w fun e w' => e = .returned (.tuple #[.agg #[.int .i64 (rReadState s).1.1, .int .i64 (rReadState s).1.2], .bool (rReadState s).2]) ∧ Below w.heap.size w w' := by
  by_cases k : betweenB (s.size : Int) 1 10 = true
  · have k' := (betweenB_iff _ _ _).1 k
    have hs : rReadState s = stBool s.size (rdS s.data.toList 0 0) := by simp [rReadState, k]
    have hst : Hid (stBool s.size (rdS (s.data.toList.drop 0) 0 0) = rReadState s) := hs.symm
    clear hs
    generalize rReadState s = R at *
    obtain ⟨⟨Rh, Rm⟩, Rb⟩ := R
    go_enter Try.func31, Try.ntmps31
    go_wp2_with (go_at_call 46; refine (isHeight_any _ _).mono ?_; rintro e w' ⟨rfl, rfl⟩)
    have hby : Bx ((w.alloc (Obj.cells #[.int .i64 0, .int .i64 0] 25)).alloc (Obj.cells #[.int .i64 s.size, .int .i64 0] 25)) w.heap.size 25 #[.int .i64 0, .int .i64 0] := (Bx.new w _ _).alloc _
    have hbx : Bx ((w.alloc (Obj.cells #[.int .i64 0, .int .i64 0] 25)).alloc (Obj.cells #[.int .i64 s.size, .int .i64 0] 25)) (w.heap.size + 1) 25 #[.int .i64 s.size, .int .i64 0] := by have := Bx.new (w.alloc (Obj.cells #[.int .i64 0, .int .i64 0] 25)) 25 #[.int .i64 s.size, .int .i64 0]; simpa using this
    go_loopw [16] (fun i wr => ∃ (k : Nat) (y : Int), k ≤ s.size ∧ i = .int .i64 k ∧ Hid (stBool s.size (rdS (s.data.toList.drop k) k y) = ((Rh, Rm), Rb)) ∧ Bx wr (w.heap.size + 1) 25 #[.int .i64 s.size, .int .i64 y] ∧ Bx wr w.heap.size 25 #[.int .i64 0, .int .i64 0] ∧ Below w.heap.size w wr) (fun i _ => s.size - (intOf i).toNat)
    case atStart => exact ⟨0, 0, Nat.zero_le _, rfl, hst, hbx, hby, (by repeat' (first | exact Below.refl _ _ | (with_reducible assumption) | (with_reducible refine Below.alloc ?_ ?_ _) | (with_reducible refine Below.setCell ?_ ?_ _) | (with_reducible refine Below.drew ?_) | (with_reducible refine below_drewN ?_ _) | (refine Below.trans ?_ (Below.mono (by assumption) ?_)) | (with_reducible exact Nat.le_refl _) | (with_reducible assumption) | (exact Below.size (by assumption)) | omega | go_size | (simp at *; omega)))⟩
    case round =>
    obtain ⟨i, y, hi, rfl, he, hbx, hby, hb0⟩ := hrel
    have s0 := hb0.size
    have q0 : wr.cell? ⟨w.heap.size + 1, 0, none⟩ = some (.int .i64 s.size) := hbx.cell 0
    have q1 : wr.cell? ⟨w.heap.size + 1, 1, none⟩ = some (.int .i64 y) := hbx.cell 1
    have f0 := hbx.frozen 0
    have f1 := hbx.frozen 1
    have z0 : wr.cell? ⟨w.heap.size, 0, none⟩ = some (.int .i64 0) := hby.cell 0
    have z1 : wr.cell? ⟨w.heap.size, 1, none⟩ = some (.int .i64 0) := hby.cell 1
    have g0 := hby.frozen 0
    have g1 := hby.frozen 1
    by_cases hlt : i < s.size
    · have hbt : ((s[i]'hlt).toNat : Int) ≤ 255 := by have := (s[i]'hlt).toNat_lt; omega
      have hb00 : 0 ≤ ((s[i]'hlt).toNat : Int) := by omega
      by_cases c0 : ((s[i]'hlt).toNat : Int) = 48
      · have HZ : Hid (stBool s.size (rdS (s.data.toList.drop (i + 1)) (i + 1) y) = ((Rh, Rm), Rb)) := by show _ = _; rw [← he.out, byts_drop s i hlt, rdS_0 c0]
        clear he hst
        go_wp2
        go_roundw
        case rel => exact ⟨i + 1, y, by omega, by go_num, HZ, hbx, hby, (by repeat' (first | exact Below.refl _ _ | (with_reducible assumption) | (with_reducible refine Below.alloc ?_ ?_ _) | (with_reducible refine Below.setCell ?_ ?_ _) | (with_reducible refine Below.drew ?_) | (with_reducible refine below_drewN ?_ _) | (refine Below.trans ?_ (Below.mono (by assumption) ?_)) | (with_reducible exact Nat.le_refl _) | (with_reducible assumption) | (exact Below.size (by assumption)) | omega | go_size | (simp at *; omega)))⟩
        case measure => simp [intOf]; omega
      · by_cases c1 : ((s[i]'hlt).toNat : Int) = 49
        · have HZ : Hid (stBool s.size (rdS (s.data.toList.drop (i + 1)) (i + 1) (bits BinOp.or IntKind.i64 y (2 ^ i))) = ((Rh, Rm), Rb)) := by show _ = _; rw [← he.out, byts_drop s i hlt, rdS_1 c1]
          obtain ⟨p1, p2, p3⟩ := pow_wrap (i : Int) (by omega) (by omega)
          have e : ((i : Int)).toNat = i := by omega
          rw [e] at p1 p2 p3
          clear he hst e
          go_wp2
          go_roundw
          case rel => exact ⟨i + 1, _, by omega, by go_num, HZ, hbx.set_ 1 _, hby.far (by simp) _, (by repeat' (first | exact Below.refl _ _ | (with_reducible assumption) | (with_reducible refine Below.alloc ?_ ?_ _) | (with_reducible refine Below.setCell ?_ ?_ _) | (with_reducible refine Below.drew ?_) | (with_reducible refine below_drewN ?_ _) | (refine Below.trans ?_ (Below.mono (by assumption) ?_)) | (with_reducible exact Nat.le_refl _) | (with_reducible assumption) | (exact Below.size (by assumption)) | omega | go_size | (simp at *; omega)))⟩
          case measure => simp [intOf]; omega
        · have HZ : Hid ((((0 : Int), (0 : Int)), false) = ((Rh, Rm), Rb)) := by show _ = _; rw [← he.out, byts_drop s i hlt, rdS_2 c0 c1]; rfl
          clear he hst
          go_wp2
          have hZ := HZ.out
          simp only [Prod.mk.injEq] at hZ
          obtain ⟨⟨rfl, rfl⟩, rfl⟩ := hZ
          refine bodyPost_ret (v := .tuple #[.agg #[.int .i64 0, .int .i64 0], .bool false]) ?_ rfl ⟨rfl, ?_⟩
          · simp (maxDischargeDepth := 8) [results, Try.results31, go_sem, *]
          · exact (by repeat' (first | exact Below.refl _ _ | (with_reducible assumption) | (with_reducible refine Below.alloc ?_ ?_ _) | (with_reducible refine Below.setCell ?_ ?_ _) | (with_reducible refine Below.drew ?_) | (with_reducible refine below_drewN ?_ _) | (refine Below.trans ?_ (Below.mono (by assumption) ?_)) | (with_reducible exact Nat.le_refl _) | (with_reducible assumption) | (exact Below.size (by assumption)) | omega | go_size | (simp at *; omega)))
    · have hin : i = s.size := by omega
      have HZ : Hid ((((s.size : Int), y), true) = ((Rh, Rm), Rb)) := by
        show _ = _
        rw [← he.out, List.drop_eq_nil_of_le (by simp; omega)]; rfl
      clear he hst
      go_wp2
      have hZ := HZ.out
      simp only [Prod.mk.injEq] at hZ
      obtain ⟨⟨rfl, rfl⟩, rfl⟩ := hZ
      refine bodyPost_ret (v := .tuple #[.agg #[.int .i64 s.size, .int .i64 y], .bool true]) ?_ rfl ⟨rfl, ?_⟩
      · simp (maxDischargeDepth := 8) [results, Try.results31, go_sem, *]
      · exact (by repeat' (first | exact Below.refl _ _ | (with_reducible assumption) | (with_reducible refine Below.alloc ?_ ?_ _) | (with_reducible refine Below.setCell ?_ ?_ _) | (with_reducible refine Below.drew ?_) | (with_reducible refine below_drewN ?_ _) | (refine Below.trans ?_ (Below.mono (by assumption) ?_)) | (with_reducible exact Nat.le_refl _) | (with_reducible assumption) | (exact Below.size (by assumption)) | omega | go_size | (simp at *; omega)))
  · have k : betweenB (s.size : Int) 1 10 = false := by simpa using k
    have hs : rReadState s = ((0, 0), false) := by simp [rReadState, k]
    rw [hs]
    clear hs
    go_enter Try.func31, Try.ntmps31
    go_wp2_with (go_at_call 46; refine (isHeight_any _ _).mono ?_; rintro e w' ⟨rfl, rfl⟩)
    refine bodyPost_ret (v := .tuple #[.agg #[.int .i64 0, .int .i64 0], .bool false]) ?_ rfl ⟨rfl, ?_⟩
    · simp (maxDischargeDepth := 8) [results, Try.results31, go_sem, *]
    · exact (by repeat' (first | exact Below.refl _ _ | (with_reducible assumption) | (with_reducible refine Below.alloc ?_ ?_ _) | (with_reducible refine Below.setCell ?_ ?_ _) | (with_reducible refine Below.drew ?_) | (with_reducible refine below_drewN ?_ _) | (refine Below.trans ?_ (Below.mono (by assumption) ?_)) | (with_reducible exact Nat.le_refl _) | (with_reducible assumption) | (exact Below.size (by assumption)) | omega | go_size | (simp at *; omega)))
set_option maxHeartbeats 1000000 in
theorem specReadState_any (s : ByteArray) (hsz : s.size ≤ 1099511627776) (w : World) :
    Calls Try.prog 30 #[.string s] w fun e w' => e = .returned (.tuple #[.agg #[.int .i64 (rReadState s).1.1, .int .i64 (rReadState s).1.2], .bool (rReadState s).2]) ∧ Below w.heap.size w w' := by
  by_cases k : betweenB (s.size : Int) 1 10 = true
  · have k' := (betweenB_iff _ _ _).1 k
    have hs : rReadState s = stBool s.size (rdS s.data.toList 0 0) := by simp [rReadState, k]
    have hst : Hid (stBool s.size (rdS (s.data.toList.drop 0) 0 0) = rReadState s) := hs.symm
    clear hs
    generalize rReadState s = R at *
    obtain ⟨⟨Rh, Rm⟩, Rb⟩ := R
    go_enter Try.func30, Try.ntmps30
    go_wp2_with (go_at_call 48; refine (l08Height_any _ _).mono ?_; rintro e w' ⟨rfl, rfl⟩)
    have hby : Bx ((w.alloc (Obj.cells #[.int .i64 0, .int .i64 0] 25)).alloc (Obj.cells #[.int .i64 s.size, .int .i64 0] 25)) w.heap.size 25 #[.int .i64 0, .int .i64 0] := (Bx.new w _ _).alloc _
    have hbx : Bx ((w.alloc (Obj.cells #[.int .i64 0, .int .i64 0] 25)).alloc (Obj.cells #[.int .i64 s.size, .int .i64 0] 25)) (w.heap.size + 1) 25 #[.int .i64 s.size, .int .i64 0] := by have := Bx.new (w.alloc (Obj.cells #[.int .i64 0, .int .i64 0] 25)) 25 #[.int .i64 s.size, .int .i64 0]; simpa using this
    go_loopw [5] (fun i wr => ∃ (k : Nat) (y : Int), k ≤ s.size ∧ i = .int .i64 k ∧ Hid (stBool s.size (rdS (s.data.toList.drop k) k y) = ((Rh, Rm), Rb)) ∧ Bx wr (w.heap.size + 1) 25 #[.int .i64 s.size, .int .i64 y] ∧ Bx wr w.heap.size 25 #[.int .i64 0, .int .i64 0] ∧ Below w.heap.size w wr) (fun i _ => s.size - (intOf i).toNat)
    case atStart => exact ⟨0, 0, Nat.zero_le _, rfl, hst, hbx, hby, (by repeat' (first | exact Below.refl _ _ | (with_reducible assumption) | (with_reducible refine Below.alloc ?_ ?_ _) | (with_reducible refine Below.setCell ?_ ?_ _) | (with_reducible refine Below.drew ?_) | (with_reducible refine below_drewN ?_ _) | (refine Below.trans ?_ (Below.mono (by assumption) ?_)) | (with_reducible exact Nat.le_refl _) | (with_reducible assumption) | (exact Below.size (by assumption)) | omega | go_size | (simp at *; omega)))⟩
    case round =>
    obtain ⟨i, y, hi, rfl, he, hbx, hby, hb0⟩ := hrel
    have s0 := hb0.size
    have q0 : wr.cell? ⟨w.heap.size + 1, 0, none⟩ = some (.int .i64 s.size) := hbx.cell 0
    have q1 : wr.cell? ⟨w.heap.size + 1, 1, none⟩ = some (.int .i64 y) := hbx.cell 1
    have f0 := hbx.frozen 0
    have f1 := hbx.frozen 1
    have z0 : wr.cell? ⟨w.heap.size, 0, none⟩ = some (.int .i64 0) := hby.cell 0
    have z1 : wr.cell? ⟨w.heap.size, 1, none⟩ = some (.int .i64 0) := hby.cell 1
    have g0 := hby.frozen 0
    have g1 := hby.frozen 1
    by_cases hlt : i < s.size
    · have hbt : ((s[i]'hlt).toNat : Int) ≤ 255 := by have := (s[i]'hlt).toNat_lt; omega
      have hb00 : 0 ≤ ((s[i]'hlt).toNat : Int) := by omega
      by_cases c0 : ((s[i]'hlt).toNat : Int) = 48
      · have HZ : Hid (stBool s.size (rdS (s.data.toList.drop (i + 1)) (i + 1) y) = ((Rh, Rm), Rb)) := by show _ = _; rw [← he.out, byts_drop s i hlt, rdS_0 c0]
        clear he hst
        go_wp2
        go_roundw
        case rel => exact ⟨i + 1, y, by omega, by go_num, HZ, hbx, hby, (by repeat' (first | exact Below.refl _ _ | (with_reducible assumption) | (with_reducible refine Below.alloc ?_ ?_ _) | (with_reducible refine Below.setCell ?_ ?_ _) | (with_reducible refine Below.drew ?_) | (with_reducible refine below_drewN ?_ _) | (refine Below.trans ?_ (Below.mono (by assumption) ?_)) | (with_reducible exact Nat.le_refl _) | (with_reducible assumption) | (exact Below.size (by assumption)) | omega | go_size | (simp at *; omega)))⟩
        case measure => simp [intOf]; omega
      · by_cases c1 : ((s[i]'hlt).toNat : Int) = 49
        · have HZ : Hid (stBool s.size (rdS (s.data.toList.drop (i + 1)) (i + 1) (bits BinOp.or IntKind.i64 y (2 ^ i))) = ((Rh, Rm), Rb)) := by show _ = _; rw [← he.out, byts_drop s i hlt, rdS_1 c1]
          obtain ⟨p1, p2, p3⟩ := pow_wrap (i : Int) (by omega) (by omega)
          have e : ((i : Int)).toNat = i := by omega
          rw [e] at p1 p2 p3
          clear he hst e
          go_wp2
          go_roundw
          case rel => exact ⟨i + 1, _, by omega, by go_num, HZ, hbx.set_ 1 _, hby.far (by simp) _, (by repeat' (first | exact Below.refl _ _ | (with_reducible assumption) | (with_reducible refine Below.alloc ?_ ?_ _) | (with_reducible refine Below.setCell ?_ ?_ _) | (with_reducible refine Below.drew ?_) | (with_reducible refine below_drewN ?_ _) | (refine Below.trans ?_ (Below.mono (by assumption) ?_)) | (with_reducible exact Nat.le_refl _) | (with_reducible assumption) | (exact Below.size (by assumption)) | omega | go_size | (simp at *; omega)))⟩
          case measure => simp [intOf]; omega
        · have HZ : Hid ((((0 : Int), (0 : Int)), false) = ((Rh, Rm), Rb)) := by show _ = _; rw [← he.out, byts_drop s i hlt, rdS_2 c0 c1]; rfl
          clear he hst
          go_wp2
          have hZ := HZ.out
          simp only [Prod.mk.injEq] at hZ
          obtain ⟨⟨rfl, rfl⟩, rfl⟩ := hZ
          refine bodyPost_ret (v := .tuple #[.agg #[.int .i64 0, .int .i64 0], .bool false]) ?_ rfl ⟨rfl, ?_⟩
          · simp (maxDischargeDepth := 8) [results, Try.results30, go_sem, *]
          · exact (by repeat' (first | exact Below.refl _ _ | (with_reducible assumption) | (with_reducible refine Below.alloc ?_ ?_ _) | (with_reducible refine Below.setCell ?_ ?_ _) | (with_reducible refine Below.drew ?_) | (with_reducible refine below_drewN ?_ _) | (refine Below.trans ?_ (Below.mono (by assumption) ?_)) | (with_reducible exact Nat.le_refl _) | (with_reducible assumption) | (exact Below.size (by assumption)) | omega | go_size | (simp at *; omega)))
    · have hin : i = s.size := by omega
      have HZ : Hid ((((s.size : Int), y), true) = ((Rh, Rm), Rb)) := by
        show _ = _
        rw [← he.out, List.drop_eq_nil_of_le (by simp; omega)]; rfl
      clear he hst
      go_wp2
      have hZ := HZ.out
      simp only [Prod.mk.injEq] at hZ
      obtain ⟨⟨rfl, rfl⟩, rfl⟩ := hZ
      refine bodyPost_ret (v := .tuple #[.agg #[.int .i64 s.size, .int .i64 y], .bool true]) ?_ rfl ⟨rfl, ?_⟩
      · simp (maxDischargeDepth := 8) [results, Try.results30, go_sem, *]
      · exact (by repeat' (first | exact Below.refl _ _ | (with_reducible assumption) | (with_reducible refine Below.alloc ?_ ?_ _) | (with_reducible refine Below.setCell ?_ ?_ _) | (with_reducible refine Below.drew ?_) | (with_reducible refine below_drewN ?_ _) | (refine Below.trans ?_ (Below.mono (by assumption) ?_)) | (with_reducible exact Nat.le_refl _) | (with_reducible assumption) | (exact Below.size (by assumption)) | omega | go_size | (simp at *; omega)))
  · have k : betweenB (s.size : Int) 1 10 = false := by simpa using k
    have hs : rReadState s = ((0, 0), false) := by simp [rReadState, k]
    rw [hs]
    clear hs
    go_enter Try.func30, Try.ntmps30
    go_wp2_with (go_at_call 48; refine (l08Height_any _ _).mono ?_; rintro e w' ⟨rfl, rfl⟩)
    refine bodyPost_ret (v := .tuple #[.agg #[.int .i64 0, .int .i64 0], .bool false]) ?_ rfl ⟨rfl, ?_⟩
    · simp (maxDischargeDepth := 8) [results, Try.results30, go_sem, *]
    · exact (by repeat' (first | exact Below.refl _ _ | (with_reducible assumption) | (with_reducible refine Below.alloc ?_ ?_ _) | (with_reducible refine Below.setCell ?_ ?_ _) | (with_reducible refine Below.drew ?_) | (with_reducible refine below_drewN ?_ _) | (refine Below.trans ?_ (Below.mono (by assumption) ?_)) | (with_reducible exact Nat.le_refl _) | (with_reducible assumption) | (exact Below.size (by assumption)) | omega | go_size | (simp at *; omega)))
theorem fnExactReadState_walk (w : World) (aT : ByteArray) (_ : aT.size ≤ maxLen) :
    Calls Try.prog 9 #[.string aT] w fun e w' => e = .returned (.bool true) ∧ Below w.heap.size w w' := by
  by_cases hlong : 1048576 < aT.size
  · have hm := True.intro
    go_enter Try.func9, Try.ntmps9
    go_wp2
    go_ret
    exact ⟨rfl, (by repeat' (first | exact Below.refl _ _ | (with_reducible assumption) | (with_reducible refine Below.alloc ?_ ?_ _) | (with_reducible refine Below.setCell ?_ ?_ _) | (with_reducible refine Below.drew ?_) | (with_reducible refine below_drewN ?_ _) | (refine Below.trans ?_ (Below.mono (by assumption) ?_)) | (with_reducible exact Nat.le_refl _) | (with_reducible assumption) | (exact Below.size (by assumption)) | omega | go_size | (simp at *; omega)))⟩
  have hS := hid (fun  (w1 : World)  => specReadState_any aT (by omega) w1 )
  have hI := hid (fun  (w1 : World)  => ReadState_any aT (by omega) w1 )
  generalize rReadState aT = r at *
  obtain ⟨⟨r0h, r0m⟩, r1⟩ := r
  have hB := Below.refl w.heap.size w
  go_enter Try.func9, Try.ntmps9
  go_wp2_with (go_at_call 30; refine (hS.out _).mono ?_; rintro e w1 ⟨rfl, hb1⟩; have s1 := hb1.size; replace hB := bchain hB hb1)
  go_wp2_with (go_at_call 31; refine (hI.out _).mono ?_; rintro e w2 ⟨rfl, hb2⟩; have s2 := sizeA hb2; replace hB := bchainA hB hb2; have hX2 := hb2; obtain ⟨hchX2, hfhX2, hzhX2, hlhX2⟩ := bcell hX2)
  go_wp2_with (go_at_call 20; refine (eqState_same _ _ _).mono ?_; rintro e w3 ⟨rfl, hb3⟩; have s3 := sizeA hb3; replace hB := bchainA hB hb3; replace hX2 := bchainA hX2 hb3; have hX3 := hb3; obtain ⟨hchX2, hfhX2, hzhX2, hlhX2⟩ := bcell hX2; obtain ⟨hchX3, hfhX3, hzhX3, hlhX3⟩ := bcell hX3)
  go_ret
  exact ⟨rfl, (by repeat' (first | exact Below.refl _ _ | (with_reducible assumption) | (with_reducible refine Below.alloc ?_ ?_ _) | (with_reducible refine Below.setCell ?_ ?_ _) | (with_reducible refine Below.drew ?_) | (with_reducible refine below_drewN ?_ _) | (refine Below.trans ?_ (Below.mono (by assumption) ?_)) | (with_reducible exact Nat.le_refl _) | (with_reducible assumption) | (exact Below.size (by assumption)) | omega | go_size | (simp at *; omega)))⟩
end Go.Proofs.Ytegapfkmgfcolaa
