/- Props of multiplex patterns: contracts. -/
import Derived.Test.YtkglkpohbckpcaaNk
namespace Go.Proofs.Ytkglkpohbckpcaa
open Go.RowKit
set_option linter.unusedVariables false

def sI : List Int → Int
  | [] => 0
  | x :: xs => x + sI xs
def sR : List (List Int) → Int
  | [] => 0
  | r :: rs => sI r + sR rs
theorem sI_bd : ∀ {l : List Int}, (∀ x ∈ l, 0 ≤ x ∧ x ≤ 15) → 0 ≤ sI l ∧ sI l ≤ 15 * l.length := by
  intro l
  induction l with
  | nil => intro _; simp [sI]
  | cons a l ih =>
    intro h
    have h1 := h a (by simp)
    have h2 := ih (fun x hx => h x (by simp [hx]))
    rw [sI, List.length_cons]; omega
theorem sR_bd : ∀ {l : List (List Int)}, (∀ r ∈ l, mstOk r = true) → 0 ≤ sR l ∧ sR l ≤ 60 * l.length := by
  intro l
  induction l with
  | nil => intro _; simp [sR]
  | cons a l ih =>
    intro h
    have h0 := h a (by simp)
    have h1 := sI_bd (l := a) (fun x hx => mstOk_bd h0 hx)
    have h3 := (mstOk_iff.1 h0).1.2
    have h2 := ih (fun x hx => h x (by simp [hx]))
    rw [sR, List.length_cons]; omega
def rMultiProps (rows : List (List Int)) : Int × Int := if mOk rows then (sR rows / (rows.length : Int), 0) else (0, 1)
set_option maxHeartbeats 2000000 in
theorem MultiProps_any (A : Option Addr) (n c : Nat) (rows : List (List Int)) (w : World) (hn : n ≤ 1099511627776) (hl : ∀ r ∈ rows, r.length ≤ 1099511627776) (hr : RdG w w.heap.size A n rows) :
    Calls Try.prog 62 #[.agg #[.slice A n c]] w fun e w' => e = .returned (.tuple #[.int .i64 (rMultiProps rows).1, .int .i64 (rMultiProps rows).2]) ∧ Below w.heap.size w w' := by
  have hlen := hr.len
  have hB0 : Below w.heap.size w (w.alloc (Obj.cells #[.slice A n c] 34)) := (by repeat' (first | exact Below.refl _ _ | (with_reducible assumption) | (with_reducible refine Below.alloc ?_ ?_ _) | (with_reducible refine Below.setCell ?_ ?_ _) | (with_reducible refine Below.drew ?_) | (with_reducible refine below_drewN ?_ _) | (refine Below.trans ?_ (Below.mono (by assumption) ?_)) | (with_reducible exact Nat.le_refl _) | (with_reducible assumption) | (exact Below.size (by assumption)) | omega | go_size | (simp at *; omega)))
  have hV := ValidMulti_any A n c rows (w.alloc (Obj.cells #[.slice A n c] 34)) hn hl ((hr.below hB0 (Nat.le_refl _)).more hB0.size)
  have hX := Bx.new w 34 #[.slice A n c]
  cases hp : mOk rows with
  | false =>
    rw [hp] at hV
    have hV := hid hV
    have HO : Hid (rMultiProps rows = (0, 1)) := by show _ = _; rw [rMultiProps, hp]; rfl
    have HB0 := hid hB0
    clear hr hp hlen hX hl hB0
    go_enter Try.func62, Try.ntmps62
    go_wp2_with fail
    refine hV.out.mono ?_
    rintro e w1 ⟨rfl, hb1⟩
    have hB1 := bchain HB0.out hb1
    clear hb1
    go_wp2
    go_ret2
    exact ⟨by rw [HO.out]; first | done | rfl, hB1⟩
  | true =>
    rw [hp] at hV
    have hV := hid hV
    have hs := msSh_iff.1 (mOk_iff.1 hp).1
    obtain ⟨⟨h1, h12⟩, hst⟩ := hs
    rw [hlen] at h1 h12
    have HST := hid hst
    have HBD := hid (fun (k : Nat) => sR_bd (l := rows.take k) (fun r hr => hst r (List.mem_of_mem_take hr)))
    have HO : Hid (rMultiProps rows = (sR rows / (n : Int), 0)) := by show _ = _; rw [rMultiProps, hp, hlen]; rfl
    have hst0 : Hid (0 + sR (rows.drop 0) = sR rows) := by show _ = _; simp
    obtain ⟨S, hS⟩ : ∃ S, sR rows = S := ⟨_, rfl⟩
    rw [hS] at HO hst0
    have HR := hid hr
    have HL := hid hlen
    have HB0 := hid hB0
    have HX := hid hX
    clear hr hp hlen hX hl hB0 hS hst
    go_enter Try.func62, Try.ntmps62
    go_wp2_with fail
    refine hV.out.mono ?_
    rintro e w1 ⟨rfl, hb1⟩
    have hB1 := bchain HB0.out hb1
    have hX1 := HX.out.below hb1 HX.out.lt
    have HXR := hid (fun (w2 : World) (hb : Below w1.heap.size w1 w2) => show w2.cell? ⟨w.heap.size, 0, none⟩ = some (.slice A n c) from (hX1.below hb hX1.lt).cell 0)
    have a0 := HXR.out w1 (Below.refl _ _)
    clear hV HX HB0 hb1 hX1
    go_wp2
    clear a0
    go_loopw [4, 15] (fun s i wr => Hid (∃ (k : Nat) (x : Int), k ≤ n ∧ i = .int .i64 k ∧ s = .int .i64 x ∧ 0 ≤ x ∧ x ≤ 60 * k ∧ Hid (x + sR (rows.drop k) = S) ∧ Below w1.heap.size w1 wr)) (fun _ i _ => n - (intOf i).toNat)
    case atStart => exact hid ⟨0, 0, Nat.zero_le _, rfl, rfl, by omega, by omega, hst0, Below.refl _ _⟩
    case round =>
      obtain ⟨k, x, hk, rfl, rfl, hx0, hx1, he, hb0⟩ := hrel.out
      clear hrel hst0
      have hB2 := bchain hB1 hb0
      by_cases hlt : k < n
      · obtain ⟨b, off, row, Ai, ci, rfl, hb, hx, hd, hc, hrow⟩ := (HR.out.below hB2 (Nat.le_refl _)).at_ hlt
        have hm := HST.out row (List.mem_of_getElem? hx)
        have hl4 := (mstOk_iff.1 hm).1.2
        have HE := hid (fun (x' : Int) (h : x' = x + sI row) => show x' + sR (rows.drop (k + 1)) = S from by
          have h2 := he.out
          rw [hd, show sR (row :: rows.drop (k + 1)) = sI row + sR (rows.drop (k + 1)) from rfl] at h2
          omega)
        have HBR := hid (fun (t : Int) (ht : t ∈ row) => mstOk_bd hm ht)
        have hst1 : Hid (x + sI (row.drop 0) = x + sI row) := by show _ = _; simp
        obtain ⟨X, hX⟩ : ∃ X, x + sI row = X := ⟨_, rfl⟩
        rw [hX] at hst1
        have HX2 := hid hX
        have hsb := sI_bd (l := row) (fun t ht => mstOk_bd hm ht)
        have hXb : 0 ≤ X ∧ X ≤ 60 * k + 60 := by omega
        have hbw : b < wr.heap.size := by have := hB2.size; omega
        have HROW := hid (hrow.more hB2.size)
        obtain ⟨wo, rfl⟩ : ∃ wo : World, wo = wr := ⟨_, rfl⟩
        clear he hx hd hm hrow hX hsb hb
        go_wp2
        go_loopw [4, 21] (fun s i w2 => Hid (∃ (j : Nat) (z : Int), j ≤ row.length ∧ i = .int .i64 j ∧ s = .int .i64 z ∧ 0 ≤ z ∧ z ≤ 60 * k + 15 * j ∧ Hid (z + sI (row.drop j) = X) ∧ Below wo.heap.size wo w2)) (fun _ i _ => row.length - (intOf i).toNat)
        case atStart => exact hid ⟨0, x, Nat.zero_le _, rfl, rfl, hx0, by omega, hst1, Below.refl _ _⟩
        case round =>
          obtain ⟨j, z, hj, rfl, rfl, hz0, hz1, he, hb3⟩ := hrel.out
          clear hrel hst1 hc
          by_cases hjl : j < row.length
          · obtain ⟨bb, ofb, t, rfl, hbb, hxj, hdj, hcj⟩ := (HROW.out.below hb3 (Nat.le_refl _)).at_ hjl
            obtain ⟨t0, t1⟩ := HBR.out t (List.mem_of_getElem? hxj)
            have HZ : Hid (z + t + sI (row.drop (j + 1)) = X) := by
              show _ = _
              have h2 := he.out
              rw [hdj, show sI (t :: row.drop (j + 1)) = t + sI (row.drop (j + 1)) from rfl] at h2
              omega
            have hbbw : bb < wr.heap.size := by have := hb3.size; omega
            clear he hxj hdj hbb
            go_wp2
            go_roundw
            case rel => exact hid ⟨j + 1, z + t, by omega, by go_num, by go_num, by omega, by omega, HZ, (by repeat' (first | exact Below.refl _ _ | (with_reducible assumption) | (with_reducible refine Below.alloc ?_ ?_ _) | (with_reducible refine Below.setCell ?_ ?_ _) | (with_reducible refine Below.drew ?_) | (with_reducible refine below_drewN ?_ _) | (refine Below.trans ?_ (Below.mono (by assumption) ?_)) | (with_reducible exact Nat.le_refl _) | (with_reducible assumption) | (exact Below.size (by assumption)) | omega | go_size | (simp at *; omega)))⟩
            case measure => simp [intOf]; omega
          · have hzX : z = X := by
              have h2 := he.out
              rw [List.drop_eq_nil_of_le (by omega)] at h2
              simp only [sI] at h2; omega
            have HZ := hid (HE.out z (by rw [hzX]; exact HX2.out.symm))
            have hzb : z ≤ 60 * k + 60 := by omega
            have hb4 := bchain hb0 hb3
            clear he hzX
            go_wp2
            go_roundw
            case rel => exact hid ⟨k + 1, z, by omega, by go_num, rfl, hz0, by omega, HZ, hb4⟩
            case measure => simp [intOf]; omega
      · have hxS : x = S := by
          have h2 := he.out
          rw [List.drop_eq_nil_of_le (by rw [HL.out]; omega)] at h2
          simp only [sR] at h2; omega
        have a0 := HXR.out wr hb0
        have HZ : Hid (rMultiProps rows = (x / (n : Int), 0)) := by show _ = _; rw [HO.out, hxS]
        have hl0 : w.heap.size < wr.heap.size := World.block_lt_of_cell? wr (a := ⟨w.heap.size, 0, none⟩) a0
        clear he hxS HO
        go_wp2
        go_ret2
        exact ⟨by rw [HZ.out]; first | done | rfl, hB2⟩
set_option maxHeartbeats 2000000 in
theorem l04Sum_at (g o : Nat) (A : Option Addr) (n c : Nat) (rows : List (List Int)) (w : World) (hp : msSh rows = true) (hx : Bo w g o #[.slice A n c]) (hr : RdG w w.heap.size A n rows) :
    Calls Try.prog 158 #[.pointer (some ⟨g, o, none⟩)] w fun e w' => e = .returned (.int .i64 (sR rows)) ∧ w = w' := by
  have hlen := hr.len
  have hgl := hx.lt
  have hs := msSh_iff.1 hp
  obtain ⟨⟨h1, h12⟩, hst⟩ := hs
  rw [hlen] at h1 h12
  have HST := hid hst
  have c0 : w.cell? ⟨g, o, none⟩ = some (.slice A n c) := hx.cell 0
  have hst0 : Hid (0 + sR (rows.drop 0) = sR rows) := by show _ = _; simp
  obtain ⟨S, hS⟩ : ∃ S, sR rows = S := ⟨_, rfl⟩
  rw [hS] at hst0 ⊢
  have HR := hid hr
  have HL := hid hlen
  clear hr hp hlen hx hS hst
  go_enter Try.func158, Try.ntmps158
  go_wp2
  go_loopw [3, 4] (fun s i wr => Hid (∃ (k : Nat) (x : Int), k ≤ n ∧ i = .int .i64 k ∧ s = .int .i64 x ∧ 0 ≤ x ∧ x ≤ 60 * k ∧ Hid (x + sR (rows.drop k) = S) ∧ wr = w)) (fun _ i _ => n - (intOf i).toNat)
  case atStart => exact hid ⟨0, 0, Nat.zero_le _, rfl, rfl, by omega, by omega, hst0, rfl⟩
  case round =>
    obtain ⟨k, x, hk, rfl, rfl, hx0, hx1, he, rfl⟩ := hrel.out
    clear hrel hst0
    by_cases hlt : k < n
    · obtain ⟨b, off, row, Ai, ci, rfl, hb, hx, hd, hc, hrow⟩ := HR.out.at_ hlt
      have hm := HST.out row (List.mem_of_getElem? hx)
      have hl4 := (mstOk_iff.1 hm).1.2
      have HE := hid (fun (x' : Int) (h : x' = x + sI row) => show x' + sR (rows.drop (k + 1)) = S from by
        have h2 := he.out
        rw [hd, show sR (row :: rows.drop (k + 1)) = sI row + sR (rows.drop (k + 1)) from rfl] at h2
        omega)
      have HBR := hid (fun (t : Int) (ht : t ∈ row) => mstOk_bd hm ht)
      have hst1 : Hid (x + sI (row.drop 0) = x + sI row) := by show _ = _; simp
      obtain ⟨X, hX⟩ : ∃ X, x + sI row = X := ⟨_, rfl⟩
      rw [hX] at hst1
      have HX2 := hid hX
      have hsb := sI_bd (l := row) (fun t ht => mstOk_bd hm ht)
      have hXb : 0 ≤ X ∧ X ≤ 60 * k + 60 := by omega
      have HROW := hid hrow
      clear he hx hd hm hrow hX hsb
      go_wp2
      go_loopw [3, 5] (fun s i w2 => Hid (∃ (j : Nat) (z : Int), j ≤ row.length ∧ i = .int .i64 j ∧ s = .int .i64 z ∧ 0 ≤ z ∧ z ≤ 60 * k + 15 * j ∧ Hid (z + sI (row.drop j) = X) ∧ w2 = wr)) (fun _ i _ => row.length - (intOf i).toNat)
      case atStart => exact hid ⟨0, x, Nat.zero_le _, rfl, rfl, hx0, by omega, hst1, rfl⟩
      case round =>
        obtain ⟨j, z, hj, rfl, rfl, hz0, hz1, he, rfl⟩ := hrel.out
        clear hrel hst1
        by_cases hjl : j < row.length
        · obtain ⟨bb, ofb, t, rfl, hbb, hxj, hdj, hcj⟩ := HROW.out.at_ hjl
          obtain ⟨t0, t1⟩ := HBR.out t (List.mem_of_getElem? hxj)
          have HZ : Hid (z + t + sI (row.drop (j + 1)) = X) := by
            show _ = _
            have h2 := he.out
            rw [hdj, show sI (t :: row.drop (j + 1)) = t + sI (row.drop (j + 1)) from rfl] at h2
            omega
          clear he hxj hdj
          go_wp2
          go_roundw
          case rel => exact hid ⟨j + 1, z + t, by omega, by go_num, by go_num, by omega, by omega, HZ, by first | rfl | trivial⟩
          case measure => simp [intOf]; omega
        · have hzX : z = X := by
            have h2 := he.out
            rw [List.drop_eq_nil_of_le (by omega)] at h2
            simp only [sI] at h2; omega
          have HZ := hid (HE.out z (by rw [hzX]; exact HX2.out.symm))
          have hzb : z ≤ 60 * k + 60 := by omega
          clear he hzX
          go_wp2
          go_roundw
          case rel => exact hid ⟨k + 1, z, by omega, by go_num, rfl, hz0, by omega, HZ, by first | rfl | trivial⟩
          case measure => simp [intOf]; omega
    · have hxS : x = S := by
        have h2 := he.out
        rw [List.drop_eq_nil_of_le (by rw [HL.out]; omega)] at h2
        simp only [sR] at h2; omega
      have HZ := hid hxS
      clear he hxS
      go_wp2
      go_ret
      exact ⟨ret_int HZ.out, by first | rfl | trivial⟩
set_option maxHeartbeats 2000000 in
theorem specMultiProps_any (A : Option Addr) (n c : Nat) (rows : List (List Int)) (w : World) (hn : n ≤ 1099511627776) (hl : ∀ r ∈ rows, r.length ≤ 1099511627776) (hr : RdG w w.heap.size A n rows) :
    Calls Try.prog 63 #[.agg #[.slice A n c]] w fun e w' => e = .returned (.tuple #[.int .i64 (rMultiProps rows).1, .int .i64 (rMultiProps rows).2]) ∧ Below w.heap.size w w' := by
  have hlen := hr.len
  have hB0 : Below w.heap.size w (w.alloc (Obj.cells #[.slice A n c] 34)) := (by repeat' (first | exact Below.refl _ _ | (with_reducible assumption) | (with_reducible refine Below.alloc ?_ ?_ _) | (with_reducible refine Below.setCell ?_ ?_ _) | (with_reducible refine Below.drew ?_) | (with_reducible refine below_drewN ?_ _) | (refine Below.trans ?_ (Below.mono (by assumption) ?_)) | (with_reducible exact Nat.le_refl _) | (with_reducible assumption) | (exact Below.size (by assumption)) | omega | go_size | (simp at *; omega)))
  have hX := Bx.new w 34 #[.slice A n c]
  have hV := l04Ok_any w.heap.size A n c rows _ hn hl hX ((hr.below hB0 (Nat.le_refl _)).more hB0.size)
  cases hp : mOk rows with
  | false =>
    rw [hp] at hV
    have hV := hid hV
    have HO : Hid (rMultiProps rows = (0, 1)) := by show _ = _; rw [rMultiProps, hp]; rfl
    have HB0 := hid hB0
    clear hr hp hlen hX hl hB0
    go_enter Try.func63, Try.ntmps63
    go_wp2_with fail
    refine hV.out.mono ?_
    rintro e w1 ⟨rfl, hb1⟩
    have hB1 := bchain HB0.out hb1
    clear hb1
    go_wp2
    go_ret2
    exact ⟨by rw [HO.out]; first | done | rfl, hB1⟩
  | true =>
    rw [hp] at hV
    have hV := hid hV
    have hs := msSh_iff.1 (mOk_iff.1 hp).1
    obtain ⟨⟨h1, h12⟩, hst⟩ := hs
    have hbd := sR_bd hst
    rw [hlen] at h1 h12
    have HO : Hid (rMultiProps rows = (sR rows / (n : Int), 0)) := by show _ = _; rw [rMultiProps, hp, hlen]; rfl
    have HS := hid (fun (w1 : World) (b : Below w.heap.size w w1) (hx : Bx w1 w.heap.size 34 #[.slice A n c]) => l04Sum_at w.heap.size 0 A n c rows w1 (mOk_iff.1 hp).1 hx.bo ((hr.below b (Nat.le_refl _)).more b.size))
    have HB0 := hid hB0
    have HX := hid hX
    generalize sR rows = S at *
    clear hr hp hX hl hB0 hst
    go_enter Try.func63, Try.ntmps63
    go_wp2_with fail
    refine hV.out.mono ?_
    rintro e w1 ⟨rfl, hb1⟩
    have hB1 := bchain HB0.out hb1
    have hX1 := HX.out.below hb1 HX.out.lt
    have a0 : w1.cell? ⟨w.heap.size, 0, none⟩ = some (.slice A n c) := hX1.cell 0
    have hl0 := hX1.lt
    have hC := hid (fun (k : Nat) => HS.out (w1.drewN k) (hB1.trans (below_drewN (Below.refl _ _) k)) (show Bx (w1.drewN k) _ _ _ from hX1))
    clear hV HX HB0 hb1 hX1 HS
    go_wp2
    go_quiet (first | (go_at_call 158; with_reducible exact quiet_same (hC.out _)))
    go_wp2
    go_ret2
    exact ⟨by rw [HO.out]; first | done | rfl, (by repeat' (first | exact Below.refl _ _ | (with_reducible assumption) | (with_reducible refine Below.alloc ?_ ?_ _) | (with_reducible refine Below.setCell ?_ ?_ _) | (with_reducible refine Below.drew ?_) | (with_reducible refine below_drewN ?_ _) | (refine Below.trans ?_ (Below.mono (by assumption) ?_)) | (with_reducible exact Nat.le_refl _) | (with_reducible assumption) | (exact Below.size (by assumption)) | omega | go_size | (simp at *; omega)))⟩
end Go.Proofs.Ytkglkpohbckpcaa
