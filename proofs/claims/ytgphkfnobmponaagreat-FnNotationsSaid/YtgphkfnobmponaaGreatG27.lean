/- Several texts in one: Mw, Nv. -/
import Derived.Test.YtgphkfnobmponaaGreatG15
import Derived.Test.YtgphkfnobmponaaGreatNk
import Derived.Test.YtgphkfnobmponaaGreatG01
import Derived.Test.YtgphkfnobmponaaGreatG24
import Derived.Test.YtgphkfnobmponaaGreatG21
import Derived.Test.YtgphkfnobmponaaGreatG20
/- Contracts of the texts of multiplex patterns. Printed by wip/gen_multitext.py. -/
namespace Go.Proofs.YtgphkfnobmponaaGreat
open Go.RowKit
set_option linter.unusedVariables false

/-- Bytes as numbers. -/
def nb (l : List UInt8) : List Int := l.map fun c => (c.toNat : Int)
theorem nb_append (l m : List UInt8) : nb (l ++ m) = nb l ++ nb m := by simp [nb]
theorem nb_st (l : List UInt8) : strOfNums (nb l) = st l := by
  unfold strOfNums nb st
  rw [List.map_map]
  have h : l.map ((fun n : Int => UInt8.ofNat n.toNat) ∘ fun c : UInt8 => (c.toNat : Int)) = l.map id := List.map_congr_left fun c _ => by simp
  rw [h, List.map_id]
theorem nb_hex {r : List Int} (h : ∀ t ∈ r, 0 ≤ t ∧ t ≤ 15) : nb (r.map hexU) = r.map hexB := by
  unfold nb
  rw [List.map_map]
  exact List.map_congr_left fun t ht => hexU_nat (h t ht).1 (h t ht).2
theorem mapB_step {r : List Int} {j : Nat} {x : Int} (h : r[j]? = some x) : (r.take (j + 1)).map hexB = (r.take j).map hexB ++ [hexB x] := by
  rw [List.take_add_one, h]; simp
theorem mapU_step {r : List Int} {j : Nat} {x : Int} (h : r[j]? = some x) : (r.take (j + 1)).map hexU = (r.take j).map hexU ++ [hexU x] := by
  rw [List.take_add_one, h]; simp
set_option maxRecDepth 100000 in
set_option maxHeartbeats 4000000 in
theorem MultiText_ok (A : Option Addr) (n c : Nat) (rows : List (List Int)) (w : World) (hp : mOk rows = true) (hr : RdG w w.heap.size A n rows) :
    Calls Tryz.prog 27 #[.agg #[.slice A n c]] w fun e w' => e = .returned (.string (st (mT rows))) ∧ Below w.heap.size w w' := by
  have hlen := hr.len
  obtain ⟨⟨h1, h12⟩, hst⟩ := msSh_iff.1 (mOk_iff.1 hp).1
  rw [hlen] at h1 h12
  have hl : ∀ r ∈ rows, r.length ≤ 1099511627776 := fun r hr => by have := (mstOk_iff.1 (hst r hr)).1.2; omega
  have hB0 : Below w.heap.size w (w.alloc (Obj.cells #[.slice A n c] 27)) := (by repeat' (first | exact Below.refl _ _ | (with_reducible first | assumption | exact Nat.le_refl _ | refine Below.alloc ?_ ?_ _ | refine Below.setCell ?_ ?_ _ | refine Below.drew ?_ | refine below_drewN ?_ _) | refine Below.trans ?_ (Below.mono (by assumption) ?_) | exact Below.size (by assumption) | omega | go_size | (simp at *; omega)))
  have hV := ValidMulti_any A n c rows (w.alloc (Obj.cells #[.slice A n c] 27)) (by omega) hl ((hr.below hB0 (Nat.le_refl _)).more hB0.size)
  have hX := Bx.new w 27 #[.slice A n c]
  rw [hp] at hV
  have hV := hid hV
  have HST := hid hst
  have HS : Hid (strOfNums (nb (mT rows)) = st (mT rows)) := nb_st _
  have hst0 : Hid (([] : List Int) = nb (mT (rows.take 0))) := rfl
  have HR := hid hr
  have HL := hid hlen
  have HB0 := hid hB0
  have HX := hid hX
  clear hr hp hlen hX hl hB0 hst
  go_enter Tryz.func27, Tryz.ntmps27
  go_wp2_with fail
  refine hV.out.mono ?_
  rintro e w1 ⟨rfl, hb1⟩
  have hB1 := bchain HB0.out hb1
  have hX1 := HX.out.below hb1 HX.out.lt
  have a0 : w1.cell? ⟨w.heap.size, 0, none⟩ = some (.slice A n c) := hX1.cell 0
  have hl1 := hX1.lt
  clear hV HX HB0 hb1 hX1
  go_wp2
  clear a0
  go_loopw [3, 15] (fun v i wr => Hid (∃ (k : Nat) (out : List Int), k ≤ n ∧ i = .int .i64 k ∧ Hid (out = nb (mT (rows.take k))) ∧ out.length ≤ 6 * k ∧ wr.ownsRow w.heap.size 5 1 v out.length (byts out) ∧ Below w.heap.size w wr)) (fun _ i _ => n - (intOf i).toNat)
  case atStart => exact hid ⟨0, [], Nat.zero_le _, rfl, hst0, by simp, World.ownsRow_lit _ _ 0 (by first | exact hB1.size | omega) (by simp [maxLen]) rfl, (by repeat' (first | exact Below.refl _ _ | (with_reducible first | assumption | exact Nat.le_refl _ | refine Below.alloc ?_ ?_ _ | refine Below.setCell ?_ ?_ _ | refine Below.drew ?_ | refine below_drewN ?_ _) | refine Below.trans ?_ (Below.mono (by assumption) ?_) | exact Below.size (by assumption) | omega | go_size | (simp at *; omega)))⟩
  case round =>
    obtain ⟨k, out, hk, rfl, hT, hol, ho, hb0⟩ := hrel.out
    have hB := hb0.size
    clear hrel hst0 hB1 hl1
    by_cases hlt : k < n
    · obtain ⟨b, off, row, Ai, ci, rfl, hb, hx, hd, hc0, hrow⟩ := HR.out.at_ hlt
      have hc : wr.cell? ⟨b, off + k, none⟩ = some (.slice Ai row.length ci) := (hb0.cell (p := ⟨b, off + k, none⟩) hb).trans hc0
      have hm := HST.out row (List.mem_of_getElem? hx)
      have hl4 := (mstOk_iff.1 hm).1
      have HBR := hid (fun (t : Int) (ht : t ∈ row) => mstOk_bd hm ht)
      have hT0 : nb (mT (rows.take (k + 1))) = nb (mT (rows.take k)) ++ nb (rowT row) := by rw [mT_step hx, nb_append]
      have hbw : b < wr.heap.size := by omega
      have HROW := hid hrow
      by_cases hl1 : 1 < row.length
      · have h1I : (1 : Int) < (row.length : Int) := by omega
        have HT : nb (mT (rows.take (k + 1))) = ((out ++ [91]) ++ row.map hexB) ++ [93] := by
          rw [hT0, ← hT.out, rowT, if_pos hl1]
          show out ++ nb ([91] ++ (row.map hexU ++ [93])) = _
          rw [nb_append, nb_append, nb_hex HBR.out]
          simp [nb]
        have HTE := hid HT
        clear hT hx hd hm hrow hT0 HT hc0
        go_wp2_with (at_builtin; refine push_u8 ho 91 _ Tryz.underlying22 inf_b8 rfl rfl _ _ rfl rfl rfl (by omega) hB ?_; intro v2 w2 ho2 hb2 hg2)
        have hs0 : (out ++ [91]).length ≤ 6 * k + 1 := by rw [List.length_append]; simp; omega
        have HBX := hid (hb0.trans hb2)
        generalize (out ++ [91]) = o0 at *
        go_loopw [3, 27] (fun v i w3 => Hid (∃ (j : Nat) (o3 : List Int), j ≤ row.length ∧ i = .int .i64 j ∧ Hid (o3 = o0 ++ (row.take j).map hexB) ∧ o3.length ≤ 6 * k + 1 + j ∧ w3.ownsRow w.heap.size 5 1 v o3.length (byts o3) ∧ Below w.heap.size w w3)) (fun _ i _ => row.length - (intOf i).toNat)
        case atStart => exact hid ⟨0, o0, Nat.zero_le _, rfl, by show _ = _; simp, hs0, ho2, HBX.out⟩
        case round =>
          obtain ⟨j, o3, hj, rfl, hT, hol3, ho3, hb3⟩ := hrel.out
          have hB3 := hb3.size
          clear hrel HBX hs0 hc hbw ho2 hb2 hg2
          by_cases hjl : j < row.length
          · obtain ⟨bb, ofb, x, rfl, hbb, hxj, hdj, hcj⟩ := (HROW.out.below hb3 (Nat.le_refl _)).at_ hjl
            have hbbw : bb < wr.heap.size := by omega
            obtain ⟨x0, x1⟩ := HBR.out x (List.mem_of_getElem? hxj)
            have hst := mapB_step hxj
            obtain ⟨t, rfl⟩ := Int.eq_ofNat_of_zero_le x0
            have ht : t < 16 := by omega
            have hS := hexS_at ⟨t, ht⟩
            obtain ⟨y, hy⟩ : ∃ y, hexB (t : Int) = y := ⟨_, rfl⟩
            have hS : ((({ data := #[48, 49, 50, 51, 52, 53, 54, 55, 56, 57, 97, 98, 99, 100, 101, 102] } : ByteArray)[t]'(by rw [show ({ data := #[48, 49, 50, 51, 52, 53, 54, 55, 56, 57, 97, 98, 99, 100, 101, 102] } : ByteArray).size = 16 from rfl]; exact ht)).toNat : Int) = y := by rw [← hy]; exact hS
            have hyb := hexB_bd x0 x1
            rw [hy] at hyb hst
            obtain ⟨y0, y1⟩ := hyb
            have HZ : Hid (o3 ++ [y] = o0 ++ (row.take (j + 1)).map hexB) := by show _ = _; rw [hst, ← List.append_assoc, ← hT.out]
            have htn : (t : Int).toNat = t := by omega
            clear hxj hdj hbb hy hst hT
            go_wp2_with (at_builtin; refine push_u8 ho3 y _ Tryz.underlying22 inf_b8 rfl rfl _ _ rfl rfl rfl (by omega) hB3 ?_; intro v4 w4 ho4 hb4 hg4)
            have hb5 := hb3.trans hb4
            go_roundw
            case rel => exact hid ⟨j + 1, o3 ++ [y], by omega, by go_num, HZ, by rw [List.length_append]; simp; omega, ho4, hb5⟩
            case measure => simp [intOf]; omega
          · have hjn : j = row.length := by omega
            have hT2 := hT.out
            rw [hjn, List.take_length] at hT2
            have HZ : Hid (o3 ++ [93] = nb (mT (rows.take (k + 1)))) := by show _ = _; rw [hT2, HTE.out]
            clear hT hT2 hjn HTE
            go_wp2_with (at_builtin; refine push_u8 ho3 93 _ Tryz.underlying22 inf_b8 rfl rfl _ _ rfl rfl rfl (by omega) hB3 ?_; intro v4 w4 ho4 hb4 hg4)
            have hb5 := hb3.trans hb4
            go_roundw
            case rel => exact hid ⟨k + 1, o3 ++ [93], by omega, by go_num, HZ, by rw [List.length_append]; simp; omega, ho4, hb5⟩
            case measure => simp [intOf]; omega
      · have h1I : ¬ (1 : Int) < (row.length : Int) := by omega
        have HT : nb (mT (rows.take (k + 1))) = out ++ row.map hexB := by rw [hT0, ← hT.out, rowT, if_neg hl1, nb_hex HBR.out]
        have HTE := hid HT
        clear hT hx hd hm hrow hT0 HT hc0
        go_wp2
        have hs0 : out.length ≤ 6 * k + 1 := by omega
        have HBX := hid hb0
        obtain ⟨o0, ho0⟩ : ∃ o0, o0 = out := ⟨_, rfl⟩
        rw [← ho0] at HTE ho hs0
        go_loopw [3, 27] (fun v i w3 => Hid (∃ (j : Nat) (o3 : List Int), j ≤ row.length ∧ i = .int .i64 j ∧ Hid (o3 = o0 ++ (row.take j).map hexB) ∧ o3.length ≤ 6 * k + 1 + j ∧ w3.ownsRow w.heap.size 5 1 v o3.length (byts o3) ∧ Below w.heap.size w w3)) (fun _ i _ => row.length - (intOf i).toNat)
        case atStart => exact hid ⟨0, o0, Nat.zero_le _, rfl, by show _ = _; simp, hs0, ho, HBX.out⟩
        case round =>
          obtain ⟨j, o3, hj, rfl, hT, hol3, ho3, hb3⟩ := hrel.out
          have hB3 := hb3.size
          clear hrel HBX hs0 hc hbw ho
          by_cases hjl : j < row.length
          · obtain ⟨bb, ofb, x, rfl, hbb, hxj, hdj, hcj⟩ := (HROW.out.below hb3 (Nat.le_refl _)).at_ hjl
            have hbbw : bb < wr.heap.size := by omega
            obtain ⟨x0, x1⟩ := HBR.out x (List.mem_of_getElem? hxj)
            have hst := mapB_step hxj
            obtain ⟨t, rfl⟩ := Int.eq_ofNat_of_zero_le x0
            have ht : t < 16 := by omega
            have hS := hexS_at ⟨t, ht⟩
            obtain ⟨y, hy⟩ : ∃ y, hexB (t : Int) = y := ⟨_, rfl⟩
            have hS : ((({ data := #[48, 49, 50, 51, 52, 53, 54, 55, 56, 57, 97, 98, 99, 100, 101, 102] } : ByteArray)[t]'(by rw [show ({ data := #[48, 49, 50, 51, 52, 53, 54, 55, 56, 57, 97, 98, 99, 100, 101, 102] } : ByteArray).size = 16 from rfl]; exact ht)).toNat : Int) = y := by rw [← hy]; exact hS
            have hyb := hexB_bd x0 x1
            rw [hy] at hyb hst
            obtain ⟨y0, y1⟩ := hyb
            have HZ : Hid (o3 ++ [y] = o0 ++ (row.take (j + 1)).map hexB) := by show _ = _; rw [hst, ← List.append_assoc, ← hT.out]
            have htn : (t : Int).toNat = t := by omega
            clear hxj hdj hbb hy hst hT
            go_wp2_with (at_builtin; refine push_u8 ho3 y _ Tryz.underlying22 inf_b8 rfl rfl _ _ rfl rfl rfl (by omega) hB3 ?_; intro v4 w4 ho4 hb4 hg4)
            have hb5 := hb3.trans hb4
            go_roundw
            case rel => exact hid ⟨j + 1, o3 ++ [y], by omega, by go_num, HZ, by rw [List.length_append]; simp; omega, ho4, hb5⟩
            case measure => simp [intOf]; omega
          · have hjn : j = row.length := by omega
            have hT2 := hT.out
            rw [hjn, List.take_length] at hT2
            have HZ : Hid (o3 = nb (mT (rows.take (k + 1)))) := by show _ = _; rw [hT2, HTE.out]
            clear hT hT2 hjn HTE
            go_wp2
            go_roundw
            case rel => exact hid ⟨k + 1, o3, by omega, by go_num, HZ, by omega, ho3, hb3⟩
            case measure => simp [intOf]; omega
    · have hkn : k = n := by omega
      have hT := hT.out
      rw [List.take_of_length_le (by rw [HL.out]; omega)] at hT
      obtain ⟨A1, c1, rfl⟩ := own_form ho
      have hcv := string_own ho 22 Tryz.underlying22 Tryz.underlying5 9 Tryz.underlying9
      have hs2 : Hid (strOfNums out = st (mT rows)) := by show _ = _; rw [hT]; exact HS.out
      clear hkn ho hT
      go_wp2
      go_ret
      exact ⟨ret_str hs2.out, (by repeat' (first | exact Below.refl _ _ | (with_reducible first | assumption | exact Nat.le_refl _ | refine Below.alloc ?_ ?_ _ | refine Below.setCell ?_ ?_ _ | refine Below.drew ?_ | refine below_drewN ?_ _) | refine Below.trans ?_ (Below.mono (by assumption) ?_) | exact Below.size (by assumption) | omega | go_size | (simp at *; omega)))⟩
set_option maxRecDepth 100000 in
set_option maxHeartbeats 4000000 in
theorem l04Text_at (g o : Nat) (A : Option Addr) (n c : Nat) (rows : List (List Int)) (w : World) (hp : msSh rows = true) (hx : Bo w g o #[.slice A n c]) (hr : RdG w w.heap.size A n rows) :
    Calls Tryz.prog 89 #[.pointer (some ⟨g, o, none⟩)] w fun e w' => e = .returned (.string (st (mT rows))) ∧ w = w' := by
  have hlen := hr.len
  have hgl := hx.lt
  obtain ⟨⟨h1, h12⟩, hst⟩ := msSh_iff.1 hp
  rw [hlen] at h1 h12
  have HST := hid hst
  have HMT := hid (fun (k : Nat) => mT_len (rows.take k) (fun r hr => (mstOk_iff.1 (hst r (List.mem_of_mem_take hr))).1.2))
  have c0 : w.cell? ⟨g, o, none⟩ = some (.slice A n c) := hx.cell 0
  have HC0 := hid c0
  have hst0 : Hid ((⟨#[]⟩ : ByteArray) = st (mT (rows.take 0))) := rfl
  have HR := hid hr
  have HL := hid hlen
  clear hr hp hlen hx hst
  go_enter Tryz.func89, Tryz.ntmps89
  go_wp2
  clear c0
  go_loopw [3, 4] (fun s i wr => Hid (∃ k : Nat, k ≤ n ∧ i = .int .i64 k ∧ s = .string (st (mT (rows.take k))) ∧ wr = w)) (fun _ i _ => n - (intOf i).toNat)
  case atStart => exact hid ⟨0, Nat.zero_le _, rfl, by rw [hst0.out], rfl⟩
  case round =>
    obtain ⟨k, hk, rfl, rfl, rfl⟩ := hrel.out
    clear hrel hst0
    have a0 := HC0.out
    have hol : (mT (rows.take k)).length ≤ 6 * k := by
      have := HMT.out k
      rw [List.length_take] at this; omega
    by_cases hlt : k < n
    · obtain ⟨b, off, row, Ai, ci, rfl, hb, hx, hd, hc, hrow⟩ := HR.out.at_ hlt
      have hcc := hc
      have hm := HST.out row (List.mem_of_getElem? hx)
      have hl4 := (mstOk_iff.1 hm).1
      have HBR := hid (fun (t : Int) (ht : t ∈ row) => mstOk_bd hm ht)
      have hT0 : mT (rows.take (k + 1)) = mT (rows.take k) ++ rowT row := mT_step hx
      have HROW := hid hrow
      by_cases hl1 : 1 < row.length
      · have h1I : (1 : Int) < (row.length : Int) := by omega
        have HT : mT (rows.take (k + 1)) = ((mT (rows.take k) ++ [91]) ++ row.map hexU) ++ [93] := by rw [hT0, rowT, if_pos hl1]; simp
        obtain ⟨o0, ho0⟩ : ∃ o0, mT (rows.take k) ++ [91] = o0 := ⟨_, rfl⟩
        have hs0 : o0.length ≤ 6 * k + 1 := by rw [← ho0]; rw [List.length_append]; simp; omega
        rw [ho0] at HT
        have HTE := hid HT
        have HST0 : Hid (st (mT (rows.take k)) ++ ⟨#[91]⟩ = st o0) := by show _ = _; rw [← ho0]; exact st_append _ _
        have hsz : (st (mT (rows.take k))).size ≤ 6 * k := by rw [st_size]; exact hol
        clear hx hd hm hrow hT0 HT ho0 hc
        obtain ⟨so, hso⟩ : ∃ so, st (mT (rows.take k)) = so := ⟨_, rfl⟩
        rw [hso] at HST0 hsz ⊢
        clear hso
        go_wp2
        clear a0
        go_loopw [3, 6] (fun s i w3 => Hid (∃ (j : Nat) (o3 : List UInt8), j ≤ row.length ∧ i = .int .i64 j ∧ s = .string (st o3) ∧ Hid (o3 = o0 ++ (row.take j).map hexU) ∧ o3.length ≤ 6 * k + 1 + j ∧ w3 = wr)) (fun _ i _ => row.length - (intOf i).toNat)
        case atStart => exact hid ⟨0, o0, Nat.zero_le _, rfl, by rw [← HST0.out], by show _ = _; simp, hs0, rfl⟩
        case round =>
          obtain ⟨j, o3, hj, rfl, rfl, hT, hol3, rfl⟩ := hrel.out
          clear hrel hs0 HST0
          have hsz3 : (st o3).size ≤ 6 * k + 1 + j := by rw [st_size]; exact hol3
          by_cases hjl : j < row.length
          · obtain ⟨bb, ofb, x, rfl, hbb, hxj, hdj, hcj⟩ := HROW.out.at_ hjl
            obtain ⟨x0, x1⟩ := HBR.out x (List.mem_of_getElem? hxj)
            have hst := mapU_step hxj
            have HZ : Hid (st (o3 ++ [hexU x]) = st o3 ++ st [hexU x]) := (st_append _ _).symm
            have HZ2 : Hid (o3 ++ [hexU x] = o0 ++ (row.take (j + 1)).map hexU) := by show _ = _; rw [hst, ← List.append_assoc, ← hT.out]
            have hone : (st [hexU x]).size = 1 := by rw [st_size]; rfl
            have hD := hid (fun w1 => l04Digit_any x w1 x0 x1)
            generalize hexU x = u at *
            obtain ⟨s3, hs3⟩ : ∃ s3, st o3 = s3 := ⟨_, rfl⟩
            rw [hs3] at HZ hsz3 ⊢
            clear hxj hdj hst hT hs3
            go_wp2_with (go_at_call 121; refine (hD.out _).mono ?_; rintro e w' ⟨rfl, rfl⟩)
            go_roundw
            case rel => exact hid ⟨j + 1, o3 ++ [u], by omega, by go_num, by rw [HZ.out], HZ2, by rw [List.length_append]; simp; omega, by first | rfl | trivial⟩
            case measure => simp [intOf]; omega
          · have hjn : j = row.length := by omega
            have hT2 := hT.out
            rw [hjn, List.take_length] at hT2
            have HZ : Hid (st o3 ++ ⟨#[93]⟩ = st (mT (rows.take (k + 1)))) := by show _ = _; rw [HTE.out, ← hT2]; exact st_append _ _
            obtain ⟨s3, hs3⟩ : ∃ s3, st o3 = s3 := ⟨_, rfl⟩
            rw [hs3] at HZ hsz3 ⊢
            clear hT hT2 hjn HTE hs3
            go_wp2
            go_roundw
            case rel => exact hid ⟨k + 1, by omega, by go_num, by rw [← HZ.out], by first | rfl | trivial⟩
            case measure => simp [intOf]; omega
      · have h1I : ¬ (1 : Int) < (row.length : Int) := by omega
        have HT : mT (rows.take (k + 1)) = mT (rows.take k) ++ row.map hexU := by rw [hT0, rowT, if_neg hl1]
        obtain ⟨o0, ho0⟩ : ∃ o0, mT (rows.take k) = o0 := ⟨_, rfl⟩
        have hs0 : o0.length ≤ 6 * k + 1 := by rw [← ho0]; omega
        rw [ho0] at HT
        have HTE := hid HT
        have HST0 : Hid (st (mT (rows.take k)) = st o0) := by show _ = _; rw [← ho0]
        have hsz : (st (mT (rows.take k))).size ≤ 6 * k := by rw [st_size]; exact hol
        clear hx hd hm hrow hT0 HT ho0 hc
        obtain ⟨so, hso⟩ : ∃ so, st (mT (rows.take k)) = so := ⟨_, rfl⟩
        rw [hso] at HST0 hsz ⊢
        clear hso
        go_wp2
        clear a0
        go_loopw [3, 6] (fun s i w3 => Hid (∃ (j : Nat) (o3 : List UInt8), j ≤ row.length ∧ i = .int .i64 j ∧ s = .string (st o3) ∧ Hid (o3 = o0 ++ (row.take j).map hexU) ∧ o3.length ≤ 6 * k + 1 + j ∧ w3 = wr)) (fun _ i _ => row.length - (intOf i).toNat)
        case atStart => exact hid ⟨0, o0, Nat.zero_le _, rfl, by rw [← HST0.out], by show _ = _; simp, hs0, rfl⟩
        case round =>
          obtain ⟨j, o3, hj, rfl, rfl, hT, hol3, rfl⟩ := hrel.out
          clear hrel hs0 HST0
          have hsz3 : (st o3).size ≤ 6 * k + 1 + j := by rw [st_size]; exact hol3
          by_cases hjl : j < row.length
          · obtain ⟨bb, ofb, x, rfl, hbb, hxj, hdj, hcj⟩ := HROW.out.at_ hjl
            obtain ⟨x0, x1⟩ := HBR.out x (List.mem_of_getElem? hxj)
            have hst := mapU_step hxj
            have HZ : Hid (st (o3 ++ [hexU x]) = st o3 ++ st [hexU x]) := (st_append _ _).symm
            have HZ2 : Hid (o3 ++ [hexU x] = o0 ++ (row.take (j + 1)).map hexU) := by show _ = _; rw [hst, ← List.append_assoc, ← hT.out]
            have hone : (st [hexU x]).size = 1 := by rw [st_size]; rfl
            have hD := hid (fun w1 => l04Digit_any x w1 x0 x1)
            generalize hexU x = u at *
            obtain ⟨s3, hs3⟩ : ∃ s3, st o3 = s3 := ⟨_, rfl⟩
            rw [hs3] at HZ hsz3 ⊢
            clear hxj hdj hst hT hs3
            go_wp2_with (go_at_call 121; refine (hD.out _).mono ?_; rintro e w' ⟨rfl, rfl⟩)
            go_roundw
            case rel => exact hid ⟨j + 1, o3 ++ [u], by omega, by go_num, by rw [HZ.out], HZ2, by rw [List.length_append]; simp; omega, by first | rfl | trivial⟩
            case measure => simp [intOf]; omega
          · have hjn : j = row.length := by omega
            have hT2 := hT.out
            rw [hjn, List.take_length] at hT2
            have HZ : Hid (st o3 = st (mT (rows.take (k + 1)))) := by show _ = _; rw [HTE.out, ← hT2]
            obtain ⟨s3, hs3⟩ : ∃ s3, st o3 = s3 := ⟨_, rfl⟩
            rw [hs3] at HZ hsz3 ⊢
            clear hT hT2 hjn HTE hs3
            go_wp2
            go_roundw
            case rel => exact hid ⟨k + 1, by omega, by go_num, by rw [← HZ.out], by first | rfl | trivial⟩
            case measure => simp [intOf]; omega
    · have HZ : Hid (st (mT rows) = st (mT (rows.take k))) := by show _ = _; rw [List.take_of_length_le (by rw [HL.out]; omega)]
      go_wp2
      go_ret
      exact ⟨ret_str HZ.out.symm, by first | rfl | trivial⟩
end Go.Proofs.YtgphkfnobmponaaGreat

/- Contracts of the laws' own helpers that copy arguments: multiplex, synchronous and passing patterns, notations. -/
namespace Go.Proofs.YtgphkfnobmponaaGreat
open Go.RowKit
set_option linter.unusedVariables false

/-- A slice of slices that is being filled. -/
def GW (w : World) (base : Nat) (v : Value) (n : Nat) (rows : List (List Int)) : Prop :=
  ∃ vs, w.ownsRow base 24 1 v n vs ∧ ∀ (j : Nat) (row : List Int), rows[j]? = some row → ∃ Aj cj, vs[j]? = some (.slice Aj row.length cj) ∧ w.ownsRow base 2 1 (.slice Aj row.length cj) row.length (ints row)
theorem GW.start {w : World} {base n : Nat} {v : Value} {us : List Value} (h : w.ownsRow base 24 1 v n us) (rows : List (List Int)) : GW w base v n (rows.take 0) := ⟨us, h, fun j row h => by simp at h⟩
theorem GW.below {w w' : World} {base n : Nat} {v : Value} {rows : List (List Int)} (h : GW w base v n rows) (hb : Below w.heap.size w w') : GW w' base v n rows := by
  obtain ⟨vs, h1, h2⟩ := h
  refine ⟨vs, own_below h1 hb, fun j row hj => ?_⟩
  obtain ⟨Aj, cj, h3, h4⟩ := h2 j row hj
  exact ⟨Aj, cj, h3, own_below h4 hb⟩
theorem GW.put {w : World} {base n c g k ci : Nat} {Ai : Option Addr} {rows : List (List Int)} {row : List Int} (h : GW w base (.slice (some ⟨g, 0, none⟩) n c) n (rows.take k)) (hk : k < n) (hrow : rows[k]? = some row) (hr : w.ownsRow base 2 1 (.slice Ai row.length ci) row.length (ints row)) :
    (∃ u, w.cell? ⟨g, k, none⟩ = some u) ∧ w.frozen? ⟨g, k, none⟩ = false ∧ GW (w.setCell ⟨g, k, none⟩ (.slice Ai row.length ci)) base (.slice (some ⟨g, 0, none⟩) n c) n (rows.take (k + 1)) := by
  obtain ⟨vs, h1, h2⟩ := h
  have hl := h1.1
  refine ⟨⟨_, (h1.cellAt k (by omega)).trans (List.getElem?_eq_getElem (by omega))⟩, h1.frozenAt k, ?_⟩
  obtain ⟨h3, h4⟩ := h1.stored k (.slice Ai row.length ci)
  refine ⟨_, h3, fun j r hj => ?_⟩
  rw [List.getElem?_take] at hj
  split at hj
  · rename_i hjk
    by_cases hjk2 : j = k
    · subst hjk2
      rw [hrow] at hj
      obtain rfl := Option.some.inj hj
      exact ⟨Ai, ci, by rw [List.getElem?_set_self (by omega)], own_types hr h1 (by decide) h4⟩
    · obtain ⟨Aj, cj, h5, h6⟩ := h2 j r (by rw [List.getElem?_take, if_pos (by omega)]; exact hj)
      exact ⟨Aj, cj, by rw [List.getElem?_set_ne (fun e => hjk2 e.symm)]; exact h5, own_types h6 h1 (by decide) h4⟩
  · cases hj
theorem GW.setq {w : World} {base n : Nat} {v : Value} {rows : List (List Int)} (h : GW w base v n rows) {p : Addr} (hp : p.block < base) (u : Value) : GW (w.setCell p u) base v n rows := by
  obtain ⟨vs, h1, h2⟩ := h
  refine ⟨vs, own_put0 h1 hp u, fun j row hj => ?_⟩
  obtain ⟨Aj, cj, h3, h4⟩ := h2 j row hj
  exact ⟨Aj, cj, h3, own_put0 h4 hp u⟩
theorem GW.more {w : World} {base base' n : Nat} {v : Value} {rows : List (List Int)} (h : GW w base v n rows) (hb : base' ≤ base) : GW w base' v n rows := by
  obtain ⟨vs, h1, h2⟩ := h
  refine ⟨vs, own_more h1 hb, fun j row hj => ?_⟩
  obtain ⟨Aj, cj, h3, h4⟩ := h2 j row hj
  exact ⟨Aj, cj, h3, own_more h4 hb⟩
theorem GW.read {w : World} {base n c : Nat} {A : Option Addr} {rows : List (List Int)} (h : GW w base (.slice A n c) n rows) (hl : rows.length = n) : RdG w w.heap.size A n rows := by
  obtain ⟨vs, h1, h2⟩ := h
  refine ⟨hl, fun h0 => ?_⟩
  obtain ⟨b, off, e, hb, hc⟩ := (Rd.of_own h1).2 h0
  refine ⟨b, off, e, hb, fun j row hj => ?_⟩
  obtain ⟨Aj, cj, h3, h4⟩ := h2 j row hj
  exact ⟨Aj, cj, hc j _ h3, Rd.of_own h4⟩
end Go.Proofs.YtgphkfnobmponaaGreat
