/- Props of passing patterns: contracts. -/
import Derived.Test.YtlbhfjbbkkkldaaQb
namespace Go.Proofs.Ytlbhfjbbkkkldaa
open Go.RowKit
set_option linter.unusedVariables false

/-- The sum of the throws of both jugglers. -/
def sP2 : List PT → List PT → Int
  | x :: xs, y :: ys => x.1 + y.1 + sP2 xs ys
  | _, _ => 0
def rPassingProps (p : Psg) : Int × Int := if psOk p then (sP2 p.1 p.2 / (p.1.length : Int), 0) else (0, 1)
set_option maxHeartbeats 2000000 in
theorem PassingProps_any (A B : Option Addr) (n c m d : Nat) (p : Psg) (w : World) (hn : n ≤ 1099511627776) (hm : m ≤ 1099511627776) (hr : Rd w w.heap.size 2 A n (ths p.1)) (hs : Rd w w.heap.size 2 B m (ths p.2)) :
    Calls Try.prog 35 #[.agg #[.slice A n c, .slice B m d]] w fun e w' => e = .returned (.tuple #[.int .i64 (rPassingProps p).1, .int .i64 (rPassingProps p).2]) ∧ Below w.heap.size w w' := by
  have hB0 : Below w.heap.size w (w.alloc (Obj.cells #[.slice A n c, .slice B m d] 35)) := (by repeat' (first | exact Below.refl _ _ | (with_reducible assumption) | (with_reducible refine Below.alloc ?_ ?_ _) | (with_reducible refine Below.setCell ?_ ?_ _) | (with_reducible refine Below.drew ?_) | (with_reducible refine below_drewN ?_ _) | (refine Below.trans ?_ (Below.mono (by assumption) ?_)) | (with_reducible exact Nat.le_refl _) | (with_reducible assumption) | (exact Below.size (by assumption)) | omega | go_size | (simp at *; omega)))
  have hV := ValidPassing_any A B n c m d p (w.alloc (Obj.cells #[.slice A n c, .slice B m d] 35)) hn hm ((hr.below hB0 (Nat.le_refl _)).more hB0.size) ((hs.below hB0 (Nat.le_refl _)).more hB0.size)
  have hX := Bx.new w 35 #[.slice A n c, .slice B m d]
  cases hp : psOk p with
  | false =>
    rw [hp] at hV
    have hV := hid hV
    have HO : Hid (rPassingProps p = (0, 1)) := by show _ = _; rw [rPassingProps, hp]; rfl
    have HB0 := hid hB0
    clear hr hs hp hX hB0
    go_enter Try.func35, Try.ntmps35
    go_wp2_with fail
    refine hV.out.mono ?_
    rintro e w1 ⟨rfl, hb1⟩
    have hB1 := bchain HB0.out hb1
    clear hb1
    go_wp2
    go_ret2
    exact ⟨by rw [HO.out]; first | done | rfl, hB1⟩
  | true =>
    rw [hp] at hV
    have hV := hid hV
    obtain ⟨a, b⟩ := p
    obtain ⟨⟨h1, h8⟩, he, hoa, hob⟩ := psSh_iff.1 (psOk_iff.1 hp).1
    have l1 := hr.th_len
    have l2 := hs.th_len
    simp only at l1 l2 h1 h8 he hoa hob hr hs
    obtain rfl : n = m := by omega
    rw [l1] at h1 h8
    have HA := hid (fun (x : PT) (hx : x ∈ a) => (ptOk_iff.1 (ptsOk_iff.1 hoa x hx)).1)
    have HBb := hid (fun (x : PT) (hx : x ∈ b) => (ptOk_iff.1 (ptsOk_iff.1 hob x hx)).1)
    have HO : Hid (rPassingProps (a, b) = (sP2 a b / (n : Int), 0)) := by show _ = _; rw [rPassingProps, hp]; show (sP2 a b / (a.length : Int), (0 : Int)) = _; rw [l1]
    have hst0 : Hid (0 + sP2 (a.drop 0) (b.drop 0) = sP2 a b) := by show _ = _; simp
    obtain ⟨S, hS⟩ : ∃ S, sP2 a b = S := ⟨_, rfl⟩
    rw [hS] at HO hst0
    have HR := hid hr
    have HS := hid hs
    have HL := hid l1
    have HL2 := hid l2
    have HB0 := hid hB0
    have HX := hid hX
    clear hr hs hp l1 l2 hX hB0 hS he hoa hob
    go_enter Try.func35, Try.ntmps35
    go_wp2_with fail
    refine hV.out.mono ?_
    rintro e w1 ⟨rfl, hb1⟩
    have hB1 := bchain HB0.out hb1
    have hX1 := HX.out.below hb1 HX.out.lt
    have HXR := hid (fun (w2 : World) (hb : Below w1.heap.size w1 w2) => show w2.cell? ⟨w.heap.size, 0, none⟩ = some (.slice A n c) ∧ w2.cell? ⟨w.heap.size, 1, none⟩ = some (.slice B n d) from ⟨(hX1.below hb hX1.lt).cell 0, (hX1.below hb hX1.lt).cell 1⟩)
    obtain ⟨a0, a1⟩ := HXR.out w1 (Below.refl _ _)
    clear hV HX HB0 hb1 hX1
    go_wp2
    clear a0 a1
    go_loopw [4, 12] (fun s i wr => Hid (∃ (k : Nat) (x : Int), k ≤ n ∧ i = .int .i64 k ∧ s = .int .i64 x ∧ 0 ≤ x ∧ x ≤ 30 * k ∧ Hid (x + sP2 (a.drop k) (b.drop k) = S) ∧ Below w1.heap.size w1 wr)) (fun _ i _ => n - (intOf i).toNat)
    case atStart => exact hid ⟨0, 0, Nat.zero_le _, rfl, rfl, by omega, by omega, hst0, Below.refl _ _⟩
    case round =>
      obtain ⟨k, x, hk, rfl, rfl, hx0, hx1, he, hb0⟩ := hrel.out
      clear hrel hst0
      have hB2 := bchain hB1 hb0
      obtain ⟨a0, a1⟩ := HXR.out wr hb0
      have hl0 : w.heap.size < wr.heap.size := World.block_lt_of_cell? wr (a := ⟨w.heap.size, 0, none⟩) a0
      by_cases hlt : k < n
      · obtain ⟨ba, oa, y, rfl, hba, hy, hd, c0, c1⟩ := (HR.out.below hB2 (Nat.le_refl _)).th_at hlt
        obtain ⟨bb, ob, z, rfl, hbb, hz, hd2, d0, d1⟩ := (HS.out.below hB2 (Nat.le_refl _)).th_at hlt
        obtain ⟨y0, y1⟩ := HA.out y (List.mem_of_getElem? hy)
        obtain ⟨z0, z1⟩ := HBb.out z (List.mem_of_getElem? hz)
        obtain ⟨yv, yp⟩ := y
        obtain ⟨zv, zp⟩ := z
        have HZ : Hid (x + (yv + zv) + sP2 (a.drop (k + 1)) (b.drop (k + 1)) = S) := by
          show _ = _
          have h2 := he.out
          rw [hd, hd2, show sP2 ((yv, yp) :: a.drop (k + 1)) ((zv, zp) :: b.drop (k + 1)) = yv + zv + sP2 (a.drop (k + 1)) (b.drop (k + 1)) from rfl] at h2
          omega
        simp only at y0 y1 z0 z1 c0 d0
        have hbaw : ba < wr.heap.size := by have := hB2.size; omega
        have hbbw : bb < wr.heap.size := by have := hB2.size; omega
        have hki : (k : Int) < (n : Int) := by omega
        clear he hy hz hd hd2 hba hbb c1 d1
        go_wp2
        go_quiet (fail)
        go_wp2
        go_roundw
        case rel => exact hid ⟨k + 1, x + (yv + zv), by omega, by go_num, by go_num, by omega, by omega, HZ, (by repeat' (first | exact Below.refl _ _ | (with_reducible assumption) | (with_reducible refine Below.alloc ?_ ?_ _) | (with_reducible refine Below.setCell ?_ ?_ _) | (with_reducible refine Below.drew ?_) | (with_reducible refine below_drewN ?_ _) | (refine Below.trans ?_ (Below.mono (by assumption) ?_)) | (with_reducible exact Nat.le_refl _) | (with_reducible assumption) | (exact Below.size (by assumption)) | omega | go_size | (simp at *; omega)))⟩
        case measure => simp [intOf]; omega
      · have hxS : x = S := by
          have h2 := he.out
          rw [List.drop_eq_nil_of_le (by rw [HL.out]; omega)] at h2
          simp only [sP2] at h2; omega
        have HZ : Hid (rPassingProps (a, b) = (x / (n : Int), 0)) := by show _ = _; rw [HO.out, hxS]
        clear he hxS HO
        go_wp2
        go_ret2
        exact ⟨by rw [HZ.out]; first | done | rfl, hB2⟩
set_option maxHeartbeats 2000000 in
theorem l06Props_at (g o : Nat) (A B : Option Addr) (n c m d : Nat) (p : Psg) (w : World) (hp : psSh p = true) (hx : Bo w g o #[.slice A n c, .slice B m d]) (hr : Rd w w.heap.size 2 A n (ths p.1)) (hs : Rd w w.heap.size 2 B m (ths p.2)) :
    Calls Try.prog 105 #[.pointer (some ⟨g, o, none⟩)] w fun e w' => e = .returned (.int .i64 (sP2 p.1 p.2 / (p.1.length : Int))) ∧ Below w.heap.size w w' := by
  obtain ⟨a, b⟩ := p
  obtain ⟨⟨h1, h8⟩, he, hoa, hob⟩ := psSh_iff.1 hp
  have l1 := hr.th_len
  have l2 := hs.th_len
  simp only at l1 l2 h1 h8 he hoa hob hr hs ⊢
  obtain rfl : n = m := by omega
  rw [l1] at h1 h8 ⊢
  have hgl := hx.lt
  have HXR := hid (fun (w2 : World) (hb : Below w.heap.size w w2) => show w2.cell? ⟨g, o, none⟩ = some (.slice A n c) ∧ w2.cell? ⟨g, o + 1, none⟩ = some (.slice B n d) from ⟨(hx.below hb hgl).cell 0, (hx.below hb hgl).cell 1⟩)
  have HA := hid (fun (x : PT) (hx : x ∈ a) => (ptOk_iff.1 (ptsOk_iff.1 hoa x hx)).1)
  have HBb := hid (fun (x : PT) (hx : x ∈ b) => (ptOk_iff.1 (ptsOk_iff.1 hob x hx)).1)
  have hst0 : Hid (0 + sP2 (a.drop 0) (b.drop 0) = sP2 a b) := by show _ = _; simp
  obtain ⟨S, hS⟩ : ∃ S, sP2 a b = S := ⟨_, rfl⟩
  rw [hS] at hst0 ⊢
  have HR := hid hr
  have HS := hid hs
  have HL := hid l1
  clear hr hs hp l1 l2 hx hS he hoa hob
  go_enter Try.func105, Try.ntmps105
  go_wp2
  go_loopw [3, 4] (fun s i wr => Hid (∃ (k : Nat) (x : Int), k ≤ n ∧ i = .int .i64 k ∧ s = .int .i64 x ∧ 0 ≤ x ∧ x ≤ 30 * k ∧ Hid (x + sP2 (a.drop k) (b.drop k) = S) ∧ Below w.heap.size w wr)) (fun _ i _ => n - (intOf i).toNat)
  case atStart => exact hid ⟨0, 0, Nat.zero_le _, rfl, rfl, by omega, by omega, hst0, Below.refl _ _⟩
  case round =>
    obtain ⟨k, x, hk, rfl, rfl, hx0, hx1, he, hb0⟩ := hrel.out
    clear hrel hst0
    obtain ⟨a0, a1⟩ := HXR.out wr hb0
    have hl0 : g < wr.heap.size := by have := hb0.size; omega
    by_cases hlt : k < n
    · obtain ⟨ba, oa, y, rfl, hba, hy, hd, c0, c1⟩ := (HR.out.below hb0 (Nat.le_refl _)).th_at hlt
      obtain ⟨bb, ob, z, rfl, hbb, hz, hd2, d0, d1⟩ := (HS.out.below hb0 (Nat.le_refl _)).th_at hlt
      obtain ⟨y0, y1⟩ := HA.out y (List.mem_of_getElem? hy)
      obtain ⟨z0, z1⟩ := HBb.out z (List.mem_of_getElem? hz)
      obtain ⟨yv, yp⟩ := y
      obtain ⟨zv, zp⟩ := z
      have HZ : Hid (x + (yv + zv) + sP2 (a.drop (k + 1)) (b.drop (k + 1)) = S) := by
        show _ = _
        have h2 := he.out
        rw [hd, hd2, show sP2 ((yv, yp) :: a.drop (k + 1)) ((zv, zp) :: b.drop (k + 1)) = yv + zv + sP2 (a.drop (k + 1)) (b.drop (k + 1)) from rfl] at h2
        omega
      simp only at y0 y1 z0 z1 c0 d0
      have hbaw : ba < wr.heap.size := by have := hb0.size; omega
      have hbbw : bb < wr.heap.size := by have := hb0.size; omega
      have hki : (k : Int) < (n : Int) := by omega
      clear he hy hz hd hd2 hba hbb c1 d1
      go_wp2
      go_quiet (fail)
      go_wp2
      go_roundw
      case rel => exact hid ⟨k + 1, x + (yv + zv), by omega, by go_num, by go_num, by omega, by omega, HZ, (by repeat' (first | exact Below.refl _ _ | (with_reducible assumption) | (with_reducible refine Below.alloc ?_ ?_ _) | (with_reducible refine Below.setCell ?_ ?_ _) | (with_reducible refine Below.drew ?_) | (with_reducible refine below_drewN ?_ _) | (refine Below.trans ?_ (Below.mono (by assumption) ?_)) | (with_reducible exact Nat.le_refl _) | (with_reducible assumption) | (exact Below.size (by assumption)) | omega | go_size | (simp at *; omega)))⟩
      case measure => simp [intOf]; omega
    · have hxS : x = S := by
        have h2 := he.out
        rw [List.drop_eq_nil_of_le (by rw [HL.out]; omega)] at h2
        simp only [sP2] at h2; omega
      have HZ := hid hxS
      clear he hxS
      go_wp2
      go_ret
      exact ⟨ret_int (by rw [HZ.out]), hb0⟩
set_option maxHeartbeats 2000000 in
theorem specPassingProps_any (A B : Option Addr) (n c m d : Nat) (p : Psg) (w : World) (hn : n ≤ 1099511627776) (hm : m ≤ 1099511627776) (hr : Rd w w.heap.size 2 A n (ths p.1)) (hs : Rd w w.heap.size 2 B m (ths p.2)) :
    Calls Try.prog 36 #[.agg #[.slice A n c, .slice B m d]] w fun e w' => e = .returned (.tuple #[.int .i64 (rPassingProps p).1, .int .i64 (rPassingProps p).2]) ∧ Below w.heap.size w w' := by
  have hB0 : Below w.heap.size w (w.alloc (Obj.cells #[.slice A n c, .slice B m d] 35)) := (by repeat' (first | exact Below.refl _ _ | (with_reducible assumption) | (with_reducible refine Below.alloc ?_ ?_ _) | (with_reducible refine Below.setCell ?_ ?_ _) | (with_reducible refine Below.drew ?_) | (with_reducible refine below_drewN ?_ _) | (refine Below.trans ?_ (Below.mono (by assumption) ?_)) | (with_reducible exact Nat.le_refl _) | (with_reducible assumption) | (exact Below.size (by assumption)) | omega | go_size | (simp at *; omega)))
  have hX := Bx.new w 35 #[.slice A n c, .slice B m d]
  have hV := l06Ok_any w.heap.size A B n c m d p _ hn hm hX ((hr.below hB0 (Nat.le_refl _)).more hB0.size) ((hs.below hB0 (Nat.le_refl _)).more hB0.size)
  cases hp : psOk p with
  | false =>
    rw [hp] at hV
    have hV := hid hV
    have HO : Hid (rPassingProps p = (0, 1)) := by show _ = _; rw [rPassingProps, hp]; rfl
    have HB0 := hid hB0
    clear hr hs hp hX hB0
    go_enter Try.func36, Try.ntmps36
    go_wp2_with fail
    refine hV.out.mono ?_
    rintro e w1 ⟨rfl, hb1⟩
    have hB1 := bchain HB0.out hb1
    clear hb1
    go_wp2
    go_ret2
    exact ⟨by rw [HO.out]; first | done | rfl, hB1⟩
  | true =>
    rw [hp] at hV
    have hV := hid hV
    have HO : Hid (rPassingProps p = (sP2 p.1 p.2 / (p.1.length : Int), 0)) := by show _ = _; rw [rPassingProps, hp]; rfl
    have HS := hid (fun (w1 : World) (b : Below w.heap.size w w1) (hx : Bx w1 w.heap.size 35 #[.slice A n c, .slice B m d]) => l06Props_at w.heap.size 0 A B n c m d p w1 (psOk_iff.1 hp).1 hx.bo ((hr.below b (Nat.le_refl _)).more b.size) ((hs.below b (Nat.le_refl _)).more b.size))
    have HB0 := hid hB0
    have HX := hid hX
    generalize sP2 p.1 p.2 / (p.1.length : Int) = V at *
    clear hr hs hp hX hB0
    go_enter Try.func36, Try.ntmps36
    go_wp2_with fail
    refine hV.out.mono ?_
    rintro e w1 ⟨rfl, hb1⟩
    have hB1 := bchain HB0.out hb1
    have hX1 := HX.out.below hb1 HX.out.lt
    have hC := hid (HS.out w1 hB1 hX1)
    clear hV HX HB0 hb1 HS hX1
    go_wp2_with fail
    refine hC.out.mono ?_
    rintro e w2 ⟨rfl, hb2⟩
    have hB2 := bchain hB1 hb2
    clear hb2
    go_wp2
    go_ret2
    exact ⟨by rw [HO.out]; first | done | rfl, hB2⟩
end Go.Proofs.Ytlbhfjbbkkkldaa
