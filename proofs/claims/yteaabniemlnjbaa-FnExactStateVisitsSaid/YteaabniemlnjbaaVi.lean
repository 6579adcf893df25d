/- Contracts of StateVisits, and the walk of its law. -/
import Derived.Test.YteaabniemlnjbaaFw
namespace Go.Proofs.Yteaabniemlnjbaa
open Go.RowKit
set_option linter.unusedVariables false

/-- How often a number stands in a list. -/
def cq (x : Int) : List Int → Int
  | [] => 0
  | y :: ys => if y = x then 1 + cq x ys else cq x ys
theorem cq_yes {x y : Int} {ys : List Int} (h : y = x) : cq x (y :: ys) = 1 + cq x ys := by simp [cq, h]
theorem cq_not {x y : Int} {ys : List Int} (h : y ≠ x) : cq x (y :: ys) = cq x ys := by simp [cq, h]
def visL (L : List Int) : List Int := L.map fun x => cq x L
def rStateVisits (p : List Int) : List Int × Int := if loB p then (visL (mskP p (hgt p)), 0) else ([], loC p)
theorem StateVisits_len (p : List Int) : (rStateVisits p).1.length ≤ 12 := by
  unfold rStateVisits
  split
  · rename_i h
    have := (thOk_iff (okP_th (loB_iff.1 h).1)).2.2
    show (visL (mskP p (hgt p))).length ≤ 12
    rw [visL, List.length_map, mskP_len]; exact this
  · simp
theorem visL_step {L : List Int} {k : Nat} {x : Int} (h : L[k]? = some x) : (visL L).take (k + 1) = (visL L).take k ++ [cq x L] := by
  rw [List.take_add_one, visL, List.getElem?_map, h]; rfl
set_option maxHeartbeats 1000000 in
theorem StateVisits_any (A : Option Addr) (n c : Nat) (p : List Int) (w : World) (hn : n ≤ 1099511627776) (hr : Rd w w.heap.size 1 A n (ints p)) :
    Calls Try.prog 26 #[.slice A n c] w fun e w' => ∃ v, e = .returned (.tuple #[v, .int .i64 (rStateVisits p).2]) ∧ w'.ownsRow w.heap.size 2 1 v (rStateVisits p).1.length (ints (rStateVisits p).1) ∧ Below w.heap.size w w' := by
  have hC := lowCode_any A n c p w hn hr
  have HR := hid hr
  have hlen := hr.len
  by_cases k : loB p = true
  · rw [(loC_iff p).2 k] at hC
    have hC := hid hC
    have k1 := (loB_iff.1 k).1
    have hth := thOk_iff (okP_th k1)
    have hn2 : n ≤ 12 := by omega
    have hs : Hid (rStateVisits p = (visL (mskP p (hgt p)), 0)) := by show _ = _; simp [rStateVisits, k]
    have hml := mskP_len p (hgt p)
    rw [hlen] at hml
    have HO := hid (fun (w1 : World) (r : Rd w1 w1.heap.size 1 A n (ints p)) => ownStates_any A n c p w1 k1 r)
    generalize mskP p (hgt p) = L at *
    generalize hgt p = H at *
    have HV := hid (fun (k : Nat) (x : Int) (h : L[k]? = some x) => visL_step h)
    have hvl : Hid ((visL L).length = n) := by show _ = _; rw [visL, List.length_map, hml]
    have HML := hid hml
    clear k hr k1 hth hlen hml
    go_enter Try.func26, Try.ntmps26
    go_wp2_with (first | (go_at_call 87; refine (hC.out).mono ?_; rintro e w1 ⟨rfl, hb1⟩; first | (have hk1 := bchain (by assumption) hb1; obtain ⟨hc1, hf1, hz1, hl1⟩ := bcell hk1) | (obtain ⟨hc1, hf1, hz1, hl1⟩ := bcell hb1)) | (go_at_call 90; refine (HO.out _ ((HR.out.below hb1 (Nat.le_refl _)).more hb1.size)).mono ?_; rintro e w2 ⟨v2, rfl, ho2, hb2⟩; obtain ⟨A2, c2, rfl⟩ := own_form ho2; have HL := hid (Rd.of_own ho2); have HB : Hid (Below w.heap.size w w2) := bchain hb1 hb2; clear ho2 hb2))
    have hz2 := HB.out.size
    go_loopw [6, 22] (fun v i wr => ∃ k : Nat, k ≤ n ∧ i = .int .i64 k ∧ wr.ownsRow w2.heap.size 2 1 v ((visL L).take k).length (ints ((visL L).take k)) ∧ Below w2.heap.size w2 wr) (fun _ i _ => n - (intOf i).toNat)
    case atStart => exact ⟨0, Nat.zero_le _, rfl, World.ownsRow_lit _ _ 0 (Nat.le_refl _) (by simp [maxLen]) rfl, (by repeat' (first | exact Below.refl _ _ | (with_reducible assumption) | (with_reducible refine Below.alloc ?_ ?_ _) | (with_reducible refine Below.setCell ?_ ?_ _) | (with_reducible refine Below.drew ?_) | (with_reducible refine below_drewN ?_ _) | (refine Below.trans ?_ (Below.mono (by assumption) ?_)) | (with_reducible exact Nat.le_refl _) | (with_reducible assumption) | (exact Below.size (by assumption)) | omega | go_size | (simp at *; omega)))⟩
    case round =>
      obtain ⟨k, hk, rfl, ho, hb0⟩ := hrel
      obtain ⟨wo, rfl⟩ : ∃ wo : World, wo = wr := ⟨_, rfl⟩
      have hB := hb0.size
      have hol : ((visL L).take k).length ≤ 12 := by rw [List.length_take, hvl.out]; omega
      by_cases hlt : k < n
      · obtain ⟨b, off, x, rfl, hb, hx, hc0, hc1⟩ := (HL.out.below hb0 (Nat.le_refl _)).st_at hlt
        have HVx := hid (HV.out k x hx)
        have hst : Hid (0 + cq x (L.drop 0) = cq x L) := by show _ = _; simp
        have hbx0 : Bx (wo.alloc (Obj.cells #[.int .i64 H, .int .i64 x] 64)) wo.heap.size 64 #[.int .i64 H, .int .i64 x] := Bx.new _ _ _
        clear hx hb
        go_wp2
        go_loopw [9, 28] (fun v i wx => ∃ (t : Nat) (u : Int), t ≤ n ∧ i = .int .i64 t ∧ v = .int .i64 u ∧ 0 ≤ u ∧ u ≤ (t : Int) ∧ Hid (u + cq x (L.drop t) = cq x L) ∧ Bx wx wo.heap.size 64 #[.int .i64 H, .int .i64 x] ∧ Below wo.heap.size wo wx ∧ wo.heap.size + 1 ≤ wx.heap.size) (fun _ i _ => n - (intOf i).toNat)
        case atStart => exact ⟨0, 0, Nat.zero_le _, rfl, rfl, by omega, by omega, hst, hbx0, (by repeat' (first | exact Below.refl _ _ | (with_reducible assumption) | (with_reducible refine Below.alloc ?_ ?_ _) | (with_reducible refine Below.setCell ?_ ?_ _) | (with_reducible refine Below.drew ?_) | (with_reducible refine below_drewN ?_ _) | (refine Below.trans ?_ (Below.mono (by assumption) ?_)) | (with_reducible exact Nat.le_refl _) | (with_reducible assumption) | (exact Below.size (by assumption)) | omega | go_size | (simp at *; omega))), by simp⟩
        case round =>
          obtain ⟨t, u, ht, rfl, rfl, u0, u1, he, hbx, hb3, hz3⟩ := hrel
          clear hst hbx0
          have q0 : wr.cell? ⟨wo.heap.size, 0, none⟩ = some (.int .i64 H) := hbx.cell 0
          have q1 : wr.cell? ⟨wo.heap.size, 1, none⟩ = some (.int .i64 x) := hbx.cell 1
          by_cases hlt2 : t < n
          · obtain ⟨b4, off4, y, hA4, _, hy, hd0, hd1⟩ := (HL.out.below (hb0.trans (hb3.mono hB)) (Nat.le_refl _)).st_at hlt2
            injection hA4 with hA4
            injection hA4 with e1 e2
            subst e1 e2
            have hdr : L.drop t = y :: L.drop (t + 1) := by
              obtain ⟨hh, e⟩ := List.getElem?_eq_some_iff.1 hy
              rw [← e]; exact List.drop_eq_getElem_cons hh
            have he := he.out
            rw [hdr] at he
            have HBX := hid hbx
            have q0' : (wr.alloc (Obj.cells #[.int .i64 H, .int .i64 y] 64)).cell? ⟨wo.heap.size, 0, none⟩ = some (.int .i64 H) := (HBX.out.alloc _).cell 0
            have q1' : (wr.alloc (Obj.cells #[.int .i64 H, .int .i64 y] 64)).cell? ⟨wo.heap.size, 1, none⟩ = some (.int .i64 x) := (HBX.out.alloc _).cell 1
            by_cases hyx : y = x
            · rw [cq_yes hyx] at he
              have HE : Hid ((u + 1) + cq x (L.drop (t + 1)) = cq x L) := by show _ = _; omega
              subst hyx
              clear he hy hdr hbx
              go_wp2
              go_roundw
              case rel => exact ⟨t + 1, u + 1, by omega, by go_num, rfl, by omega, by omega, HE, HBX.out.alloc _, (by repeat' (first | exact Below.refl _ _ | (with_reducible assumption) | (with_reducible refine Below.alloc ?_ ?_ _) | (with_reducible refine Below.setCell ?_ ?_ _) | (with_reducible refine Below.drew ?_) | (with_reducible refine below_drewN ?_ _) | (refine Below.trans ?_ (Below.mono (by assumption) ?_)) | (with_reducible exact Nat.le_refl _) | (with_reducible assumption) | (exact Below.size (by assumption)) | omega | go_size | (simp at *; omega))), by simp; omega⟩
              case measure => simp [intOf]; omega
            · rw [cq_not hyx] at he
              have HE := hid he
              have hq : (x == y) = false := by simpa using fun e : x = y => hyx e.symm
              have hq2 : decide (x = y) = false := by simpa using fun e : x = y => hyx e.symm
              clear he hy hdr hbx
              go_wp2
              go_roundw
              case rel => exact ⟨t + 1, u, by omega, by go_num, rfl, by omega, by omega, HE, HBX.out.alloc _, (by repeat' (first | exact Below.refl _ _ | (with_reducible assumption) | (with_reducible refine Below.alloc ?_ ?_ _) | (with_reducible refine Below.setCell ?_ ?_ _) | (with_reducible refine Below.drew ?_) | (with_reducible refine below_drewN ?_ _) | (refine Below.trans ?_ (Below.mono (by assumption) ?_)) | (with_reducible exact Nat.le_refl _) | (with_reducible assumption) | (exact Below.size (by assumption)) | omega | go_size | (simp at *; omega))), by simp; omega⟩
              case measure => simp [intOf]; omega
          · have he := he.out
            have hz : cq x (L.drop t) = 0 := by rw [List.drop_eq_nil_of_le (by have := HML.out; omega)]; rfl
            have hu : u = cq x L := by omega
            have HT : Hid ((visL L).take (k + 1) = (visL L).take k ++ [u]) := by show _ = _; rw [HVx.out, hu]
            have ho3 := own_below ho hb3
            have hB3 : Hid (Below w2.heap.size w2 wr) := hb0.trans (hb3.mono hB)
            generalize (visL L).take k = out at *
            clear he hz hu hbx q0 q1 hb3 ho
            go_wp2_with (at_builtin; refine push_int ho3 u _ Try.underlying22 inf_int rfl rfl _ _ rfl rfl rfl (by omega) (by omega) ?_; intro v5 w5 ho5 hb5 hg5)
            go_roundw
            case rel => exact ⟨k + 1, by omega, by go_num, by rw [HT.out]; exact ho5, hB3.out.trans hb5⟩
            case measure => simp [intOf]; omega
      · rw [List.take_of_length_le (by rw [hvl.out]; omega)] at ho
        go_wp2
        go_ret2
        rw [hs.out]
        exact ⟨_, rfl, own_more ho hz2, HB.out.trans (hb0.mono hz2)⟩
  · have hs : Hid (rStateVisits p = ([], loC p)) := by show _ = _; simp [rStateVisits, k]
    have hq : (loC p != 0) = true := by have : loC p ≠ 0 := fun e => k ((loC_iff p).1 e); simpa using this
    have hC := hid hC
    generalize loC p = C at *
    clear k hr
    go_enter Try.func26, Try.ntmps26
    go_wp2_with (first | (go_at_call 87; refine (hC.out).mono ?_; rintro e w1 ⟨rfl, hb1⟩; first | (have hk1 := bchain (by assumption) hb1; obtain ⟨hc1, hf1, hz1, hl1⟩ := bcell hk1) | (obtain ⟨hc1, hf1, hz1, hl1⟩ := bcell hb1)))
    go_ret2
    rw [hs.out]
    exact ⟨_, rfl, World.ownsRow_nil _ _ _ _, (by repeat' (first | exact Below.refl _ _ | (with_reducible assumption) | (with_reducible refine Below.alloc ?_ ?_ _) | (with_reducible refine Below.setCell ?_ ?_ _) | (with_reducible refine Below.drew ?_) | (with_reducible refine below_drewN ?_ _) | (refine Below.trans ?_ (Below.mono (by assumption) ?_)) | (with_reducible exact Nat.le_refl _) | (with_reducible assumption) | (exact Below.size (by assumption)) | omega | go_size | (simp at *; omega)))⟩
set_option maxHeartbeats 1000000 in
theorem specStateVisits_any (A : Option Addr) (n c : Nat) (p : List Int) (w : World) (hn : n ≤ 1099511627776) (hr : Rd w w.heap.size 1 A n (ints p)) :
    Calls Try.prog 25 #[.slice A n c] w fun e w' => ∃ v, e = .returned (.tuple #[v, .int .i64 (rStateVisits p).2]) ∧ w'.ownsRow w.heap.size 2 1 v (rStateVisits p).1.length (ints (rStateVisits p).1) ∧ Below w.heap.size w w' := by
  have hC := l11Code_any A n c p w hn hr
  have HR := hid hr
  have hlen := hr.len
  by_cases k : loB p = true
  · rw [(loC_iff p).2 k] at hC
    have hC := hid hC
    have k1 := (loB_iff.1 k).1
    have hth := thOk_iff (okP_th k1)
    have hn2 : n ≤ 12 := by omega
    have hs : Hid (rStateVisits p = (visL (mskP p (hgt p)), 0)) := by show _ = _; simp [rStateVisits, k]
    have hml := mskP_len p (hgt p)
    rw [hlen] at hml
    have HG := hid (fun (w1 : World) (r : Rd w1 w1.heap.size 1 A n (ints p)) => l11Height_any A n c p w1 k1 r)
    have HO := hid (fun (w1 : World) (r : Rd w1 w1.heap.size 1 A n (ints p)) => l08States_any A n c p (hgt p) w1 (by have := hgt_int (p := p); have := hiT_bd (okP_th k1); omega) k1 r)
    generalize mskP p (hgt p) = L at *
    generalize hgt p = H at *
    have HV := hid (fun (k : Nat) (x : Int) (h : L[k]? = some x) => visL_step h)
    have hvl : Hid ((visL L).length = n) := by show _ = _; rw [visL, List.length_map, hml]
    have HML := hid hml
    clear k hr k1 hth hlen hml
    go_enter Try.func25, Try.ntmps25
    go_wp2_with (first | (go_at_call 82; refine (hC.out).mono ?_; rintro e w1 ⟨rfl, hb1⟩; first | (have hk1 := bchain (by assumption) hb1; obtain ⟨hc1, hf1, hz1, hl1⟩ := bcell hk1) | (obtain ⟨hc1, hf1, hz1, hl1⟩ := bcell hb1)) | (go_at_call 89; refine (HG.out _ ((HR.out.below hb1 (Nat.le_refl _)).more hb1.size)).mono ?_; rintro e w' ⟨rfl, rfl⟩) | (go_at_call 88; refine (HO.out _ ((HR.out.below hb1 (Nat.le_refl _)).more hb1.size)).mono ?_; rintro e w2 ⟨v2, rfl, ho2, hb2⟩; obtain ⟨A2, c2, rfl⟩ := own_form ho2; have HL := hid (Rd.of_own ho2); have HB : Hid (Below w.heap.size w w2) := bchain hb1 hb2; clear ho2 hb2))
    have hz2 := HB.out.size
    go_loopw [6, 7] (fun v i wr => ∃ k : Nat, k ≤ n ∧ i = .int .i64 k ∧ wr.ownsRow w2.heap.size 2 1 v ((visL L).take k).length (ints ((visL L).take k)) ∧ Below w2.heap.size w2 wr) (fun _ i _ => n - (intOf i).toNat)
    case atStart => exact ⟨0, Nat.zero_le _, rfl, World.ownsRow_lit _ _ 0 (Nat.le_refl _) (by simp [maxLen]) rfl, (by repeat' (first | exact Below.refl _ _ | (with_reducible assumption) | (with_reducible refine Below.alloc ?_ ?_ _) | (with_reducible refine Below.setCell ?_ ?_ _) | (with_reducible refine Below.drew ?_) | (with_reducible refine below_drewN ?_ _) | (refine Below.trans ?_ (Below.mono (by assumption) ?_)) | (with_reducible exact Nat.le_refl _) | (with_reducible assumption) | (exact Below.size (by assumption)) | omega | go_size | (simp at *; omega)))⟩
    case round =>
      obtain ⟨k, hk, rfl, ho, hb0⟩ := hrel
      obtain ⟨wo, rfl⟩ : ∃ wo : World, wo = wr := ⟨_, rfl⟩
      have hB := hb0.size
      have hol : ((visL L).take k).length ≤ 12 := by rw [List.length_take, hvl.out]; omega
      by_cases hlt : k < n
      · obtain ⟨b, off, x, rfl, hb, hx, hc0, hc1⟩ := (HL.out.below hb0 (Nat.le_refl _)).st_at hlt
        have HX := hid hx
        have HVx := hid (HV.out k x hx)
        have hst : Hid (0 + cq x (L.drop 0) = cq x L) := by show _ = _; simp
        clear hx hb hc0 hc1
        go_wp2
        go_loopw [8, 9] (fun v i wx => ∃ (t : Nat) (u : Int), t ≤ n ∧ i = .int .i64 t ∧ v = .int .i64 u ∧ 0 ≤ u ∧ u ≤ (t : Int) ∧ Hid (u + cq x (L.drop t) = cq x L) ∧ Below wo.heap.size wo wx) (fun _ i _ => n - (intOf i).toNat)
        case atStart => exact ⟨0, 0, Nat.zero_le _, rfl, rfl, by omega, by omega, hst, (by repeat' (first | exact Below.refl _ _ | (with_reducible assumption) | (with_reducible refine Below.alloc ?_ ?_ _) | (with_reducible refine Below.setCell ?_ ?_ _) | (with_reducible refine Below.drew ?_) | (with_reducible refine below_drewN ?_ _) | (refine Below.trans ?_ (Below.mono (by assumption) ?_)) | (with_reducible exact Nat.le_refl _) | (with_reducible assumption) | (exact Below.size (by assumption)) | omega | go_size | (simp at *; omega)))⟩
        case round =>
          obtain ⟨t, u, ht, rfl, rfl, u0, u1, he, hb3⟩ := hrel
          clear hst
          by_cases hlt2 : t < n
          · obtain ⟨b4, off4, y, hA4, _, hy, hd0, hd1⟩ := (HL.out.below (hb0.trans (hb3.mono hB)) (Nat.le_refl _)).st_at hlt2
            injection hA4 with hA4
            injection hA4 with e1 e2
            subst e1 e2
            obtain ⟨b5, off5, x5, hA5, _, hx5, hc0, hc1⟩ := (HL.out.below (hb0.trans (hb3.mono hB)) (Nat.le_refl _)).st_at hlt
            injection hA5 with hA5
            injection hA5 with e1 e2
            subst e1 e2
            obtain rfl : x = x5 := Option.some.inj (HX.out.symm.trans hx5)
            have hdr : L.drop t = y :: L.drop (t + 1) := by
              obtain ⟨hh, e⟩ := List.getElem?_eq_some_iff.1 hy
              rw [← e]; exact List.drop_eq_getElem_cons hh
            have he := he.out
            rw [hdr] at he
            by_cases hyx : y = x
            · rw [cq_yes hyx] at he
              have HE : Hid ((u + 1) + cq x (L.drop (t + 1)) = cq x L) := by show _ = _; omega
              subst hyx
              clear he hy hdr hx5
              go_wp2
              go_quiet (fail)
              go_wp2
              go_roundw
              case rel => exact ⟨t + 1, u + 1, by omega, by go_num, rfl, by omega, by omega, HE, (by repeat' (first | exact Below.refl _ _ | (with_reducible assumption) | (with_reducible refine Below.alloc ?_ ?_ _) | (with_reducible refine Below.setCell ?_ ?_ _) | (with_reducible refine Below.drew ?_) | (with_reducible refine below_drewN ?_ _) | (refine Below.trans ?_ (Below.mono (by assumption) ?_)) | (with_reducible exact Nat.le_refl _) | (with_reducible assumption) | (exact Below.size (by assumption)) | omega | go_size | (simp at *; omega)))⟩
              case measure => simp [intOf]; omega
            · rw [cq_not hyx] at he
              have HE := hid he
              have hq : (y == x) = false := by simpa using hyx
              have hq2 : decide (y = x) = false := by simpa using hyx
              clear he hy hdr hx5
              go_wp2
              go_quiet (fail)
              go_wp2
              go_roundw
              case rel => exact ⟨t + 1, u, by omega, by go_num, rfl, by omega, by omega, HE, (by repeat' (first | exact Below.refl _ _ | (with_reducible assumption) | (with_reducible refine Below.alloc ?_ ?_ _) | (with_reducible refine Below.setCell ?_ ?_ _) | (with_reducible refine Below.drew ?_) | (with_reducible refine below_drewN ?_ _) | (refine Below.trans ?_ (Below.mono (by assumption) ?_)) | (with_reducible exact Nat.le_refl _) | (with_reducible assumption) | (exact Below.size (by assumption)) | omega | go_size | (simp at *; omega)))⟩
              case measure => simp [intOf]; omega
          · have he := he.out
            have hz : cq x (L.drop t) = 0 := by rw [List.drop_eq_nil_of_le (by have := HML.out; omega)]; rfl
            have hu : u = cq x L := by omega
            have HT : Hid ((visL L).take (k + 1) = (visL L).take k ++ [u]) := by show _ = _; rw [HVx.out, hu]
            have ho3 := own_below ho hb3
            have hB3 : Hid (Below w2.heap.size w2 wr) := hb0.trans (hb3.mono hB)
            have hzr := hb3.size
            generalize (visL L).take k = out at *
            clear he hz hu hb3 ho
            go_wp2_with (at_builtin; refine push_int ho3 u _ Try.underlying22 inf_int rfl rfl _ _ rfl rfl rfl (by omega) (by omega) ?_; intro v5 w5 ho5 hb5 hg5)
            go_roundw
            case rel => exact ⟨k + 1, by omega, by go_num, by rw [HT.out]; exact ho5, hB3.out.trans hb5⟩
            case measure => simp [intOf]; omega
      · rw [List.take_of_length_le (by rw [hvl.out]; omega)] at ho
        go_wp2
        go_ret2
        rw [hs.out]
        exact ⟨_, rfl, own_more ho hz2, HB.out.trans (hb0.mono hz2)⟩
  · have hs : Hid (rStateVisits p = ([], loC p)) := by show _ = _; simp [rStateVisits, k]
    have hq : (loC p != 0) = true := by have : loC p ≠ 0 := fun e => k ((loC_iff p).1 e); simpa using this
    have hC := hid hC
    generalize loC p = C at *
    clear k hr
    go_enter Try.func25, Try.ntmps25
    go_wp2_with (first | (go_at_call 82; refine (hC.out).mono ?_; rintro e w1 ⟨rfl, hb1⟩; first | (have hk1 := bchain (by assumption) hb1; obtain ⟨hc1, hf1, hz1, hl1⟩ := bcell hk1) | (obtain ⟨hc1, hf1, hz1, hl1⟩ := bcell hb1)))
    go_ret2
    rw [hs.out]
    exact ⟨_, rfl, World.ownsRow_nil _ _ _ _, (by repeat' (first | exact Below.refl _ _ | (with_reducible assumption) | (with_reducible refine Below.alloc ?_ ?_ _) | (with_reducible refine Below.setCell ?_ ?_ _) | (with_reducible refine Below.drew ?_) | (with_reducible refine below_drewN ?_ _) | (refine Below.trans ?_ (Below.mono (by assumption) ?_)) | (with_reducible exact Nat.le_refl _) | (with_reducible assumption) | (exact Below.size (by assumption)) | omega | go_size | (simp at *; omega)))⟩

theorem fnExactStateVisits_walk (w : World) (aPA : Option Addr) (aPN aPC : Nat) (aP : List Int) (aPK : Came .i64 w aPA aPN aPC aP) :
    Calls Try.prog 6 #[.slice aPA aPN aPC] w fun e w' => e = .returned (.bool true) ∧ Below w.heap.size w w' := by
  by_cases hlong0 : 1048576 < aPN
  · have hmaP := aPK.2.1
    go_enter Try.func6, Try.ntmps6
    go_wp2
    go_ret
    exact ⟨rfl, (by repeat' (first | exact Below.refl _ _ | (with_reducible assumption) | (with_reducible refine Below.alloc ?_ ?_ _) | (with_reducible refine Below.setCell ?_ ?_ _) | (with_reducible refine Below.drew ?_) | (with_reducible refine below_drewN ?_ _) | (refine Below.trans ?_ (Below.mono (by assumption) ?_)) | (with_reducible exact Nat.le_refl _) | (with_reducible assumption) | (exact Below.size (by assumption)) | omega | go_size | (simp at *; omega)))⟩
  have KaP := Rd.of_came aPK
  have KLaP := KaP.len
  have B0aP := hid aPK
  have hS := hid (fun (AaP : Option Addr) (caP : Nat) (w1 : World) (kaP : Rd w1 w1.heap.size 1 AaP aPN (ints aP)) => specStateVisits_any AaP aPN caP aP w1 (by omega) kaP)
  have hI := hid (fun (AaP : Option Addr) (caP : Nat) (w1 : World) (kaP : Rd w1 w1.heap.size 1 AaP aPN (ints aP)) => StateVisits_any AaP aPN caP aP w1 (by omega) kaP)
  have hL := StateVisits_len aP
  generalize rStateVisits aP = r at *
  obtain ⟨r0, r1⟩ := r
  try dsimp only at hL
  have hB := Below.refl w.heap.size w
  go_enter Try.func6, Try.ntmps6
  go_wp2_with (go_at_call 16; refine (toInt64S_any _ _ _ _ _ (by omega) ((KaP.below hB (Nat.le_refl _)).more hB.size)).mono ?_; rintro e w1 ⟨v1, rfl, ho1, hb1⟩; obtain ⟨A1, c1, rfl⟩ := own_form ho1; have l1 := ho1.lt; have s1 := hb1.size; replace hB := bchain hB hb1)
  go_wp2_with (go_at_call 25; refine (hS.out _ _ _ (Rd.of_own ho1)).mono ?_; rintro e w2 ⟨v2, rfl, ho2, hb2⟩; obtain ⟨A2, c2, rfl⟩ := own_form ho2; have l2 := ho2.lt; have s2 := hb2.size; replace hB := bchain hB hb2)
  go_wp2_with (go_at_call 16; refine (toInt64S_any _ _ _ _ _ (by omega) ((KaP.below hB (Nat.le_refl _)).more hB.size)).mono ?_; rintro e w3 ⟨v3, rfl, ho3, hb3⟩; obtain ⟨A3, c3, rfl⟩ := own_form ho3; have l3 := ho3.lt; have s3 := hb3.size; replace hB := bchain hB hb3; replace ho2 := own_below ho2 hb3)
  go_wp2_with (go_at_call 26; refine (hI.out _ _ _ (Rd.of_own ho3)).mono ?_; rintro e w4 ⟨v4, rfl, ho4, hb4⟩; obtain ⟨A4, c4, rfl⟩ := own_form ho4; have l4 := ho4.lt; have s4 := hb4.size; replace hB := bchain hB hb4; replace ho2 := own_below ho2 hb4; replace ho3 := own_below ho3 hb4)
  go_wp2_with (go_at_call 18; refine (eqInt64S_same _ _ _ _ _ _ _ (by omega) (Rd.of_own ho4) (Rd.of_own ho2)).mono ?_; rintro e w5 ⟨rfl, hb5⟩; have s5 := hb5.size; replace hB := bchain hB hb5; replace ho2 := own_below ho2 hb5; replace ho3 := own_below ho3 hb5; replace ho4 := own_below ho4 hb5)
  go_wp2_with (go_at_call 16; refine (toInt64S_any _ _ _ _ _ (by omega) ((KaP.below hB (Nat.le_refl _)).more hB.size)).mono ?_; rintro e w6 ⟨v6, rfl, ho6, hb6⟩; obtain ⟨A6, c6, rfl⟩ := own_form ho6; have l6 := ho6.lt; have s6 := hb6.size; replace hB := bchain hB hb6; replace ho2 := own_below ho2 hb6; replace ho3 := own_below ho3 hb6; replace ho4 := own_below ho4 hb6)
  go_wp2_with (go_at_call 18; refine (eqInt64S_same _ _ _ _ _ _ _ (by omega) (Rd.of_own ho3) (Rd.of_own ho6)).mono ?_; rintro e w7 ⟨rfl, hb7⟩; have s7 := hb7.size; replace hB := bchain hB hb7; replace ho2 := own_below ho2 hb7; replace ho3 := own_below ho3 hb7; replace ho4 := own_below ho4 hb7)
  go_wp2_with (go_at_call 19; refine (markInt64S_any _ _ _ 1 _ _ (by omega) (by omega) ho3).mono ?_; rintro e w8 ⟨rfl, hm8, hg8⟩; have s8 := hg8.size; replace hB := below_grown hB hg8 (fun g h => by have := (l3 g h).1; omega); replace ho2 := own_apart ho2 w2.heap.size (fun g h => by have := (l2 g h).2; omega) (fun g h => by have := (l3 g h).1; omega) hg8; replace ho4 := own_after ho4 w3.heap.size (fun g h => by have := (l4 g h).1; omega) (fun g h => by have := (l3 g h).2; omega) hg8)
  go_wp2_with (go_at_call 18; refine (eqInt64S_same _ _ _ _ _ _ _ (by omega) (Rd.of_own ho4) (Rd.of_own ho2)).mono ?_; rintro e w9 ⟨rfl, hb9⟩; have s9 := hb9.size; replace hB := bchain hB hb9; replace ho2 := own_below ho2 hb9; replace ho4 := own_below ho4 hb9)
  go_wp2_with (go_at_call 19; refine (markInt64S_any _ _ _ 1 _ _ (by omega) (by omega) ho4).mono ?_; rintro e w10 ⟨rfl, hm10, hg10⟩; have s10 := hg10.size; replace hB := below_grown hB hg10 (fun g h => by have := (l4 g h).1; omega); replace ho2 := own_apart ho2 w3.heap.size (fun g h => by have := (l2 g h).2; omega) (fun g h => by have := (l4 g h).1; omega) hg10; replace ho4 := hm10)
  go_wp2_with (go_at_call 20; refine (heldInt64S_any _ _ _ 1 _ (by omega) (by omega) (Rd.of_own ho4)).mono ?_; rintro e w11 ⟨rfl, hb11⟩; have s11 := hb11.size; replace hB := bchain hB hb11; replace ho2 := own_below ho2 hb11; replace ho4 := own_below ho4 hb11)
  go_wp2_with (go_at_call 16; refine (toInt64S_any _ _ _ _ _ (by omega) ((KaP.below hB (Nat.le_refl _)).more hB.size)).mono ?_; rintro e w12 ⟨v12, rfl, ho12, hb12⟩; obtain ⟨A12, c12, rfl⟩ := own_form ho12; have l12 := ho12.lt; have s12 := hb12.size; replace hB := bchain hB hb12; replace ho2 := own_below ho2 hb12; replace ho4 := own_below ho4 hb12)
  go_wp2_with (go_at_call 26; refine (hI.out _ _ _ (Rd.of_own ho12)).mono ?_; rintro e w13 ⟨v13, rfl, ho13, hb13⟩; obtain ⟨A13, c13, rfl⟩ := own_form ho13; have l13 := ho13.lt; have s13 := hb13.size; replace hB := bchain hB hb13; replace ho2 := own_below ho2 hb13; replace ho4 := own_below ho4 hb13)
  go_wp2_with (go_at_call 18; refine (eqInt64S_same _ _ _ _ _ _ _ (by omega) (Rd.of_own ho13) (Rd.of_own ho2)).mono ?_; rintro e w14 ⟨rfl, hb14⟩; have s14 := hb14.size; replace hB := bchain hB hb14; replace ho4 := own_below ho4 hb14)
  go_wp2_with (go_at_call 20; refine (heldInt64S_any _ _ _ 1 _ (by omega) (by omega) (Rd.of_own ho4)).mono ?_; rintro e w15 ⟨rfl, hb15⟩; have s15 := hb15.size; replace hB := bchain hB hb15)
  go_ret
  exact ⟨rfl, (by repeat' (first | exact Below.refl _ _ | (with_reducible assumption) | (with_reducible refine Below.alloc ?_ ?_ _) | (with_reducible refine Below.setCell ?_ ?_ _) | (with_reducible refine Below.drew ?_) | (with_reducible refine below_drewN ?_ _) | (refine Below.trans ?_ (Below.mono (by assumption) ?_)) | (with_reducible exact Nat.le_refl _) | (with_reducible assumption) | (exact Below.size (by assumption)) | omega | go_size | (simp at *; omega)))⟩


end Go.Proofs.Yteaabniemlnjbaa
