/- Contracts of OrbitOf, and the walk of its law. -/
import Derived.Test.YteaabniemlnjbaaOb
import Derived.Test.YteaabniemlnjbaaOq
import Derived.Test.YteaabniemlnjbaaW
namespace Go.Proofs.Yteaabniemlnjbaa
open Go.RowKit
set_option linter.unusedVariables false

theorem OrbitOf_any (A : Option Addr) (n c : Nat) (p : List Int) (i : Int) (w : World) (hn : n ≤ 1099511627776) (hr : Rd w w.heap.size 1 A n (ints p)) :
    Calls Try.prog 58 #[.slice A n c, .int .i64 i] w fun e w' => e = .returned (.tuple #[.int .i64 (rOrbitOf p i).1, .int .i64 (rOrbitOf p i).2]) ∧ Below w.heap.size w w' := by
  have hV := ValidPattern_any A n c p w hn hr
  by_cases k : okP p = true
  · rw [k] at hV
    have hV := hid hV
    have hlen := hr.len
    have hth := thOk_iff (okP_th k)
    have hn1 : 1 ≤ n := by omega
    have hn2 : n ≤ 12 := by omega
    obtain ⟨R, hR⟩ : ∃ R, frow i 0 (orbs p) = R := ⟨_, rfl⟩
    have hs : Hid (rOrbitOf p i = orC R) := by show _ = _; simp [rOrbitOf, k, hR]
    have HO := hid (fun (w1 : World) (h : Rd w1 w1.heap.size 1 A n (ints p)) => orbitsOf_any A n c p w1 k h)
    have HR := hid hr
    have hlo := orbs_len p
    have hst : Hid (frow i 0 ((orbs p).drop 0) = R) := by show _ = _; rw [List.drop_zero]; exact hR
    rw [hlen] at hlo
    have hlr : (orbs p).length ≤ 12 := by omega
    have hrw := hid (orbs_row (p := p))
    rw [hlen] at hrw
    generalize orbs p = rows at *
    clear hr k hR hlen hth
    go_enter Try.func58, Try.ntmps58
    go_wp2_with (first | (go_at_call 64; refine (hV.out).mono ?_; rintro e w1 ⟨rfl, hb1⟩; first | (have hk1 := bchain (by assumption) hb1; obtain ⟨hc1, hf1, hz1, hl1⟩ := bcell hk1) | (obtain ⟨hc1, hf1, hz1, hl1⟩ := bcell hb1)) | (go_at_call 111; refine (HO.out _ ((HR.out.below hb1 (Nat.le_refl _)).more hb1.size)).mono ?_; rintro e w2 ⟨v2, rfl, hG2, hb2⟩; obtain ⟨A2, c2, rfl⟩ := hG2.form; have hG := hG2.read))
    clear hG2
    have HB : Hid (Below w.heap.size w w2) := (by repeat' (first | exact Below.refl _ _ | (with_reducible assumption) | (with_reducible refine Below.alloc ?_ ?_ _) | (with_reducible refine Below.setCell ?_ ?_ _) | (with_reducible refine Below.drew ?_) | (with_reducible refine below_drewN ?_ _) | (refine Below.trans ?_ (Below.mono (by assumption) ?_)) | (with_reducible exact Nat.le_refl _) | (with_reducible assumption) | (exact Below.size (by assumption)) | omega | go_size | (simp at *; omega)))
    go_loop [16] (fun x => ∃ m : Nat, m ≤ rows.length ∧ x = .int .i64 m ∧ Hid (frow i m (rows.drop m) = R)) (fun x => rows.length - (intOf x).toNat)
    case atStart => exact ⟨0, Nat.zero_le _, rfl, hst⟩
    case round =>
      obtain ⟨m, hm, rfl, he⟩ := hrel
      clear hst
      by_cases hlt : m < rows.length
      · obtain ⟨b, off, row, Ai, ci, rfl, hb, hx, hd, hc, hrd⟩ := hG.at_ hlt
        have he := he.out
        rw [hd] at he
        have hl12 := hrw.out row (List.mem_of_getElem? hx)
        have HE := hid he
        have hst2 : Hid ((i ∈ row.drop 0) ↔ (i ∈ row)) := Iff.rfl
        have hHG := hid hG
        clear he hx hd hb hG
        go_wp2
        go_loop [23] (fun x => ∃ t : Nat, t ≤ row.length ∧ x = .int .i64 t ∧ Hid ((i ∈ row.drop t) ↔ (i ∈ row))) (fun x => row.length - (intOf x).toNat)
        case atStart => exact ⟨0, Nat.zero_le _, rfl, hst2⟩
        case round =>
          obtain ⟨t, ht, rfl, hi⟩ := hrel
          clear hst2
          by_cases hlt2 : t < row.length
          · obtain ⟨b2, off2, y, rfl, hb2, hy, hd2, hc2⟩ := hrd.at_ hlt2
            have hi := hi.out
            rw [hd2] at hi
            by_cases hyi : y = i
            · have hq : (y == i) = true := by simp [hyi]
              have hin : i ∈ row := hi.1 (by rw [hyi]; exact List.mem_cons_self)
              have he := HE.out
              rw [frow_yes hin] at he
              have HR2 := hid he
              clear hi hyi hy hd2 hin he HE hb2 hrd
              go_wp2
              go_ret2
              exact ⟨by rw [hs.out, ← HR2.out]; rfl, HB.out⟩
            · have hq : (y == i) = false := by simpa using hyi
              have HI : Hid ((i ∈ row.drop (t + 1)) ↔ (i ∈ row)) := by
                show _ ↔ _
                rw [← hi, List.mem_cons]
                constructor
                · exact .inr
                · rintro (h | h)
                  · exact absurd h.symm hyi
                  · exact h
              clear hi hyi hy hd2 hb2 hrd
              go_wp2
              go_round
              case rel => exact ⟨t + 1, by omega, by go_num, HI⟩
              case measure => simp [intOf]; omega
          · have hin : i ∉ row := by
              intro h
              have := hi.out.2 h
              rw [List.drop_eq_nil_of_le (by omega)] at this
              cases this
            have he := HE.out
            rw [frow_not hin] at he
            have HE2 := hid he
            clear he hin hi hrd HE
            go_wp2
            go_round
            case rel => exact ⟨m + 1, by omega, by go_num, HE2⟩
            case measure => simp [intOf]; omega
      · have he := he.out
        rw [List.drop_eq_nil_of_le (by omega), frow] at he
        have HR2 := hid he
        clear he
        go_wp2
        go_ret2
        exact ⟨by rw [hs.out, ← HR2.out]; rfl, HB.out⟩
  · have k : okP p = false := by simpa using k
    rw [k] at hV
    have hV := hid hV
    have hs : Hid (rOrbitOf p i = (0, 1)) := by show _ = _; simp [rOrbitOf, k]
    clear k hr
    go_enter Try.func58, Try.ntmps58
    go_wp2_with (first | (go_at_call 64; refine (hV.out).mono ?_; rintro e w1 ⟨rfl, hb1⟩; first | (have hk1 := bchain (by assumption) hb1; obtain ⟨hc1, hf1, hz1, hl1⟩ := bcell hk1) | (obtain ⟨hc1, hf1, hz1, hl1⟩ := bcell hb1)))
    go_ret2
    exact ⟨by rw [hs.out]; rfl, (by repeat' (first | exact Below.refl _ _ | (with_reducible assumption) | (with_reducible refine Below.alloc ?_ ?_ _) | (with_reducible refine Below.setCell ?_ ?_ _) | (with_reducible refine Below.drew ?_) | (with_reducible refine below_drewN ?_ _) | (refine Below.trans ?_ (Below.mono (by assumption) ?_)) | (with_reducible exact Nat.le_refl _) | (with_reducible assumption) | (exact Below.size (by assumption)) | omega | go_size | (simp at *; omega)))⟩

end Go.Proofs.Yteaabniemlnjbaa
