/- Contracts of the functions that find the orbits of a pattern. -/
import Derived.Test.YteaabniemlnjbaaMo
import Derived.Test.YteaabniemlnjbaaGr
import Derived.Test.YteaabniemlnjbaaOp
import Derived.Deep.LoopGhost
import Derived.Deep.DeepCutAuto
import Derived.Deep.RegionWith
import Derived.Deep.OwnRows
namespace Go.Proofs.Yteaabniemlnjbaa
open Go.RowKit
set_option linter.unusedVariables false

theorem inf_bool : (Try.prog.info? 4).map (fun i => (i.zero, i.size, i.bytes)) = some (some (.bool false), 1, 1) := by kernel_rfl
theorem grown_below {w0 w w' : World} {row : Option Nat} (h : w0.grownBy w row) (hb : Below w0.heap.size w w') : w0.grownBy w' row :=
  ⟨hb.os.trans h.os, hb.tape.trans h.tape, hb.output.trans h.output, Nat.le_trans h.size hb.size, fun k hk hne => (hb.block k hk).trans (h.block k hk hne)⟩
theorem grown_tr {w0 w w' : World} {row : Option Nat} (h : w0.grownBy w row) (hg : w.grownBy w' row) : w0.grownBy w' row :=
  ⟨hg.os.trans h.os, hg.tape.trans h.tape, hg.output.trans h.output, Nat.le_trans h.size hg.size, fun k hk hne => (hg.block k (Nat.lt_of_lt_of_le hk h.size) hne).trans (h.block k hk hne)⟩

theorem own_made {w : World} {e n base : Nat} {z : Value} (hz : z.cells = #[z]) (hb : base ≤ w.heap.size) (hn : n ≤ 1099511627776) : (w.alloc (.cells (madeCells #[z] n) e)).ownsRow base e 1 (.slice (some ⟨w.heap.size, 0, none⟩) n n) n (List.replicate n z) := by
  have h1 : (madeCells #[z] n).toList = List.replicate n z := toList_madeCells_one _ _
  refine ⟨by simp, .inr ⟨w.heap.size, n, madeCells #[z] n, rfl, hb, heap_alloc_new w _, Nat.le_refl _, by unfold maxLen; omega, ?_, ?_⟩⟩
  · rw [← Array.length_toList, h1]; simp
  · rw [h1, Nat.mul_one]; simp
theorem own_madeb {w : World} {n base : Nat} (hb : base ≤ w.heap.size) (hn : n ≤ 1099511627776) : (w.alloc (.cells (madeCells #[.bool false] n) 4)).ownsRow base 4 1 (.slice (some ⟨w.heap.size, 0, none⟩) n n) n (bools n []) := by
  rw [← bools_nil]; exact own_made rfl hb hn
theorem own_madeb' {w : World} {g n base : Nat} (hg : g = w.heap.size) (hb : base ≤ w.heap.size) (hn : n ≤ 1099511627776) : (w.alloc (.cells (madeCells #[.bool false] n) 4)).ownsRow base 4 1 (.slice (some ⟨g, 0, none⟩) n n) n (bools n []) := by
  subst hg; exact own_madeb hb hn
theorem own_lit' {w : World} {g e base : Nat} (hg : g = w.heap.size) (hb : base ≤ w.heap.size) : (w.alloc (.cells #[] e)).ownsRow base e 1 (.slice (some ⟨g, 0, none⟩) 0 0) 0 [] := by
  subst hg; exact World.ownsRow_lit _ _ 0 hb (by simp [maxLen]) rfl
theorem size_drew (w : World) : w.drew.heap.size = w.heap.size := rfl
theorem own_drew {w : World} {base e sz n : Nat} {v : Value} {xs : List Value} (h : w.ownsRow base e sz v n xs) : w.drew.ownsRow base e sz v n xs := h
set_option maxHeartbeats 1000000 in
theorem orbitsOf_any (A : Option Addr) (n c : Nat) (p : List Int) (w : World) (hp : okP p = true) (hr : Rd w w.heap.size 1 A n (ints p)) :
    Calls Try.prog 111 #[.slice A n c] w fun e w' => ∃ v, e = .returned v ∧ Grid w' w.heap.size w'.heap.size v (orbs p) ∧ Below w.heap.size w w' := by
  have hlen := hr.len
  have hth := thOk_iff (okP_th hp)
  have hn1 : 1 ≤ n := by omega
  have hn2 : n ≤ 12 := by omega
  have hLi := hid (fun (k : Nat) => Lp_int (p := p) (k := k) (by omega))
  have hLl := hid (fun (k : Nat) => Lp_lt (p := p) (k := k) (by omega))
  have hlen' := hid hlen
  have hst : Hid (([] : List (List Int)) ++ (orbF (Lp p) n (n - 0) 0 []).map natI = orbs p) := by show _ = _; rw [orbs, orbN, hlen]; rfl
  have hld := hid (fun (w1 : World) (b : Below w.heap.size w w1) => landings_any A n c p w1 (okP_th hp) ((hr.below b (Nat.le_refl _)).more b.size))
  have hmk := run_make_row' (P := Try.prog) 53 4 (.bool false) 1 Try.underlying53 inf_bool rfl .i64 .i64 n (by omega) (by omega)
  clear hr hlen hth hp
  go_enter Try.func111, Try.ntmps111
  go_upto_region 1 with fail
  go_cut [3, 4, 5] (fun s3 s4 s5 wx => ∃ (X : Nat) (A5 : Option Addr) (c5 : Nat), s4 = .slice (some ⟨X, 0, none⟩) n n ∧ s5 = .slice A5 n c5 ∧ w.heap.size ≤ X ∧ wx.ownsRow w.heap.size 4 1 (.slice (some ⟨X, 0, none⟩) n n) n (bools n []) ∧ wx.ownsRow w.heap.size 2 1 (.slice A5 n c5) n (ints (lnd p)) ∧ wx.ownsRow w.heap.size 22 1 s3 0 [] ∧ Below w.heap.size w wx)
  case first =>
    go_region_with ((go_at_call 114; refine (hld.out _ ?_).mono ?_; (exact (by repeat' (first | exact Below.refl _ _ | (with_reducible assumption) | (with_reducible refine Below.alloc ?_ ?_ _) | (with_reducible refine Below.setCell ?_ ?_ _) | (with_reducible refine Below.drew ?_) | (with_reducible refine below_drewN ?_ _) | (refine Below.trans ?_ (Below.mono (by assumption) ?_)) | (with_reducible exact Nat.le_refl _) | (with_reducible assumption) | (exact Below.size (by assumption)) | omega | go_size | (simp at *; omega)))); rintro e w1 ⟨v1, rfl, ho1, hb1⟩; obtain ⟨A1, c1, rfl⟩ := own_form ho1; have hz1 : w.heap.size ≤ w1.heap.size := (by have h := hb1.size; first | exact h | (simp only [size_drew] at h; first | exact h | (simp at h; omega)))))
    all_goals
      go_simp
      go_wp2_with fail
      go_meet
      refine ⟨_, _, _, rfl, rfl, ?_, ?_, ?_, ?_, (by repeat' (first | exact Below.refl _ _ | (with_reducible assumption) | (with_reducible refine Below.alloc ?_ ?_ _) | (with_reducible refine Below.setCell ?_ ?_ _) | (with_reducible refine Below.drew ?_) | (with_reducible refine below_drewN ?_ _) | (refine Below.trans ?_ (Below.mono (by assumption) ?_)) | (with_reducible exact Nat.le_refl _) | (with_reducible assumption) | (exact Below.size (by assumption)) | omega | go_size | (simp at *; omega)))⟩
      · first | exact Nat.le_refl _ | omega | (simp at *; omega)
      · repeat' (first | (with_reducible refine own_madeb' ?_ ?_ ?_) | (with_reducible refine World.ownsRow.alloc ?_ _) | (with_reducible refine own_drew ?_) | (with_reducible refine own_below ?_ hb1))
        all_goals (first | omega | (simp; done) | (simp; omega) | (simp only [size_drew]; first | omega | (simp; done) | (simp; omega)))
      · repeat' (first | (with_reducible refine own_more ho1 ?_) | (with_reducible refine World.ownsRow.alloc ?_ _))
        all_goals (first | omega | (simp; done) | (simp; omega) | (simp only [size_drew]; first | omega | (simp; done) | (simp; omega)))
      · repeat' (first | (with_reducible refine own_lit' ?_ ?_) | (with_reducible refine World.ownsRow.alloc ?_ _) | (with_reducible refine own_drew ?_) | (with_reducible refine own_below ?_ hb1))
        all_goals (first | omega | (simp; done) | (simp; omega) | (simp only [size_drew]; first | omega | (simp; done) | (simp; omega)))
  case rest =>
    obtain ⟨X, A5, c5, rfl, rfl, hX, ho1, hat1, hout1, hb1⟩ := hcut
    have hst1 := hid (Grid.empty (M := wc.heap.size) hout1)
    clear hout1
    go_wp2
    go_loopw [3, 17] (fun v i wr => ∃ (k : Nat) (s : List Nat) (rows : List (List Int)), k ≤ n ∧ i = .int .i64 k ∧ SeenOk n s ∧ rows.length ≤ k ∧ Hid (rows ++ (orbF (Lp p) n (n - k) k s).map natI = orbs p) ∧ wr.ownsRow w.heap.size 4 1 (.slice (some ⟨X, 0, none⟩) n n) n (bools n s) ∧ wr.ownsRow w.heap.size 2 1 (.slice A5 n c5) n (ints (lnd p)) ∧ Grid wr w.heap.size wr.heap.size v rows ∧ Below w.heap.size w wr) (fun _ i _ => n - (intOf i).toNat)
    case atStart => exact ⟨0, [], [], Nat.zero_le _, rfl, ⟨List.nodup_nil, fun x h => by cases h⟩, Nat.zero_le _, hst, ho1, hat1, hst1.out, hb1⟩
    case round =>
      obtain ⟨k, s, rows, hk, rfl, hs, hrl, he, ho, hat, hG, hb0⟩ := hrel
      obtain ⟨wi, rfl⟩ : ∃ wi : World, wi = wr := ⟨_, rfl⟩
      clear ho1 hb1 hst hat1 hst1
      have hz0 := hb0.size
      by_cases hlt : k < n
      · have HS := hid hs
        generalize hOWN : trail (Lp p) (n - s.length) k s = OWN
        have hOWN := hid hOWN
        clear hs
        go_wp2
        go_loopg [7, 8] (n - s.length) (fun g v7 v8 wx => ∃ (j : Nat) (o s' : List Nat), j < n ∧ v8 = .int .i64 j ∧ Hid (s' = o.reverse ++ s) ∧ SeenOk n s' ∧ Hid (g = n - s'.length) ∧ Hid (o ++ trail (Lp p) g j s' = OWN) ∧ o.length ≤ n ∧ wx.ownsRow w.heap.size 4 1 (.slice (some ⟨X, 0, none⟩) n n) n (bools n s') ∧ wx.ownsRow w.heap.size 2 1 (.slice A5 n c5) n (ints (lnd p)) ∧ wx.ownsRow wi.heap.size 2 1 v7 (natI o).length (ints (natI o)) ∧ wi.grownBy wx (some X) ∧ Below w.heap.size w wx)
        case atStart => exact ⟨k, [], s, hlt, rfl, by show _ = _; rfl, HS.out, by show _ = _; rfl, by show _ = _; rw [← hOWN.out]; rfl, Nat.zero_le _, ho.alloc _, hat.alloc _, World.ownsRow_lit _ _ 0 (Nat.le_refl _) (by simp [maxLen]) rfl, World.grownBy_alloc _ _ _, (by repeat' (first | exact Below.refl _ _ | (with_reducible assumption) | (with_reducible refine Below.alloc ?_ ?_ _) | (with_reducible refine Below.setCell ?_ ?_ _) | (with_reducible refine Below.drew ?_) | (with_reducible refine below_drewN ?_ _) | (refine Below.trans ?_ (Below.mono (by assumption) ?_)) | (with_reducible exact Nat.le_refl _) | (with_reducible assumption) | (exact Below.size (by assumption)) | omega | go_size | (simp at *; omega)))⟩
        case round =>
          obtain ⟨j, o, s', hj, rfl, hse, hs', hg, ht, hol, ho2, hat2, ho3, hgr, hb2⟩ := hrel
          have HSE := hid hse
          have HSO := hid hs'
          have HG := hid hg
          obtain ⟨A7, c7, rfl⟩ := own_form ho3
          have hz2 := hb2.size
          have hcell := ho2.cellAt j (by omega)
          rw [bools_at hj] at hcell
          have hol2 : (natI o).length ≤ 12 := by rw [natI_len]; omega
          by_cases hjm : j ∈ s'
          · have ht := ht.out
            rw [trail_in hjm, List.append_nil] at ht
            rw [decide_eq_true hjm] at hcell
            have hG2 := (hG.types ho (by decide) (by decide) hgr)
            have hwz := hgr.size
            have hkk : n - k = (n - (k + 1)) + 1 := by omega
            have he := he.out
            rw [hkk] at he
            by_cases ho0 : o = []
            · rw [ho0] at ht
              have hs3 := HS.out
              rw [orbF_nil hs3.1 hs3.2 hlt (hOWN.out.trans ht.symm)] at he
              have hss : s' = s := by rw [hse.out, ho0]; rfl
              have HZ2 : Hid (rows ++ (orbF (Lp p) n (n - (k + 1)) (k + 1) s').map natI = orbs p) := by show _ = _; rw [hss]; exact he
              have hl0 : ¬ 0 < (natI o).length := by rw [ho0]; simp [natI]
              clear ht hjm hse hs' hg HG hOWN HSE he hkk ho0 hs3 hss
              go_wp2
              go_roundw
              case rel => exact ⟨k + 1, s', rows, by omega, by go_num, HSO.out, by omega, HZ2, ho2, hat2, hG2.up hwz, hb2⟩
              case measure => simp [intOf]; omega
            · rw [orbF_cons (hOWN.out.trans ht.symm) ho0] at he
              have HZ2 : Hid ((rows ++ [natI o]) ++ (orbF (Lp p) n (n - (k + 1)) (k + 1) s').map natI = orbs p) := by
                show _ = _
                rw [← he, hse.out]; simp
              have hum : ∀ g, (Value.slice A7 (natI o).length c7).ownBlock = some g → wi.heap.size ≤ g := fun g h => (ho3.lt g h).1
              have hl0 : 0 < (natI o).length := by rw [natI_len]; exact List.length_pos_iff.2 ho0
              clear ht hjm hse hs' hg HG hOWN HSE he hkk ho0
              go_wp2_with (at_builtin; refine push_row hG2 (own_more ho3 hz0) hum hwz _ Try.underlying39 inf_row rfl _ _ rfl rfl rfl (by omega) (by omega) ?_; intro v4 w4 hG4 hb4 hg4)
              go_roundw
              case rel => exact ⟨k + 1, s', rows ++ [natI o], by omega, by go_num, HSO.out, by rw [List.length_append]; simp; omega, HZ2, hG2.other ho2 (by decide) hg4, hG2.other hat2 (by decide) hg4, hG4.up (by first | exact hb4.size | (have := hb4.size; simp at *; omega)), (by repeat' (first | exact Below.refl _ _ | (with_reducible assumption) | (with_reducible refine Below.alloc ?_ ?_ _) | (with_reducible refine Below.setCell ?_ ?_ _) | (with_reducible refine Below.drew ?_) | (with_reducible refine below_drewN ?_ _) | (refine Below.trans ?_ (Below.mono (by assumption) ?_)) | (with_reducible exact Nat.le_refl _) | (with_reducible assumption) | (exact Below.size (by assumption)) | omega | go_size | (simp at *; omega)))⟩
              case measure => simp [intOf]; omega
          · rw [decide_eq_false hjm] at hcell
            have hsl2 := nodup_lt hs'.1 hs'.2 hj hjm
            have hgk : gk = (n - (j :: s').length) + 1 := by rw [hg.out, List.length_cons]; omega
            have hgm : Hid (n - (j :: s').length < gk) := by show _ < _; omega
            have ht2 := ht.out
            rw [hgk, trail_out hjm] at ht2
            have HT : Hid ((o ++ [j]) ++ trail (Lp p) (n - (j :: s').length) (Lp p j) (j :: s') = OWN) := by show _ = _; rw [← ht2]; simp
            have HSE2 : Hid (j :: s' = (o ++ [j]).reverse ++ s) := by show _ = _; rw [hse.out]; simp
            have HSO2 := hid (hs'.cons hj hjm)
            have hLj := hLl.out j
            rw [hlen'.out] at hLj
            have hf := ho2.frozenAt j
            obtain ⟨ho4, hg4⟩ := ho2.stored j (.bool true)
            rw [bools_set hj] at ho4
            have HO5 := hid (own_types ho3 ho2 (by decide) hg4)
            have HAT5 := hid (own_types hat2 ho2 (by decide) hg4)
            have HO4 := hid ho4
            have HGR := hid (grown_tr hgr hg4)
            have hlX := (ho.lt _ rfl).2
            have hlA := hid (hat.lt)
            have hol3 : o.length ≤ s'.length := by rw [hse.out]; simp
            have HOL : Hid ((o ++ [j]).length ≤ n) := by show _ ≤ _; rw [List.length_append, List.length_singleton]; omega
            have hwz := hgr.size
            have HB5 : Hid (Below w.heap.size w (wr.setCell ⟨X, j, none⟩ (.bool true))) := Below.setCell hb2 hX _
            clear ht ht2 hjm hse hs' hg hgk hOWN HSE he HG ho4 hg4 ho2 ho3 hat2 hgr hsl2 hol3 hol ho hG hat
            have hsz : Hid ((wr.setCell ⟨X, j, none⟩ (.bool true)).heap.size = wr.heap.size) := by show _ = _; simp
            go_wp2_with (at_builtin; refine push_int HO5.out (j : Int) _ Try.underlying22 inf_int rfl rfl _ _ rfl rfl (by rw [hsz.out]; rfl) (by omega) (by rw [hsz.out]; exact hwz) ?_; intro v6 w6 ho6 hb6 hg6; have hat6 := own_lo HAT5.out hb6 (fun g h => (hlA.out g h).2); obtain ⟨bk, off, x, hA5, _, hx, _, hcx⟩ := (Rd.of_own hat6).at_ hj; have hxx := (lnd_at p j (by rw [hlen'.out]; exact hj)).symm.trans hx; have hxx := Option.some.inj hxx; rw [← hLi.out j] at hxx; have hcx := hcx; rw [← hxx] at hcx; have hxx := hid hxx; have hx := hid hx; subst hA5)
            go_roundg (n - (j :: s').length)
            case measure => exact hgm.out
            case rel => exact ⟨Lp p j, o ++ [j], j :: s', hLj, (by rw [hxx.out]), HSE2, HSO2.out, rfl, HT, HOL.out, own_lo HO4.out hb6 (fun g h => by (have h : X = g := (by simpa [Value.ownBlock] using h)); omega), hat6, by rw [natI_snoc]; exact ho6, grown_below HGR.out hb6, HB5.out.trans (hb6.mono hz0)⟩
      · have hkn : n - k = 0 := by omega
        have he := he.out
        rw [hkn, orbF] at he
        simp only [List.map_nil, List.append_nil] at he
        clear hkn
        go_wp2
        go_ret
        rw [← he]
        exact ⟨_, rfl, hG, hb0⟩
end Go.Proofs.Yteaabniemlnjbaa
