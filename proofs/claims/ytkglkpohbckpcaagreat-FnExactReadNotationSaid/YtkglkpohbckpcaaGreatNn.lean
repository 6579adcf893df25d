/- Contracts of the laws' own helpers over multiplex and passing patterns and notations. -/
import Derived.Test.YtkglkpohbckpcaaGreatNm
import Derived.Test.YtkglkpohbckpcaaGreatNj
namespace Go.Proofs.YtkglkpohbckpcaaGreat
open Go.RowKit
set_option linter.unusedVariables false

theorem eqMulti_same (A A' : Option Addr) (n c c' : Nat) (rows : List (List Int)) (w : World) (hn : n ≤ 1099511627776) (hlr : ∀ r ∈ rows, r.length ≤ 1099511627776) (k : RdG w w.heap.size A n rows) (k' : RdG w w.heap.size A' n rows) :
    Calls Tryz.prog 33 #[.agg #[.slice A n c], .agg #[.slice A' n c']] w fun e w' => e = .returned (.bool true) ∧ Below w.heap.size w w' := by
  obtain ⟨W, hW⟩ : ∃ W, (w.alloc (Obj.cells #[.slice A n c] 25)).alloc (Obj.cells #[.slice A' n c'] 25) = W := ⟨_, rfl⟩
  have hbW : Below w.heap.size w W := by rw [← hW]; exact (by repeat' (first | exact Below.refl _ _ | (with_reducible assumption) | (with_reducible refine Below.alloc ?_ ?_ _) | (with_reducible refine Below.setCell ?_ ?_ _) | (with_reducible refine Below.drew ?_) | (with_reducible refine below_drewN ?_ _) | (refine Below.trans ?_ (Below.mono (by assumption) ?_)) | (with_reducible exact Nat.le_refl _) | (with_reducible assumption) | (exact Below.size (by assumption)) | omega | go_size | (simp at *; omega)))
  have hC := eqInt64SS_same A A' n c c' rows W hn hlr ((k.below hbW (Nat.le_refl _)).more hbW.size) ((k'.below hbW (Nat.le_refl _)).more hbW.size)
  rw [← hW] at hC hbW
  have hC := hid hC
  have HB := hid hbW
  clear k k' hlr hW hbW
  go_enter Tryz.func33, Tryz.ntmps33
  go_wp2_with fail
  refine hC.out.mono ?_
  rintro e w1 ⟨rfl, hb1⟩
  have hB1 := bchain HB.out hb1
  clear hC hb1
  go_wp2
  go_ret
  exact ⟨rfl, hB1⟩
theorem Grid.mark2 {w : World} {base M i : Nat} {v : Value} {rows : List (List Int)} {row : List Int} (h : Grid w base M v rows) (hi : rows[i]? = some row) :
    ∃ b c Ai ci, v = .slice (some ⟨b, 0, none⟩) rows.length c ∧ w.cell? ⟨b, i, none⟩ = some (.slice Ai row.length ci) ∧ w.ownsRow base 2 1 (.slice Ai row.length ci) row.length (ints row) ∧
      (∀ g, (Value.slice Ai row.length ci).ownBlock = some g → g < M) ∧
      ∀ w' row', row'.length = row.length → w.grownBy w' (Value.slice Ai row.length ci).ownBlock → w'.ownsRow base 2 1 (.slice Ai row.length ci) row.length (ints row') → Grid w' base M v (rows.set i row') ∧ Below base w w' := by
  obtain ⟨b, c, Ai, ci, hv, hcell, ho, hup⟩ := h.mark hi
  refine ⟨b, c, Ai, ci, hv, hcell, ho, ?_, hup⟩
  obtain ⟨vs, h1, h2, h3, h4⟩ := h
  have hil : i < rows.length := (List.getElem?_eq_some_iff.1 hi).1
  have hu : vs[i]? = some (vs[i]'(by omega)) := List.getElem?_eq_getElem (by omega)
  rw [hv] at h2
  have hc := h2.cellAt i (by omega)
  rw [hcell, hu] at hc
  have he := Option.some.inj hc
  rw [he]
  exact (h3 i _ row hu hi).2
theorem markInt64SS_fr (v : Value) (base M k0 : Nat) (rows : List (List Int)) (w : World) (hn : rows.length ≤ 1099511627776) (ht : k0 + tot rows ≤ 1099511627776) (h : Grid w base M v rows) :
    Calls Tryz.prog 87 #[v, .int .i64 k0] w fun e w' => e = .returned (.int .i64 ((k0 + tot rows : Nat) : Int)) ∧ Grid w' base M v (mkRows k0 rows) ∧ Below base w w' ∧ (∀ k, M ≤ k → k < w.heap.size → w'.heap[k]? = w.heap[k]?) := by
  obtain ⟨A, c, rfl⟩ := h.form
  have hst : Hid (Grid w base M (.slice A rows.length c) (mkRows k0 (rows.take 0) ++ rows.drop 0)) := h
  clear h
  go_enter Tryz.func87, Tryz.ntmps87
  go_wp2
  go_loopw [1, 5] (fun m i wr => ∃ k : Nat, k ≤ rows.length ∧ i = .int .i64 k ∧ m = .int .i64 ((k0 + tot (rows.take k) : Nat) : Int) ∧ Grid wr base M (.slice A rows.length c) (mkRows k0 (rows.take k) ++ rows.drop k) ∧ Below base w wr ∧ Hid (∀ k, M ≤ k → k < w.heap.size → wr.heap[k]? = w.heap[k]?)) (fun _ i _ => rows.length - (intOf i).toNat)
  case atStart => exact ⟨0, Nat.zero_le _, rfl, rfl, hst.out, Below.refl _ _, hid (fun k _ _ => rfl)⟩
  case round =>
    obtain ⟨k, hk, rfl, rfl, hG, hb0, hfr⟩ := hrel
    clear hst
    by_cases hlt : k < rows.length
    · obtain ⟨row, hrow⟩ : ∃ row, rows[k]? = some row := ⟨_, List.getElem?_eq_getElem hlt⟩
      have hrow2 : (mkRows k0 (rows.take k) ++ rows.drop k)[k]? = some row := by
        have hl : (mkRows k0 (rows.take k)).length = k := by rw [mkRows_len, List.length_take]; omega
        rw [List.getElem?_append_right (by omega), hl, Nat.sub_self, List.getElem?_drop, Nat.add_zero]; exact hrow
      obtain ⟨b, c', Ai, ci, hv, hcell, ho, hrl, hup⟩ := hG.mark2 hrow2
      have HRL := hid hrl
      clear hrl
      have hA : A = some ⟨b, 0, none⟩ := by injection hv
      subst hA
      have htr := tot_row hrow
      have hts := tot_step rows k row hrow
      have hms := mk_step rows k0 k row hrow
      have HUP := hid hup
      have HTS : Hid ((((k0 + tot (rows.take k)) + row.length : Nat) : Int) = ((k0 + tot (rows.take (k + 1)) : Nat) : Int)) := by show _ = _; rw [hts]; omega
      have HMS := hid hms
      generalize tot (rows.take k) = T at *
      have HM := hid (markInt64S_any (.slice Ai row.length ci) row.length base (k0 + T) (ints row) wr (by omega) (by omega) ho)
      clear hv hup ho hrow hrow2 hts hms hG
      go_wp2_with (go_at_call 36; refine HM.out.mono ?_; rintro e w1 ⟨rfl, hm1, hg1⟩; obtain ⟨hG1, hb1⟩ := HUP.out w1 _ (marks_len _ _) hg1 hm1; rw [HMS.out] at hG1; have hfr1 := hid (fun (j : Nat) (h1 : M ≤ j) (h2 : j < w.heap.size) => (hg1.block j (Nat.lt_of_lt_of_le h2 hb0.size) (fun e => by have := HRL.out j e.symm; omega)).trans (hfr.out j h1 h2)))
      go_roundw
      case rel => exact ⟨k + 1, by omega, by go_num, by rw [← HTS.out]; go_num, hG1, hb0.trans hb1, hfr1⟩
      case measure => simp [intOf]; omega
    · have : k = rows.length := by omega
      subst this
      rw [List.take_length, List.drop_length, List.append_nil] at hG
      rw [List.take_length]
      go_wp2
      go_ret
      exact ⟨rfl, hG, hb0, hfr.out⟩
theorem markMulti_any (A : Option Addr) (n c base M k0 : Nat) (rows : List (List Int)) (w : World) (hn : rows.length ≤ 1099511627776) (ht : k0 + tot rows ≤ 1099511627776) (hb : base ≤ w.heap.size) (h : Grid w base M (.slice A n c) rows) :
    Calls Tryz.prog 37 #[.agg #[.slice A n c], .int .i64 k0] w fun e w' => e = .returned (.int .i64 ((k0 + tot rows : Nat) : Int)) ∧ Grid w' base M (.slice A n c) (mkRows k0 rows) ∧ Below base w w' ∧ (∀ k, M ≤ k → k < w.heap.size → w'.heap[k]? = w.heap[k]?) := by
  have hbW : Below w.heap.size w (w.alloc (Obj.cells #[.slice A n c] 25)) := (by repeat' (first | exact Below.refl _ _ | (with_reducible assumption) | (with_reducible refine Below.alloc ?_ ?_ _) | (with_reducible refine Below.setCell ?_ ?_ _) | (with_reducible refine Below.drew ?_) | (with_reducible refine below_drewN ?_ _) | (refine Below.trans ?_ (Below.mono (by assumption) ?_)) | (with_reducible exact Nat.le_refl _) | (with_reducible assumption) | (exact Below.size (by assumption)) | omega | go_size | (simp at *; omega)))
  have hC := hid (markInt64SS_fr (.slice A n c) base M k0 rows (w.alloc (Obj.cells #[.slice A n c] 25)) hn ht (h.below hbW))
  have HB := hid (hbW.mono hb)
  have HA := hid hbW
  clear h hbW
  go_enter Tryz.func37, Tryz.ntmps37
  go_wp2_with fail
  refine hC.out.mono ?_
  rintro e w1 ⟨rfl, hG, hb1, hf1⟩
  have hB1 := HB.out.trans hb1
  have hF := hid (fun (k : Nat) (h1 : M ≤ k) (h2 : k < w.heap.size) => (hf1 k h1 (by rw [show (w.alloc (Obj.cells #[.slice A n c] 25)).heap.size = w.heap.size + 1 by simp]; omega)).trans (HA.out.block k h2))
  clear hC hb1 hf1
  go_wp2
  go_ret
  exact ⟨rfl, hG, hB1, hF.out⟩
theorem heldMulti_any (A : Option Addr) (n c k0 : Nat) (rows : List (List Int)) (w : World) (hn : rows.length ≤ 1099511627776) (ht : k0 + tot rows ≤ 1099511627776) (h : RdG w w.heap.size A n (mkRows k0 rows)) :
    Calls Tryz.prog 41 #[.agg #[.slice A n c], .int .i64 k0] w fun e w' => e = .returned (.int .i64 ((k0 + tot rows : Nat) : Int)) ∧ Below w.heap.size w w' := by
  have hbW : Below w.heap.size w (w.alloc (Obj.cells #[.slice A n c] 25)) := (by repeat' (first | exact Below.refl _ _ | (with_reducible assumption) | (with_reducible refine Below.alloc ?_ ?_ _) | (with_reducible refine Below.setCell ?_ ?_ _) | (with_reducible refine Below.drew ?_) | (with_reducible refine below_drewN ?_ _) | (refine Below.trans ?_ (Below.mono (by assumption) ?_)) | (with_reducible exact Nat.le_refl _) | (with_reducible assumption) | (exact Below.size (by assumption)) | omega | go_size | (simp at *; omega)))
  have hC := hid (heldInt64SS_any A n c k0 rows (w.alloc (Obj.cells #[.slice A n c] 25)) hn ht ((h.below hbW (Nat.le_refl _)).more hbW.size))
  have HB := hid hbW
  have hnn : ¬ ((k0 + tot rows : Nat) : Int) < 0 := by omega
  clear h hbW
  generalize k0 + tot rows = K at *
  go_enter Tryz.func41, Tryz.ntmps41
  go_wp2_with fail
  refine hC.out.mono ?_
  rintro e w1 ⟨rfl, hb1⟩
  have hB1 := bchain HB.out hb1
  clear hC hb1
  go_wp2
  go_ret
  exact ⟨rfl, hB1⟩
theorem eqPassing_same (A A' B B' : Option Addr) (n c c' m d d' : Nat) (p : Psg) (w : World) (hn : n ≤ 1099511627776) (hm : m ≤ 1099511627776) (k : Rd w w.heap.size 2 A n (ths p.1)) (k' : Rd w w.heap.size 2 A' n (ths p.1)) (j : Rd w w.heap.size 2 B m (ths p.2)) (j' : Rd w w.heap.size 2 B' m (ths p.2)) :
    Calls Tryz.prog 35 #[.agg #[.slice A n c, .slice B m d], .agg #[.slice A' n c', .slice B' m d']] w fun e w' => e = .returned (.bool true) ∧ Below w.heap.size w w' := by
  obtain ⟨W, hW⟩ : ∃ W, (w.alloc (Obj.cells #[.slice A n c, .slice B m d] 29)).alloc (Obj.cells #[.slice A' n c', .slice B' m d'] 29) = W := ⟨_, rfl⟩
  have hbW : Below w.heap.size w W := by rw [← hW]; exact (by repeat' (first | exact Below.refl _ _ | (with_reducible assumption) | (with_reducible refine Below.alloc ?_ ?_ _) | (with_reducible refine Below.setCell ?_ ?_ _) | (with_reducible refine Below.drew ?_) | (with_reducible refine below_drewN ?_ _) | (refine Below.trans ?_ (Below.mono (by assumption) ?_)) | (with_reducible exact Nat.le_refl _) | (with_reducible assumption) | (exact Below.size (by assumption)) | omega | go_size | (simp at *; omega)))
  have hC := eqPassThrowS_same A A' n c c' p.1 W hn ((k.below hbW (Nat.le_refl _)).more hbW.size) ((k'.below hbW (Nat.le_refl _)).more hbW.size)
  have hD := fun (w1 : World) (b : Below w.heap.size w w1) => eqPassThrowS_same B B' m d d' p.2 w1 hm ((j.below b (Nat.le_refl _)).more b.size) ((j'.below b (Nat.le_refl _)).more b.size)
  have hX := (Bx.new w 29 #[.slice A n c, .slice B m d]).alloc (Obj.cells #[.slice A' n c', .slice B' m d'] 29)
  have hY := Bx.new (w.alloc (Obj.cells #[.slice A n c, .slice B m d] 29)) 29 #[.slice A' n c', .slice B' m d']
  have hz : (w.alloc (Obj.cells #[.slice A n c, .slice B m d] 29)).heap.size = w.heap.size + 1 := by simp
  rw [hz] at hY
  rw [← hW] at hC hbW
  have hC := hid hC
  have HD := hid hD
  have HB := hid hbW
  clear k k' j j' hW hbW hD hz
  go_enter Tryz.func35, Tryz.ntmps35
  go_wp2_with fail
  refine hC.out.mono ?_
  rintro e w1 ⟨rfl, hb1⟩
  have hX1 := hX.below hb1 hX.lt
  have hY1 := hY.below hb1 hY.lt
  have hB1 := bchain HB.out hb1
  have a1 : w1.cell? ⟨w.heap.size, 1, none⟩ = some (.slice B m d) := hX1.cell 1
  have b1 : w1.cell? ⟨w.heap.size + 1, 1, none⟩ = some (.slice B' m d') := hY1.cell 1
  clear hC hb1 hX hY hX1 hY1
  go_wp2_with fail
  refine (HD.out w1 hB1).mono ?_
  rintro e w2 ⟨rfl, hb2⟩
  have hB2 := bchain hB1 hb2
  clear HD hb2 a1 b1
  go_wp2
  go_ret
  exact ⟨rfl, hB2⟩
theorem markPassing_any (A B : Option Addr) (n c m d base k0 : Nat) (p : Psg) (w : World) (hn : n ≤ 1099511627776) (hm : m ≤ 1099511627776) (hk0 : k0 + 2 * n ≤ 1099511627776) (hb : base ≤ w.heap.size) (h : w.ownsRow base 105 2 (.slice A n c) n (ths p.1)) (h' : w.ownsRow base 105 2 (.slice B m d) m (ths p.2)) (hr : Rise (.slice A n c) (.slice B m d)) :
    Calls Tryz.prog 39 #[.agg #[.slice A n c, .slice B m d], .int .i64 k0] w fun e w' => e = .returned (.int .i64 ((k0 + 2 * n + 2 * m : Nat) : Int)) ∧ w'.ownsRow base 105 2 (.slice A n c) n (ths (mkP k0 n)) ∧ w'.ownsRow base 105 2 (.slice B m d) m (ths (mkP ((k0 + 2 * n : Nat) : Int) m)) ∧ Below base w w' ∧ (∀ k, k < w.heap.size → (Value.slice A n c).ownBlock ≠ some k → (Value.slice B m d).ownBlock ≠ some k → w'.heap[k]? = w.heap[k]?) := by
  have hbW : Below w.heap.size w (w.alloc (Obj.cells #[.slice A n c, .slice B m d] 29)) := (by repeat' (first | exact Below.refl _ _ | (with_reducible assumption) | (with_reducible refine Below.alloc ?_ ?_ _) | (with_reducible refine Below.setCell ?_ ?_ _) | (with_reducible refine Below.drew ?_) | (with_reducible refine below_drewN ?_ _) | (refine Below.trans ?_ (Below.mono (by assumption) ?_)) | (with_reducible exact Nat.le_refl _) | (with_reducible assumption) | (exact Below.size (by assumption)) | omega | go_size | (simp at *; omega)))
  have hC := hid (markPassThrowS_any (.slice A n c) n base k0 (ths p.1) _ hn (by omega) (own_below h hbW))
  have HK := hid (own_below h' hbW)
  have hX := Bx.new w 29 #[.slice A n c, .slice B m d]
  have hlt : ∀ g, (Value.slice A n c).ownBlock = some g → base ≤ g ∧ g < w.heap.size := h.lt
  have HB := hid (hbW.mono hb)
  have HA := hid hbW
  have HLT := hid hlt
  have HR := hid hr
  clear h h' hbW hlt hr
  go_enter Tryz.func39, Tryz.ntmps39
  go_wp2_with fail
  refine hC.out.mono ?_
  rintro e w1 ⟨rfl, ho1, hg1⟩
  have hX1 := hX.grown hg1 (fun e => by have := (HLT.out _ e.symm).2; omega)
  have a1 : w1.cell? ⟨w.heap.size, 1, none⟩ = some (.slice B m d) := hX1.cell 1
  have ho2 := HK.out.kept hg1 (by
    cases hbb : (Value.slice B m d).ownBlock with
    | none => exact .inl rfl
    | some g => exact .inr fun e => by have := HR.out g g e.symm hbb; omega)
  have hB1 : Below base w w1 := HB.out.trans ⟨hg1.os, hg1.tape, hg1.output, hg1.size, fun k hk => hg1.block k (by have := HB.out.size; omega) fun e => by have := (HLT.out k e.symm).1; omega⟩
  have hD := hid (markPassThrowS_any (.slice B m d) m base (k0 + 2 * n) (ths p.2) w1 hm (by omega) ho2)
  have HLT2 := hid ho2.lt
  have HF1 := hid (fun (k : Nat) (h1 : k < w.heap.size) (h2 : (Value.slice A n c).ownBlock ≠ some k) => (hg1.block k (Nat.lt_of_lt_of_le h1 HA.out.size) (fun e => h2 e.symm)).trans (HA.out.block k h1))
  have HS1 := hid (Nat.le_trans HA.out.size hg1.size)
  have HO1 := hid ho1
  clear hC hX hX1 hg1 ho1 ho2 HK
  go_wp2_with fail
  refine hD.out.mono ?_
  rintro e w2 ⟨rfl, ho3, hg2⟩
  have ho4 := HO1.out.kept hg2 (by
    cases hbb : (Value.slice A n c).ownBlock with
    | none => exact .inl rfl
    | some g => exact .inr fun e => by have := HR.out g g hbb e.symm; omega)
  have hB2 : Below base w w2 := hB1.trans ⟨hg2.os, hg2.tape, hg2.output, hg2.size, fun k hk => hg2.block k (by have := hB1.size; omega) fun e => by have := (HLT2.out k e.symm).1; omega⟩
  have HF2 := hid (fun (k : Nat) (h1 : k < w.heap.size) (h2 : (Value.slice A n c).ownBlock ≠ some k) (h3 : (Value.slice B m d).ownBlock ≠ some k) => (hg2.block k (Nat.lt_of_lt_of_le h1 HS1.out) (fun e => h3 e.symm)).trans (HF1.out k h1 h2))
  clear hD hg2
  go_wp2
  go_ret
  exact ⟨rfl, ho4, ho3, hB2, HF2.out⟩
theorem heldPassing_any (A B : Option Addr) (n c m d k0 : Nat) (w : World) (hn : n ≤ 1099511627776) (hm : m ≤ 1099511627776) (hk0 : k0 + 2 * n ≤ 1099511627776) (h : Rd w w.heap.size 2 A n (ths (mkP k0 n))) (h' : Rd w w.heap.size 2 B m (ths (mkP ((k0 + 2 * n : Nat) : Int) m))) :
    Calls Tryz.prog 43 #[.agg #[.slice A n c, .slice B m d], .int .i64 k0] w fun e w' => e = .returned (.int .i64 ((k0 + 2 * n + 2 * m : Nat) : Int)) ∧ Below w.heap.size w w' := by
  have hbW : Below w.heap.size w (w.alloc (Obj.cells #[.slice A n c, .slice B m d] 29)) := (by repeat' (first | exact Below.refl _ _ | (with_reducible assumption) | (with_reducible refine Below.alloc ?_ ?_ _) | (with_reducible refine Below.setCell ?_ ?_ _) | (with_reducible refine Below.drew ?_) | (with_reducible refine below_drewN ?_ _) | (refine Below.trans ?_ (Below.mono (by assumption) ?_)) | (with_reducible exact Nat.le_refl _) | (with_reducible assumption) | (exact Below.size (by assumption)) | omega | go_size | (simp at *; omega)))
  have hC := hid (heldPassThrowS_any A n c k0 _ hn (by omega) ((h.below hbW (Nat.le_refl _)).more hbW.size))
  have hD := hid (fun (w1 : World) (b : Below w.heap.size w w1) => heldPassThrowS_any B m d (k0 + 2 * n) w1 hm (by omega) ((h'.below b (Nat.le_refl _)).more b.size))
  have hX := Bx.new w 29 #[.slice A n c, .slice B m d]
  have HB := hid hbW
  clear h h' hbW
  have hnn1 : ¬ ((k0 + 2 * n : Nat) : Int) < 0 := by omega
  have hnn2 : ¬ ((k0 + 2 * n + 2 * m : Nat) : Int) < 0 := by omega
  generalize k0 + 2 * n + 2 * m = K2 at *
  generalize k0 + 2 * n = K1 at *
  go_enter Tryz.func43, Tryz.ntmps43
  go_wp2_with fail
  refine hC.out.mono ?_
  rintro e w1 ⟨rfl, hb1⟩
  have hX1 := hX.below hb1 hX.lt
  have hB1 := bchain HB.out hb1
  have a1 : w1.cell? ⟨w.heap.size, 1, none⟩ = some (.slice B m d) := hX1.cell 1
  clear hC hb1 hX hX1
  go_wp2_with fail
  refine (hD.out w1 hB1).mono ?_
  rintro e w2 ⟨rfl, hb2⟩
  have hB2 := bchain hB1 hb2
  clear hD hb2
  go_wp2
  go_ret
  exact ⟨rfl, hB2⟩
end Go.Proofs.YtkglkpohbckpcaaGreat
