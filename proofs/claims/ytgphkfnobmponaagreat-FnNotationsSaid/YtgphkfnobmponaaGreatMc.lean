/- The text: Mc. -/
import Derived.Test.YtgphkfnobmponaaGreatMa
import Derived.Test.YtgphkfnobmponaaGreatG06
import Derived.Test.YtgphkfnobmponaaGreatNk
/- Contract of spec.AddMulti. -/
namespace Go.Proofs.YtgphkfnobmponaaGreat
open Go.RowKit
set_option linter.unusedVariables false

/-- A pattern that comes back with a code. -/
def AmRes (B : Nat) (r : List (List Int) × Int) (e : Ending) (w : World) : Prop := ∃ (A : Option Addr) (c : Nat), e = .returned (.tuple #[.agg #[.slice A r.1.length c], .int .i64 r.2]) ∧ Grid w B w.heap.size (.slice A r.1.length c) r.1
theorem AmRes.no (B : Nat) (w : World) (x : Int) : AmRes B ([], x) (.returned (.tuple #[.agg #[.slice none 0 0], .int .i64 x])) w := ⟨none, 0, rfl, Grid.nil _ _ _⟩
theorem AmRes.mk {B : Nat} {w : World} {A : Option Addr} {c n : Nat} {q : List (List Int)} {x : Int} (hn : q.length = n) (h : Grid w B w.heap.size (.slice A n c) q) : AmRes B (q, x) (.returned (.tuple #[.agg #[.slice A n c], .int .i64 x])) w := by subst hn; exact ⟨A, c, rfl, h⟩
def addR (a b : List (List Int)) : List (List Int) := List.zipWith (fun x y => rSortZ (x ++ y)) a b
def rAddMulti (a b : List (List Int)) : List (List Int) × Int :=
  if mOk a = false ∨ mOk b = false then ([], 1) else if a.length ≠ b.length then ([], 6) else if mOk (addR a b) then (addR a b, 0) else ([], 5)
theorem rAdd_1 {a b : List (List Int)} (h : mOk a = false ∨ mOk b = false) : rAddMulti a b = ([], 1) := by rw [rAddMulti, if_pos h]
theorem rAdd_6 {a b : List (List Int)} (ha : mOk a = true) (hb : mOk b = true) (h : a.length ≠ b.length) : rAddMulti a b = ([], 6) := by rw [rAddMulti, if_neg (by rw [ha, hb]; simp), if_pos h]
theorem rAdd_z {a b : List (List Int)} (ha : mOk a = true) (hb : mOk b = true) (h : a.length = b.length) : rAddMulti a b = if mOk (addR a b) then (addR a b, 0) else ([], 5) := by rw [rAddMulti, if_neg (by rw [ha, hb]; simp), if_neg (by simp [h])]
theorem addR_len {a b : List (List Int)} (h : a.length = b.length) : (addR a b).length = a.length := by simp [addR, h]
theorem addR_step {a b : List (List Int)} {k : Nat} {x y : List Int} (ha : a[k]? = some x) (hb : b[k]? = some y) : (addR a b).take (k + 1) = (addR a b).take k ++ [rSortZ (x ++ y)] := by
  rw [List.take_add_one, addR, List.getElem?_zipWith, ha, hb]; rfl
theorem own_ge {w : World} {base e sz n B : Nat} {v : Value} {xs : List Value} (h : w.ownsRow base e sz v n xs) (hB : B ≤ base) : ∀ g, v.ownBlock = some g → B ≤ g := fun g hg => Nat.le_trans hB (h.lt g hg).1
theorem Grid.fitv {w : World} {base M n : Nat} {A : Option Addr} {c : Nat} {rows : List (List Int)} (h : Grid w base M (.slice A n c) rows) (hn : rows.length = n) : Grid w base M (.slice A rows.length c) rows := by subst hn; exact h
set_option maxRecDepth 100000 in
set_option maxHeartbeats 4000000 in
theorem specAddMulti_any (A : Option Addr) (n c : Nat) (a : List (List Int)) (B : Option Addr) (m d : Nat) (b : List (List Int)) (w : World) (hn : n ≤ 1099511627776) (hm : m ≤ 1099511627776) (hla : ∀ r ∈ a, r.length ≤ 1099511627776) (hlb : ∀ r ∈ b, r.length ≤ 1099511627776) (ha : RdG w w.heap.size A n a) (hb : RdG w w.heap.size B m b) :
    Calls Tryz.prog 126 #[.agg #[.slice A n c], .agg #[.slice B m d]] w fun e w' => AmRes w.heap.size (rAddMulti a b) e w' ∧ Below w.heap.size w w' := by
  have HLA := hid ha.len
  have HLB := hid hb.len
  have HRA := hid ha
  have HRB := hid hb
  obtain ⟨W, hW⟩ : ∃ W, ((w.alloc (Obj.cells #[.slice A n c] 27)).alloc (Obj.cells #[.slice B m d] 27)).alloc (Obj.cells #[.slice none 0 0] 27) = W := ⟨_, rfl⟩
  have hbW : Below w.heap.size w W := by rw [← hW]; exact (by repeat' (first | exact Below.refl _ _ | (with_reducible first | assumption | exact Nat.le_refl _ | refine Below.alloc ?_ ?_ _ | refine Below.setCell ?_ ?_ _ | refine Below.drew ?_ | refine below_drewN ?_ _) | refine Below.trans ?_ (Below.mono (by assumption) ?_) | exact Below.size (by assumption) | omega | go_size | (simp at *; omega)))
  have hXA : Bx W w.heap.size 27 #[.slice A n c] := by rw [← hW]; exact ((Bx.new _ _ _).alloc _).alloc _
  have hXB : Bx W (w.heap.size + 1) 27 #[.slice B m d] := by
    have h := Bx.new (w.alloc (Obj.cells #[.slice A n c] 27)) 27 #[.slice B m d]
    rw [World.size_alloc] at h
    rw [← hW]; exact h.alloc _
  have hXR : Bx W (w.heap.size + 1 + 1) 27 #[.slice none 0 0] := by
    have h := Bx.new ((w.alloc (Obj.cells #[.slice A n c] 27)).alloc (Obj.cells #[.slice B m d] 27)) 27 #[.slice none 0 0]
    rw [World.size_alloc, World.size_alloc] at h
    rw [← hW]; exact h
  have HVA := hid (l04Ok_any w.heap.size A n c a W hn hla hXA ((ha.below hbW (Nat.le_refl _)).more hbW.size))
  have HVB := hid (fun (w1 : World) (b1 : Below w.heap.size w w1) (hx : Bx w1 (w.heap.size + 1) 27 #[.slice B m d]) => l04Ok_any (w.heap.size + 1) B m d b w1 hm hlb hx ((hb.below b1 (Nat.le_refl _)).more b1.size))
  have HBW := hid hbW
  have HXA := hid hXA
  have HXB := hid hXB
  have HXR := hid hXR
  rw [← hW] at HVA HBW HXA HXB HXR
  clear hla hlb ha hb hbW hXA hXB hXR hW W
  go_enter Tryz.func126, Tryz.ntmps126
  go_wp2_with fail
  refine HVA.out.mono ?_
  rintro e w1 ⟨rfl, hb1⟩
  have hB1 := bchain HBW.out hb1
  have X1 := hid (HXA.out.below hb1 HXA.out.lt)
  have Y1 := hid (HXB.out.below hb1 HXB.out.lt)
  have R1 := hid (HXR.out.below hb1 HXR.out.lt)
  clear HVA HXA HXB HXR hb1 HBW
  cases hpa : mOk a with
  | false =>
    have HZ := hid (rAdd_1 (b := b) (Or.inl hpa))
    have r0 : w1.cell? ⟨w.heap.size + 1 + 1, 0, none⟩ = some (.slice none 0 0) := R1.out.cell 0
    have s0 := R1.out.frozen 0
    clear hpa
    go_wp2
    refine bodyPost_ret (v := .tuple #[.agg #[.slice none 0 0], .int .i64 1]) ?_ rfl ?_
    · simp (maxDischargeDepth := 8) [results, Tryz.results126, go_sem, *]
    rw [HZ.out]
    exact ⟨AmRes.no _ _ _, (by repeat' (first | exact Below.refl _ _ | (with_reducible first | assumption | exact Nat.le_refl _ | refine Below.alloc ?_ ?_ _ | refine Below.setCell ?_ ?_ _ | refine Below.drew ?_ | refine below_drewN ?_ _) | refine Below.trans ?_ (Below.mono (by assumption) ?_) | exact Below.size (by assumption) | omega | go_size | (simp at *; omega)))⟩
  | true =>
    have HPA := hid hpa
    clear hpa
    go_wp2_with fail
    refine (HVB.out w1 hB1 Y1.out).mono ?_
    rintro e w2 ⟨rfl, hb2⟩
    have hB2 := bchain hB1 hb2
    have X2 := hid (X1.out.below hb2 X1.out.lt)
    have Y2 := hid (Y1.out.below hb2 Y1.out.lt)
    have R2 := hid (R1.out.below hb2 R1.out.lt)
    have r0 : w2.cell? ⟨w.heap.size + 1 + 1, 0, none⟩ = some (.slice none 0 0) := R2.out.cell 0
    have s0 := R2.out.frozen 0
    clear HVB X1 Y1 R1 hb2 hB1
    cases hpb : mOk b with
    | false =>
      have HZ := hid (rAdd_1 (a := a) (Or.inr hpb))
      clear hpb
      go_wp2
      refine bodyPost_ret (v := .tuple #[.agg #[.slice none 0 0], .int .i64 1]) ?_ rfl ?_
      · simp (maxDischargeDepth := 8) [results, Tryz.results126, go_sem, *]
      rw [HZ.out]
      exact ⟨AmRes.no _ _ _, (by repeat' (first | exact Below.refl _ _ | (with_reducible first | assumption | exact Nat.le_refl _ | refine Below.alloc ?_ ?_ _ | refine Below.setCell ?_ ?_ _ | refine Below.drew ?_ | refine below_drewN ?_ _) | refine Below.trans ?_ (Below.mono (by assumption) ?_) | exact Below.size (by assumption) | omega | go_size | (simp at *; omega)))⟩
    | true =>
      have HPB := hid hpb
      have x0 : w2.cell? ⟨w.heap.size, 0, none⟩ = some (.slice A n c) := X2.out.cell 0
      have y0 : w2.cell? ⟨w.heap.size + 1, 0, none⟩ = some (.slice B m d) := Y2.out.cell 0
      clear hpb
      by_cases hnm : n = m
      · subst hnm
        obtain ⟨⟨hn1, hn12⟩, hma⟩ := msSh_iff.1 (mOk_iff.1 HPA.out).1
        have hmb := (msSh_iff.1 (mOk_iff.1 HPB.out).1).2
        rw [HLA.out] at hn1 hn12
        have HLN : Hid (a.length = b.length) := by show _ = _; rw [HLA.out, HLB.out]
        have HZ := hid (rAdd_z HPA.out HPB.out HLN.out)
        have HQL : Hid ((addR a b).length = n) := by show _ = _; rw [addR_len HLN.out, HLA.out]
        have HMA := hid hma
        have HMB := hid hmb
        have HB2 := hid hB2
        have hst : Hid ((addR a b).take 0 = []) := List.take_zero
        have hGx : w.heap.size + 1 + 1 < w2.heap.size := R2.out.lt
        clear hma hmb hB2 HPA HPB
        go_wp2
        go_loopw [7] (fun i wr => Hid (∃ (k : Nat) (A3 : Option Addr) (c3 : Nat), k ≤ n ∧ i = .int .i64 k ∧ Bx wr w2.heap.size 27 #[.slice A3 k c3] ∧ Grid wr (w2.heap.size + 1) wr.heap.size (.slice A3 k c3) ((addR a b).take k) ∧ Below w2.heap.size w2 wr)) (fun i _ => n - (intOf i).toNat)
        case atStart => exact hid ⟨0, none, 0, Nat.zero_le _, rfl, Bx.new _ _ _, by rw [hst.out]; exact Grid.nil _ _ _, (by repeat' (first | exact Below.refl _ _ | (with_reducible first | assumption | exact Nat.le_refl _ | refine Below.alloc ?_ ?_ _ | refine Below.setCell ?_ ?_ _ | refine Below.drew ?_ | refine below_drewN ?_ _) | refine Below.trans ?_ (Below.mono (by assumption) ?_) | exact Below.size (by assumption) | omega | go_size | (simp at *; omega)))⟩
        case round =>
          clear r0 s0 x0 y0 hst
          obtain ⟨k, A3, c3, hk, rfl, hXG, hG, hb0⟩ := hrel.out
          clear hrel
          have hz0 := hb0.size
          have hzG := hXG.lt
          have hBr := bchain HB2.out hb0
          have XA := hid (X2.out.below hb0 X2.out.lt)
          have XB := hid (Y2.out.below hb0 Y2.out.lt)
          have XR := hid (R2.out.below hb0 R2.out.lt)
          have xa : wr.cell? ⟨w.heap.size, 0, none⟩ = some (.slice A n c) := XA.out.cell 0
          have xb : wr.cell? ⟨w.heap.size + 1, 0, none⟩ = some (.slice B n d) := XB.out.cell 0
          have xr : wr.cell? ⟨w.heap.size + 1 + 1, 0, none⟩ = some (.slice none 0 0) := XR.out.cell 0
          have fr := XR.out.frozen 0
          have xg : wr.cell? ⟨w2.heap.size, 0, none⟩ = some (.slice A3 k c3) := hXG.cell 0
          have fg := hXG.frozen 0
          by_cases hlt : k < n
          · obtain ⟨ba, oa, x, Ax, cx, rfl, hba, hx, hxd, hxc, hxr⟩ := HRA.out.at_ hlt
            obtain ⟨bb, ob, y, Ay, cy, rfl, hbb, hy, hyd, hyc, hyr⟩ := HRB.out.at_ hlt
            have hmx := (mstOk_iff.1 (HMA.out x (List.mem_of_getElem? hx))).1
            have hmy := (mstOk_iff.1 (HMB.out y (List.mem_of_getElem? hy))).1
            obtain ⟨l, hl⟩ : ∃ l, x ++ y = l := ⟨_, rfl⟩
            obtain ⟨L, hL⟩ : ∃ L, l.length = L := ⟨_, rfl⟩
            have hst := addR_step hx hy
            rw [hl] at hst
            have HST := hid hst
            have HXY := hid hl
            have HLl := hid hL
            have hL8 : L ≤ 8 := by rw [← hL, ← hl, List.length_append]; omega
            clear hst hl hL
            have HCA := hid (fun (w1 : World) (b1 : Below wr.heap.size wr w1) => show w1.cell? ⟨ba, oa + k, none⟩ = some (.slice Ax x.length cx) from ((bchain hBr b1).cell (p := ⟨ba, oa + k, none⟩) hba).trans hxc)
            have HCB := hid (fun (w1 : World) (b1 : Below wr.heap.size wr w1) => show w1.cell? ⟨bb, ob + k, none⟩ = some (.slice Ay y.length cy) from ((bchain hBr b1).cell (p := ⟨bb, ob + k, none⟩) hbb).trans hyc)
            obtain ⟨pxb, pxo, rfl, _, _⟩ := hxr.2 (by omega)
            obtain ⟨pyb, pyo, rfl, _, _⟩ := hyr.2 (by omega)
            have HC9 := hid (fun (w' : World) (b1 : Below wr.heap.size wr w') => (l00Own_any (some ⟨pxb, pxo, none⟩) x.length cx x w' (by omega) (fun h => by cases h) ((hxr.below (bchain hBr b1) (Nat.le_refl _)).more (bchain hBr b1).size)).mono (fun e w'' h => show ∃ A c, e = .returned (.slice A x.length c) ∧ w''.ownsRow wr.heap.size 2 1 (.slice A x.length c) x.length (ints x) ∧ Below w'.heap.size w' w'' by
              obtain ⟨v, h1, h2, h3⟩ := h
              obtain ⟨A, c, rfl⟩ := own_form h2
              exact ⟨A, c, h1, own_more h2 b1.size, h3⟩))
            have HRY := hid (fun (w1 : World) (b1 : Below wr.heap.size wr w1) => show Rd w1 w1.heap.size 1 (some ⟨pyb, pyo, none⟩) y.length (ints y) from (hyr.below (bchain hBr b1) (Nat.le_refl _)).more (bchain hBr b1).size)
            have HPX := hid (fun (w1 : World) (b1 : Below wr.heap.size wr w1) => (show w1.cell? ⟨w.heap.size, 0, none⟩ = some (.slice (some ⟨ba, oa, none⟩) n c) from (XA.out.below b1 XA.out.lt).cell 0))
            have HPY := hid (fun (w1 : World) (b1 : Below wr.heap.size wr w1) => (show w1.cell? ⟨w.heap.size + 1, 0, none⟩ = some (.slice (some ⟨bb, ob, none⟩) n d) from (XB.out.below b1 XB.out.lt).cell 0))
            have HPG := hid (fun (w1 : World) (b1 : Below (w2.heap.size + 1) wr w1) => (show w1.cell? ⟨w2.heap.size, 0, none⟩ = some (.slice A3 k c3) ∧ w1.frozen? ⟨w2.heap.size, 0, none⟩ = false from ⟨(hXG.below b1 (by omega)).cell 0, (hXG.below b1 (by omega)).frozen 0⟩))
            have HTL : Hid (((addR a b).take k).length = k) := by show _ = _; rw [List.length_take, HQL.out]; omega
            have HL8 : Hid (((addR a b).take k ++ [rSortZ l]).length = k + 1) := by show _ = _; rw [List.length_append, HTL.out]; rfl
            have HBr := hid hBr
            have HXG := hid hXG
            have HG := hid hG
            have hca := HCA.out wr (Below.refl _ _)
            have hcb := HCB.out wr (Below.refl _ _)
            have hbaw : ba < wr.heap.size := World.block_lt_of_cell? wr (a := ⟨ba, oa + k, none⟩) hca
            have hbbw : bb < wr.heap.size := World.block_lt_of_cell? wr (a := ⟨bb, ob + k, none⟩) hcb
            clear hx hy hxd hyd hxc hyc hxr hyr hba hbb hBr hXG hG
            go_wp2
            go_region_law (first
              | (refine step_app_ints (base := wr.heap.size) (xs := x) (by first | exact ho5 | exact own_drewA ho5) _ _ _ y (HRY.out _ (by repeat' (first | (with_reducible exact hB5) | (with_reducible refine Below.drew ?_) | (with_reducible refine below_drewN ?_ _)))) (fun h => by cases h) Tryz.underlying24 inf_int rfl rfl _ _ rfl rfl rfl (by omega) (by first | exact hz5 | (simp; omega)) ?_; intro v6 w6 ho6 hb6 hg6; have hb6w : Below wr.heap.size wr w6 := Below.trans (by repeat' (first | (with_reducible exact hB5) | (with_reducible refine Below.drew ?_) | (with_reducible refine below_drewN ?_ _))) hb6; clear hb6 hg6 hb5 ho5 hB5 hz5 hca5 hcb5 xa5 xb5)
              | (go_simp; go_wp2_with (go_at_call 141; refine (HC9.out _ ?_).mono ?_; (exact (by repeat' (first | exact Below.refl _ _ | (with_reducible first | assumption | exact Nat.le_refl _ | refine Below.alloc ?_ ?_ _ | refine Below.setCell ?_ ?_ _ | refine Below.drew ?_ | refine below_drewN ?_ _) | refine Below.trans ?_ (Below.mono (by assumption) ?_) | exact Below.size (by assumption) | omega | go_size | (simp at *; omega)))); rintro e w5 ⟨A5, c5, rfl, ho5, hb5⟩; have hB5 : Below wr.heap.size wr w5 := bchain (show Below wr.heap.size wr _ by repeat' (first | (with_reducible exact Below.refl _ _) | (with_reducible refine Below.drew ?_) | (with_reducible refine below_drewN ?_ _))) hb5; have hca5 := HCA.out w5 hB5; have hcb5 := HCB.out w5 hB5; have hz5 := hB5.size; have xa5 := HPX.out w5 hB5; have xb5 := HPY.out w5 hB5)))
            all_goals
              have hz6 := hb6w.size
              rw [HXY.out, HLl.out] at ho6
              obtain ⟨A6, c6, rfl⟩ := own_form ho6
              have HR6 := Rd.of_own ho6
              have HS6 := hid (fun (w' : World) (b1 : Below w6.heap.size w6 w') => l04Sort_any A6 L c6 l w' (by omega) ((HR6.below b1 (Nat.le_refl _)).more b1.size))
              obtain ⟨xg6, fg6⟩ := HPG.out w6 (Below.mono hb6w (by omega))
              have HB6 := hid hb6w
              have hzg6 : w2.heap.size < w6.heap.size := by omega
              clear ho6 HR6 hb6w
              go_wp2
              go_region_law (first
                | (refine step_push_row2 w7 24 (by first | rfl | simp) hG7 ho7 hum7 hM7 rfl Tryz.underlying25 inf_row rfl _ _ rfl (by rw [HTL.out]; rfl) rfl (by rw [HTL.out]; omega) (by omega) ?_; intro v8 w8 hG8 hb8; obtain ⟨A8, c8, rfl⟩ := Grid.formN hG8 HL8.out; have hb8w : Below (w2.heap.size + 1) wr w8 := Below.trans (by repeat' (first | (with_reducible exact hb7m) | (with_reducible refine Below.drew ?_) | (with_reducible refine below_drewN ?_ _) | (with_reducible refine Below.alloc ?_ ?_ _) | omega)) hb8; obtain ⟨xg8, fg8⟩ := HPG.out w8 hb8w; have hzg8 : w2.heap.size < w8.heap.size := World.block_lt_of_cell? w8 (a := ⟨w2.heap.size, 0, none⟩) xg8; clear hb8 hG7 ho7 hum7 hM7 hb7m xg7 fg7 xg7a hz7)
                | (go_simp; go_wp2_with (go_at_call 142; with_reducible refine (HS6.out _ ?_).mono ?_; (exact (by repeat' (first | exact Below.refl _ _ | (with_reducible first | assumption | exact Nat.le_refl _ | refine Below.alloc ?_ ?_ _ | refine Below.setCell ?_ ?_ _ | refine Below.drew ?_ | refine below_drewN ?_ _) | refine Below.trans ?_ (Below.mono (by assumption) ?_) | exact Below.size (by assumption) | omega | go_size | (simp at *; omega)))); rintro e w7 ⟨⟨A7, c7, rfl, ho7⟩, hb7⟩; have hb76 := bchain (show Below w6.heap.size w6 _ by repeat' (first | (with_reducible exact Below.refl _ _) | (with_reducible refine Below.drew ?_) | (with_reducible refine below_drewN ?_ _))) hb7; have hb7w := bchain HB6.out hb76; have hz7 := hb7w.size; have hG7 := Grid.fitv (HG.out.below hb7w) HTL.out; have hum7 := own_ge ho7 (show wr.heap.size ≤ _ by first | exact hz6 | (simp; omega)); have ho7 := own_more ho7 (show w2.heap.size + 1 ≤ _ by first | omega | (simp; omega)); have hM7 := hz7; have hb7m := Below.mono hb7w (show w2.heap.size + 1 ≤ wr.heap.size by omega); obtain ⟨xg7, fg7⟩ := HPG.out w7 hb7m; have xg7a := (HPG.out (w7.alloc (Obj.cells #[.slice A7 (rSortZ l).length c7] 24)) (Below.alloc hb7m (by omega) _)).1; clear hb7 hb76)))
              all_goals
                rw [← HST.out] at hG8
                have HG8 := hid (hG8.setk (p := ⟨w2.heap.size, 0, none⟩) (by show w2.heap.size < _; omega) (.slice A8 (k + 1) c8)).size
                have HX8 := hid ((HXG.out.below hb8w (by omega)).set_ 0 (.slice A8 (k + 1) c8))
                have HB8 : Hid (Below w2.heap.size w2 w8) := hb0.trans (Below.mono hb8w (by omega))
                clear hG8 hb8w HST HL8 HS6 HB6 HC9 HRY HPX HPY HPG HCA HCB
                go_wp2
                go_roundw
                case rel => exact hid ⟨k + 1, A8, c8, by omega, by go_num, HX8.out, HG8.out, (by repeat' (first | exact Below.refl _ _ | (with_reducible first | assumption | exact Nat.le_refl _ | refine Below.alloc ?_ ?_ _ | refine Below.setCell ?_ ?_ _ | refine Below.drew ?_ | refine below_drewN ?_ _) | refine Below.trans ?_ (Below.mono (by assumption) ?_) | exact Below.size (by assumption) | omega | go_size | (simp at *; omega)))⟩
                case measure => simp [intOf]; omega
          · have hkn : k = n := by omega
            have hE : (addR a b).take k = addR a b := List.take_of_length_le (by rw [HQL.out]; omega)
            rw [hE] at hG
            have HG := hid hG
            have hHL : ∀ r ∈ addR a b, r.length ≤ 1099511627776 := fun r hr => by
              obtain ⟨j, hj⟩ := List.getElem?_of_mem hr
              have hjl := (List.getElem?_eq_some_iff.1 hj).1
              rw [HQL.out] at hjl
              have hja : a[j]? = some (a[j]'(by rw [HLA.out]; exact hjl)) := List.getElem?_eq_getElem _
              have hjb : b[j]? = some (b[j]'(by rw [HLB.out]; exact hjl)) := List.getElem?_eq_getElem _
              rw [addR, List.getElem?_zipWith, hja, hjb] at hj
              injection hj with hj
              have h1 := (mstOk_iff.1 (HMA.out _ (List.mem_of_getElem? hja))).1
              have h2 := (mstOk_iff.1 (HMB.out _ (List.mem_of_getElem? hjb))).1
              have h3 := (rSortZ_len (l := a[j]'(by rw [HLA.out]; exact hjl) ++ b[j]'(by rw [HLB.out]; exact hjl)) (by rw [List.length_append]; omega)).2
              rw [List.length_append] at h3
              rw [← hj]; omega
            have hrd := hG.read
            have HV := hid (l04Ok_any w2.heap.size A3 n c3 (addR a b) wr (by omega) hHL (by rw [← hkn]; exact hXG) (by rw [← hkn]; exact hrd))
            obtain ⟨pq, hpq⟩ : ∃ pq, mOk (addR a b) = pq := ⟨_, rfl⟩
            rw [hpq] at HV HZ
            have HXG := hid hXG
            clear hE hrd hHL hpq hXG hG
            subst hkn
            go_wp2_with fail
            refine HV.out.mono ?_
            rintro e w5 ⟨rfl, hb5⟩
            have hB5 := bchain hBr hb5
            have hz5 := hb5.size
            have HG5 := hid (((HG.out.below hb5).setk (p := ⟨w.heap.size + 1 + 1, 0, none⟩) (by show w.heap.size + 1 + 1 < _; omega) (.slice A3 k c3)).more (show w.heap.size ≤ w2.heap.size + 1 by omega)).size
            have xr5 : w5.cell? ⟨w.heap.size + 1 + 1, 0, none⟩ = some (.slice none 0 0) := (XR.out.below hb5 XR.out.lt).cell 0
            have fr5 := (XR.out.below hb5 XR.out.lt).frozen 0
            have xg5 : w5.cell? ⟨w2.heap.size, 0, none⟩ = some (.slice A3 k c3) := (HXG.out.below hb5 HXG.out.lt).cell 0
            clear HV HG hb5
            cases pq with
            | false =>
              go_wp2
              refine bodyPost_ret (v := .tuple #[.agg #[.slice none 0 0], .int .i64 5]) ?_ rfl ?_
              · simp (maxDischargeDepth := 8) [results, Tryz.results126, go_sem, *]
              rw [HZ.out]
              exact ⟨AmRes.no _ _ _, (by repeat' (first | exact Below.refl _ _ | (with_reducible first | assumption | exact Nat.le_refl _ | refine Below.alloc ?_ ?_ _ | refine Below.setCell ?_ ?_ _ | refine Below.drew ?_ | refine below_drewN ?_ _) | refine Below.trans ?_ (Below.mono (by assumption) ?_) | exact Below.size (by assumption) | omega | go_size | (simp at *; omega)))⟩
            | true =>
              go_wp2
              refine bodyPost_ret (v := .tuple #[.agg #[.slice A3 k c3], .int .i64 0]) ?_ rfl ?_
              · simp (maxDischargeDepth := 8) [results, Tryz.results126, go_sem, *]
              rw [HZ.out]
              exact ⟨AmRes.mk HQL.out HG5.out, (by repeat' (first | exact Below.refl _ _ | (with_reducible first | assumption | exact Nat.le_refl _ | refine Below.alloc ?_ ?_ _ | refine Below.setCell ?_ ?_ _ | refine Below.drew ?_ | refine below_drewN ?_ _) | refine Below.trans ?_ (Below.mono (by assumption) ?_) | exact Below.size (by assumption) | omega | go_size | (simp at *; omega)))⟩
      · have HZ := hid (rAdd_6 HPA.out HPB.out (by rw [HLA.out, HLB.out]; exact hnm))
        have hne : ((n : Int) != (m : Int)) = true := by simp; omega
        have hne2 : ((n : Int) == (m : Int)) = false := by simp; omega
        go_wp2
        refine bodyPost_ret (v := .tuple #[.agg #[.slice none 0 0], .int .i64 6]) ?_ rfl ?_
        · simp (maxDischargeDepth := 8) [results, Tryz.results126, go_sem, *]
        rw [HZ.out]
        exact ⟨AmRes.no _ _ _, (by repeat' (first | exact Below.refl _ _ | (with_reducible first | assumption | exact Nat.le_refl _ | refine Below.alloc ?_ ?_ _ | refine Below.setCell ?_ ?_ _ | refine Below.drew ?_ | refine below_drewN ?_ _) | refine Below.trans ?_ (Below.mono (by assumption) ?_) | exact Below.size (by assumption) | omega | go_size | (simp at *; omega)))⟩
end Go.Proofs.YtgphkfnobmponaaGreat
