/- Several texts in one: Wb, We, Qm, Qh. -/
import Derived.Test.YtgphkfnobmponaaGreatG40
import Derived.Test.YtgphkfnobmponaaGreatG27
import Derived.Test.YtgphkfnobmponaaGreatYy
import Derived.Test.YtgphkfnobmponaaGreatG11
import Derived.Test.YtgphkfnobmponaaGreatQg
/- NotationBeats: contracts, and the law's walk. -/
namespace Go.Proofs.YtgphkfnobmponaaGreat
open Go.RowKit
set_option linter.unusedVariables false

theorem ntOk_eb {x : Note} (h : ntOk x = true) : ebN x = true ∧ swN x = true := by
  unfold ntOk at h
  rw [Bool.and_eq_true] at h; exact h
theorem ntOk_kind {x : Note} (h : ntOk x = true) : x.1 = 1 ∨ x.1 = 2 ∨ x.1 = 3 ∨ x.1 = 4 := by
  have h2 := (ntOk_eb h).2
  have hk : x.1 = 1 ∨ x.1 = 2 ∨ x.1 = 3 ∨ x.1 = 4 ∨ (x.1 ≠ 1 ∧ x.1 ≠ 2 ∧ x.1 ≠ 3 ∧ x.1 ≠ 4) := by omega
  rcases hk with h | h | h | h | ⟨a, b, c, d⟩
  · exact .inl h
  · exact .inr (.inl h)
  · exact .inr (.inr (.inl h))
  · exact .inr (.inr (.inr h))
  · rw [swN_0 a b c d] at h2; cases h2
end Go.Proofs.YtgphkfnobmponaaGreat

/- NotationText: contracts, and the law's walk. -/
namespace Go.Proofs.YtgphkfnobmponaaGreat
open Go.RowKit
set_option linter.unusedVariables false

def rNotationText (x : Note) : List UInt8 := if ntOk x then (if x.1 = 1 then x.2.1.map hexU else if x.1 = 2 then mT x.2.2.1 else if x.1 = 3 then syT x.2.2.2.1 else paT x.2.2.2.2) else []
theorem patS_st {p : List Int} (h : okP p = true) : patS p = st (p.map hexU) := by
  unfold patS
  rw [← nb_hex (thOk_iff (okP_th h)).1, nb_st]
set_option maxHeartbeats 1000000 in
theorem l02Text_any (A : Option Addr) (n c : Nat) (p : List Int) (w : World) (hp : okP p = true) (hr : Rd w w.heap.size 1 A n (ints p)) :
    Calls Tryz.prog 88 #[.slice A n c] w fun e w' => e = .returned (.string (st (p.map hexU))) ∧ Below w.heap.size w w' := by
  have hlen := hr.len
  obtain ⟨hbd, h1, h12⟩ := thOk_iff (okP_th hp)
  rw [hlen] at h1 h12
  have HBD := hid hbd
  have hst : Hid ((⟨#[]⟩ : ByteArray) = st ((p.take 0).map hexU)) := rfl
  have hz : ({ data := #[48, 49, 50, 51, 52, 53, 54, 55, 56, 57, 97, 98, 99, 100, 101, 102] } : ByteArray).size = 16 := rfl
  have HR := hid hr
  have HL := hid hlen
  clear hr hp hlen hbd
  go_enter Tryz.func88, Tryz.ntmps88
  go_wp2
  go_loopw [4, 5] (fun s i wr => Hid (∃ k : Nat, k ≤ n ∧ i = .int .i64 k ∧ s = .string (st ((p.take k).map hexU)) ∧ Below w.heap.size w wr)) (fun _ i _ => n - (intOf i).toNat)
  case atStart => exact hid ⟨0, Nat.zero_le _, rfl, by rw [hst.out], (by repeat' (first | exact Below.refl _ _ | (with_reducible first | assumption | exact Nat.le_refl _ | refine Below.alloc ?_ ?_ _ | refine Below.setCell ?_ ?_ _ | refine Below.drew ?_ | refine below_drewN ?_ _) | refine Below.trans ?_ (Below.mono (by assumption) ?_) | exact Below.size (by assumption) | omega | go_size | (simp at *; omega)))⟩
  case round =>
    obtain ⟨k, hk, rfl, rfl, hb0⟩ := hrel.out
    clear hrel hst
    by_cases hlt : k < n
    · obtain ⟨b, off, y, rfl, hb, hy, hd, c0⟩ := (HR.out.below hb0 (Nat.le_refl _)).at_ hlt
      obtain ⟨y0, y1⟩ := HBD.out y (List.mem_of_getElem? hy)
      obtain ⟨V, rfl⟩ := Int.eq_ofNat_of_zero_le y0
      have he := hexS_ext (n := V) (by omega)
      have h1' : (V : Int) ≤ (V : Int) + 1 := by omega
      have h2' : (V : Int) + 1 ≤ 16 := by omega
      have hstep := mapU_step hy
      have HZ : Hid (st ((p.take (k + 1)).map hexU) = st ((p.take k).map hexU) ++ st [hexU (V : Int)]) := by show _ = _; rw [hstep, st_append]
      have hol : (st ((p.take k).map hexU)).size ≤ 12 := by rw [st_size, List.length_map, List.length_take]; omega
      have hone : (st [hexU (V : Int)]).size = 1 := by rw [st_size]; rfl
      have hbw : b < wr.heap.size := by have := hb0.size; omega
      have hki : (k : Int) < (n : Int) := by omega
      obtain ⟨so, hso⟩ : ∃ so, st ((p.take k).map hexU) = so := ⟨_, rfl⟩
      rw [hso] at HZ hol ⊢
      clear hy hd hb hstep hso
      go_wp2
      go_quiet (fail)
      go_wp2
      go_roundw
      case rel => exact hid ⟨k + 1, by omega, by go_num, by rw [HZ.out], (by repeat' (first | exact Below.refl _ _ | (with_reducible first | assumption | exact Nat.le_refl _ | refine Below.alloc ?_ ?_ _ | refine Below.setCell ?_ ?_ _ | refine Below.drew ?_ | refine below_drewN ?_ _) | refine Below.trans ?_ (Below.mono (by assumption) ?_) | exact Below.size (by assumption) | omega | go_size | (simp at *; omega)))⟩
      case measure => simp [intOf]; omega
    · have HZ : Hid (st (p.map hexU) = st ((p.take k).map hexU)) := by show _ = _; rw [List.take_of_length_le (by rw [HL.out]; omega)]
      go_wp2
      go_ret
      exact ⟨ret_str HZ.out.symm, hb0⟩
set_option maxRecDepth 100000 in
set_option maxHeartbeats 4000000 in
theorem NotationText_any (k : Int) (p : List Int) (m : List (List Int)) (y : List Beat) (q1 q2 : List PT) (s : Six) (w : World) (hs : NtSm (k, p, m, y, (q1, q2))) (h : NtRd (k, p, m, y, (q1, q2)) s w) :
    Calls Tryz.prog 6 #[.agg #[.int .i64 k, .slice s.A p.length s.c, .slice s.A2 m.length s.c2, .slice s.A3 y.length s.c3, .slice s.A4 q1.length s.c4, .slice s.A5 q2.length s.c5]] w fun e w' => e = .returned (.string (st (rNotationText (k, p, m, y, (q1, q2))))) ∧ Below w.heap.size w w' := by
  obtain ⟨A, c, A2, c2, A3, c3, A4, c4, A5, c5⟩ := s
  simp only
  have hB0 : Below w.heap.size w (w.alloc (Obj.cells #[.int .i64 k, .slice A p.length c, .slice A2 m.length c2, .slice A3 y.length c3, .slice A4 q1.length c4, .slice A5 q2.length c5] 33)) := Below.alloc (Below.refl _ _) (Nat.le_refl _) _
  have hX := Bx.new w 33 #[.int .i64 k, .slice A p.length c, .slice A2 m.length c2, .slice A3 y.length c3, .slice A4 q1.length c4, .slice A5 q2.length c5]
  have hV := ValidNotation_any k p m y q1 q2 ⟨A, c, A2, c2, A3, c3, A4, c4, A5, c5⟩ (w.alloc (Obj.cells #[.int .i64 k, .slice A p.length c, .slice A2 m.length c2, .slice A3 y.length c3, .slice A4 q1.length c4, .slice A5 q2.length c5] 33)) hs (h.below hB0)
  obtain ⟨l1, ⟨l2, l3, _⟩, l4, l5, l6⟩ := hs
  simp only at l1 l2 l3 l4 l5 l6 hV
  have H := fun (w1 : World) (b : Below w.heap.size w w1) => h.below b
  unfold NtRd at H
  simp only at H
  have C1 := hid (fun (hp : okP p = true) (w1 : World) (b : Below w.heap.size w w1) => by have := PatternText_ok A p.length c p w1 hp (H w1 b).1; rw [patS_st hp] at this; exact this)
  have C2 := hid (fun (hp : mOk m = true) (w1 : World) (b : Below w.heap.size w w1) => MultiText_ok A2 m.length c2 m w1 hp (H w1 b).2.1)
  have C3 := hid (fun (hp : syOk y = true) (w1 : World) (b : Below w.heap.size w w1) => by have := SyncText_any A3 y.length c3 y w1 (by omega) (H w1 b).2.2.1; rw [rSyncText, if_pos hp] at this; exact this)
  have C4 := hid (fun (hp : psOk (q1, q2) = true) (w1 : World) (b : Below w.heap.size w w1) => by have := PassingText_any A4 A5 q1.length c4 q2.length c5 (q1, q2) w1 (by omega) (by omega) (H w1 b).2.2.2.1 (H w1 b).2.2.2.2; rw [rPassingText, if_pos hp] at this; exact this)
  obtain ⟨x, hx⟩ : ∃ x : Note, (k, p, m, y, (q1, q2)) = x := ⟨_, rfl⟩
  rw [hx] at hV ⊢
  obtain ⟨b, hb⟩ : ∃ b, ntOk x = b := ⟨_, rfl⟩
  have HR0 : Hid (b = false → rNotationText x = []) := fun h => by rw [rNotationText, hb, h]; rfl
  have HR1 : Hid (b = true → k = 1 → okP p = true ∧ rNotationText x = p.map hexU) := fun h hk => by
    have h2 := (ntOk_eb (x := x) (by rw [hb, h])).2
    subst hx
    rw [swN_1 hk] at h2
    exact ⟨h2, by rw [rNotationText, hb, h]; simp only; rw [if_pos trivial, if_pos hk]⟩
  have HR2 : Hid (b = true → k = 2 → mOk m = true ∧ rNotationText x = mT m) := fun h hk => by
    have h2 := (ntOk_eb (x := x) (by rw [hb, h])).2
    subst hx
    rw [swN_2 hk] at h2
    exact ⟨h2, by rw [rNotationText, hb, h]; simp only; rw [if_pos trivial, if_neg (by omega), if_pos hk]⟩
  have HR3 : Hid (b = true → k = 3 → syOk y = true ∧ rNotationText x = syT y) := fun h hk => by
    have h2 := (ntOk_eb (x := x) (by rw [hb, h])).2
    subst hx
    rw [swN_3 hk] at h2
    exact ⟨h2, by rw [rNotationText, hb, h]; simp only; rw [if_pos trivial, if_neg (by omega), if_neg (by omega), if_pos hk]⟩
  have HR4 : Hid (b = true → k = 4 → psOk (q1, q2) = true ∧ rNotationText x = paT (q1, q2)) := fun h hk => by
    have h2 := (ntOk_eb (x := x) (by rw [hb, h])).2
    subst hx
    rw [swN_4 hk] at h2
    exact ⟨h2, by rw [rNotationText, hb, h]; simp only; rw [if_pos trivial, if_neg (by omega), if_neg (by omega), if_neg (by omega)]⟩
  have HK : Hid (b = true → k = 1 ∨ k = 2 ∨ k = 3 ∨ k = 4) := fun h => by
    have := ntOk_kind (x := x) (by rw [hb, h]); rw [← hx] at this; exact this
  rw [hb] at hV
  have hV := hid hV
  have HB0 := hid hB0
  have HX := hid hX
  generalize rNotationText x = R at *
  clear h H hB0 hX hb hx
  go_enter Tryz.func6, Tryz.ntmps6
  go_wp2_with fail
  refine hV.out.mono ?_
  rintro e w1 ⟨rfl, hb1⟩
  have hB1 := bchain HB0.out hb1
  have hX1 := HX.out.below hb1 HX.out.lt
  obtain ⟨⟨a0, a1, a2, a3, a4, a5⟩, -⟩ := zc hX1
  have hl1 := hX1.lt
  clear hV HX HB0 hb1 hX1
  cases b
  · have HZ : Hid (st R = ⟨#[]⟩) := by show _ = _; rw [HR0.out rfl]; rfl
    clear HR0 HR1 HR2 HR3 HR4 HK C1 C2 C3 C4
    go_wp2
    go_ret
    exact ⟨ret_str HZ.out.symm, hB1⟩
  · have hk := HK.out rfl
    clear HK HR0
    rcases hk with rfl | rfl | rfl | rfl
    · obtain ⟨hv, hr⟩ := HR1.out rfl rfl
      have HZ := hid hr
      have hD := hid (C1.out hv w1 hB1)
      clear C2 HR2 C3 HR3 C4 HR4 C1 HR1 hr hv
      go_wp2_with fail
      refine hD.out.mono ?_
      rintro e w2 ⟨rfl, hb2⟩
      have hB2 := bchain hB1 hb2
      clear hD hb2 a0 a1 a2 a3 a4 a5
      go_wp2
      go_ret
      exact ⟨ret_str (by rw [HZ.out]), hB2⟩
    · obtain ⟨hv, hr⟩ := HR2.out rfl rfl
      have HZ := hid hr
      have hD := hid (C2.out hv w1 hB1)
      clear C1 HR1 C3 HR3 C4 HR4 C2 HR2 hr hv
      go_wp2_with fail
      refine hD.out.mono ?_
      rintro e w2 ⟨rfl, hb2⟩
      have hB2 := bchain hB1 hb2
      clear hD hb2 a0 a1 a2 a3 a4 a5
      go_wp2
      go_ret
      exact ⟨ret_str (by rw [HZ.out]), hB2⟩
    · obtain ⟨hv, hr⟩ := HR3.out rfl rfl
      have HZ := hid hr
      have hD := hid (C3.out hv w1 hB1)
      clear C1 HR1 C2 HR2 C4 HR4 C3 HR3 hr hv
      go_wp2_with fail
      refine hD.out.mono ?_
      rintro e w2 ⟨rfl, hb2⟩
      have hB2 := bchain hB1 hb2
      clear hD hb2 a0 a1 a2 a3 a4 a5
      go_wp2
      go_ret
      exact ⟨ret_str (by rw [HZ.out]), hB2⟩
    · obtain ⟨hv, hr⟩ := HR4.out rfl rfl
      have HZ := hid hr
      have hD := hid (C4.out hv w1 hB1)
      clear C1 HR1 C2 HR2 C3 HR3 C4 HR4 hr hv
      go_wp2_with fail
      refine hD.out.mono ?_
      rintro e w2 ⟨rfl, hb2⟩
      have hB2 := bchain hB1 hb2
      clear hD hb2 a0 a1 a2 a3 a4 a5
      go_wp2
      go_ret
      exact ⟨ret_str (by rw [HZ.out]), hB2⟩
set_option maxRecDepth 100000 in
set_option maxHeartbeats 4000000 in
theorem l07Text_any (g : Nat) (k : Int) (p : List Int) (m : List (List Int)) (y : List Beat) (q1 q2 : List PT) (s : Six) (w : World) (hs : NtSm (k, p, m, y, (q1, q2))) (hx : Bx w g 33 #[.int .i64 k, .slice s.A p.length s.c, .slice s.A2 m.length s.c2, .slice s.A3 y.length s.c3, .slice s.A4 q1.length s.c4, .slice s.A5 q2.length s.c5]) (h : NtRd (k, p, m, y, (q1, q2)) s w) (hv : ntOk (k, p, m, y, (q1, q2)) = true) :
    Calls Tryz.prog 48 #[.pointer (some ⟨g, 0, none⟩)] w fun e w' => e = .returned (.string (st (rNotationText (k, p, m, y, (q1, q2))))) ∧ Below w.heap.size w w' := by
  obtain ⟨A, c, A2, c2, A3, c3, A4, c4, A5, c5⟩ := s
  obtain ⟨l1, ⟨l2, l3, _⟩, l4, l5, l6⟩ := hs
  obtain ⟨H1, H2, H3, H4, H5⟩ := h
  simp only at l1 l2 l3 l4 l5 l6 hx H1 H2 H3 H4 H5
  have hgl := hx.lt
  obtain ⟨⟨a0, a1, a2, a3, a4, a5⟩, -⟩ := zc hx
  have C1 := hid (fun (hp : okP p = true) => l02Text_any A p.length c p w hp H1)
  have C2 := hid (fun (hp : mOk m = true) => (l04Text_at g 2 A2 m.length c2 m w (mOk_iff.1 hp).1 (Bo.one hgl a2) H2).mono fun e w' (h : e = .returned (.string (st (mT m))) ∧ w = w') => (⟨h.1, by rw [← h.2]; exact Below.refl _ _⟩ : e = .returned (.string (st (mT m))) ∧ Below w.heap.size w w'))
  have C3 := hid (fun (hp : syOk y = true) => l05Text_any A3 y.length c3 y w (syOk_b hp) H3)
  have C4 := hid (fun (hp : psOk (q1, q2) = true) => l06Both_at g 4 A4 A5 q1.length c4 q2.length c5 (q1, q2) w (psOk_iff.1 hp).1 (Bo.two hgl a4 a5) H4 H5)
  have hV := hid hv
  replace hV := hV.out
  obtain ⟨x, hx'⟩ : ∃ x : Note, (k, p, m, y, (q1, q2)) = x := ⟨_, rfl⟩
  rw [hx'] at hV ⊢
  obtain ⟨b, hb⟩ : ∃ b, ntOk x = b := ⟨_, rfl⟩
  have HR0 : Hid (b = false → rNotationText x = []) := fun h => by rw [rNotationText, hb, h]; rfl
  have HR1 : Hid (b = true → k = 1 → okP p = true ∧ rNotationText x = p.map hexU) := fun h hk => by
    have h2 := (ntOk_eb (x := x) (by rw [hb, h])).2
    subst hx'
    rw [swN_1 hk] at h2
    exact ⟨h2, by rw [rNotationText, hb, h]; simp only; rw [if_pos trivial, if_pos hk]⟩
  have HR2 : Hid (b = true → k = 2 → mOk m = true ∧ rNotationText x = mT m) := fun h hk => by
    have h2 := (ntOk_eb (x := x) (by rw [hb, h])).2
    subst hx'
    rw [swN_2 hk] at h2
    exact ⟨h2, by rw [rNotationText, hb, h]; simp only; rw [if_pos trivial, if_neg (by omega), if_pos hk]⟩
  have HR3 : Hid (b = true → k = 3 → syOk y = true ∧ rNotationText x = syT y) := fun h hk => by
    have h2 := (ntOk_eb (x := x) (by rw [hb, h])).2
    subst hx'
    rw [swN_3 hk] at h2
    exact ⟨h2, by rw [rNotationText, hb, h]; simp only; rw [if_pos trivial, if_neg (by omega), if_neg (by omega), if_pos hk]⟩
  have HR4 : Hid (b = true → k = 4 → psOk (q1, q2) = true ∧ rNotationText x = paT (q1, q2)) := fun h hk => by
    have h2 := (ntOk_eb (x := x) (by rw [hb, h])).2
    subst hx'
    rw [swN_4 hk] at h2
    exact ⟨h2, by rw [rNotationText, hb, h]; simp only; rw [if_pos trivial, if_neg (by omega), if_neg (by omega), if_neg (by omega)]⟩
  have HK : Hid (b = true → k = 1 ∨ k = 2 ∨ k = 3 ∨ k = 4) := fun h => by
    have := ntOk_kind (x := x) (by rw [hb, h]); rw [← hx'] at this; exact this
  rw [hb] at hV
  subst hV
  generalize rNotationText x = R at *
  have hk := HK.out rfl
  clear HK HR0 hb hx' hx H1 H2 H3 H4 H5
  rcases hk with rfl | rfl | rfl | rfl
  · obtain ⟨hv, hr⟩ := HR1.out rfl rfl
    have HZ := hid hr
    have hD := hid (C1.out hv)
    clear C2 HR2 C3 HR3 C4 HR4 C1 HR1 hr hv
    go_enter Tryz.func48, Tryz.ntmps48
    go_wp2_with fail
    refine hD.out.mono ?_
    rintro e w2 ⟨rfl, hb2⟩
    clear hD a0 a1 a2 a3 a4 a5
    go_wp2
    go_ret
    exact ⟨ret_str (by rw [HZ.out]), hb2⟩
  · obtain ⟨hv, hr⟩ := HR2.out rfl rfl
    have HZ := hid hr
    have hD := hid (C2.out hv)
    clear C1 HR1 C3 HR3 C4 HR4 C2 HR2 hr hv
    go_enter Tryz.func48, Tryz.ntmps48
    go_wp2_with fail
    refine hD.out.mono ?_
    rintro e w2 ⟨rfl, hb2⟩
    clear hD a0 a1 a2 a3 a4 a5
    go_wp2
    go_ret
    exact ⟨ret_str (by rw [HZ.out]), hb2⟩
  · obtain ⟨hv, hr⟩ := HR3.out rfl rfl
    have HZ := hid hr
    have hD := hid (C3.out hv)
    clear C1 HR1 C2 HR2 C4 HR4 C3 HR3 hr hv
    go_enter Tryz.func48, Tryz.ntmps48
    go_wp2_with fail
    refine hD.out.mono ?_
    rintro e w2 ⟨rfl, hb2⟩
    clear hD a0 a1 a2 a3 a4 a5
    go_wp2
    go_ret
    exact ⟨ret_str (by rw [HZ.out]), hb2⟩
  · obtain ⟨hv, hr⟩ := HR4.out rfl rfl
    have HZ := hid hr
    have hD := hid (C4.out hv)
    clear C1 HR1 C2 HR2 C3 HR3 C4 HR4 hr hv
    go_enter Tryz.func48, Tryz.ntmps48
    go_wp2_with fail
    refine hD.out.mono ?_
    rintro e w2 ⟨rfl, hb2⟩
    clear hD a0 a1 a2 a3 a4 a5
    go_wp2
    go_ret
    exact ⟨ret_str (by rw [HZ.out]), hb2⟩
set_option maxRecDepth 100000 in
set_option maxHeartbeats 4000000 in
theorem specNotationText_any (k : Int) (p : List Int) (m : List (List Int)) (y : List Beat) (q1 q2 : List PT) (s : Six) (w : World) (hs : NtSm (k, p, m, y, (q1, q2))) (h : NtRd (k, p, m, y, (q1, q2)) s w) :
    Calls Tryz.prog 15 #[.agg #[.int .i64 k, .slice s.A p.length s.c, .slice s.A2 m.length s.c2, .slice s.A3 y.length s.c3, .slice s.A4 q1.length s.c4, .slice s.A5 q2.length s.c5]] w fun e w' => e = .returned (.string (st (rNotationText (k, p, m, y, (q1, q2))))) ∧ Below w.heap.size w w' := by
  obtain ⟨A, c, A2, c2, A3, c3, A4, c4, A5, c5⟩ := s
  simp only
  have hB0 : Below w.heap.size w (w.alloc (Obj.cells #[.int .i64 k, .slice A p.length c, .slice A2 m.length c2, .slice A3 y.length c3, .slice A4 q1.length c4, .slice A5 q2.length c5] 33)) := Below.alloc (Below.refl _ _) (Nat.le_refl _) _
  have hX := Bx.new w 33 #[.int .i64 k, .slice A p.length c, .slice A2 m.length c2, .slice A3 y.length c3, .slice A4 q1.length c4, .slice A5 q2.length c5]
  have hV := l07Ok_any w.heap.size k p m y q1 q2 ⟨A, c, A2, c2, A3, c3, A4, c4, A5, c5⟩ _ hs hX (h.below hB0)
  have HT := hid (fun (hv : ntOk (k, p, m, y, (q1, q2)) = true) (w1 : World) (b : Below w.heap.size w w1) (hx : Bx w1 w.heap.size 33 #[.int .i64 k, .slice A p.length c, .slice A2 m.length c2, .slice A3 y.length c3, .slice A4 q1.length c4, .slice A5 q2.length c5]) => l07Text_any w.heap.size k p m y q1 q2 ⟨A, c, A2, c2, A3, c3, A4, c4, A5, c5⟩ w1 hs hx (h.below b) hv)
  obtain ⟨b, hb⟩ : ∃ b, ntOk (k, p, m, y, (q1, q2)) = b := ⟨_, rfl⟩
  have HR0 : Hid (b = false → st (rNotationText (k, p, m, y, (q1, q2))) = ⟨#[]⟩) := fun h => by rw [rNotationText, hb, h]; rfl
  rw [hb] at hV HT
  have hV := hid hV
  have HB0 := hid hB0
  have HX := hid hX
  generalize rNotationText (k, p, m, y, (q1, q2)) = R at *
  clear h hB0 hX hb hs
  go_enter Tryz.func15, Tryz.ntmps15
  go_wp2_with fail
  refine hV.out.mono ?_
  rintro e w1 ⟨rfl, hb1⟩
  have hB1 := bchain HB0.out hb1
  have hX1 := HX.out.below hb1 HX.out.lt
  have HX1 := hid hX1
  clear hV HX HB0 hb1 hX1
  cases b
  · have HZ := hid (HR0.out rfl)
    clear HR0 HT HX1
    go_wp2
    go_ret
    exact ⟨ret_str HZ.out.symm, hB1⟩
  · have hD := hid (HT.out rfl w1 hB1 HX1.out)
    clear HR0 HT HX1
    go_wp2_with fail
    refine hD.out.mono ?_
    rintro e w2 ⟨rfl, hb2⟩
    have hB2 := bchain hB1 hb2
    clear hD hb2
    go_wp2
    go_ret
    exact ⟨rfl, hB2⟩
end Go.Proofs.YtgphkfnobmponaaGreat

/- Contract of l06Draw. -/
namespace Go.Proofs.YtgphkfnobmponaaGreat
open Go.RowKit
set_option linter.unusedVariables false

theorem own_askP {w w' : World} {b n g m c K : Nat} {A : Option Addr} {zs : List Int} {v : Value} {xs : List Value} (h : w.ownsRow b 83 2 v n xs) (hs : Src w g A m c zs K) (hg : w.grownBy w' (some g)) : w'.ownsRow b 83 2 v n xs := by
  obtain ⟨_, _, hb, _⟩ := hs
  exact h.kept hg (.inr (own_bne h hb (by decide)))
/-- A drawn pattern: its rows are the call's own. -/
def PgAt (B N : Nat) (w : World) (gA cA gB cB : Nat) : Prop := ∃ a b : List PT, w.ownsRow B 83 2 (.slice (some ⟨gA, 0, none⟩) N cA) N (ths a) ∧ w.ownsRow B 83 2 (.slice (some ⟨gB, 0, none⟩) N cB) N (ths b)
theorem PgAt.below {B N gA cA gB cB : Nat} {w w' : World} (h : PgAt B N w gA cA gB cB) (hb : Below w.heap.size w w') : PgAt B N w' gA cA gB cB := by
  obtain ⟨a, b, h1, h2⟩ := h
  exact ⟨a, b, own_below h1 hb, own_below h2 hb⟩
theorem PgAt.low {B M N gA cA gB cB : Nat} {w w' : World} (h : PgAt B N w gA cA gB cB) (hb : Below M w w') (hA : gA < M) (hB : gB < M) : PgAt B N w' gA cA gB cB := by
  obtain ⟨a, b, h1, h2⟩ := h
  refine ⟨a, b, own_low h1 hb (fun g hg => ?_), own_low h2 hb (fun g hg => ?_)⟩
  · have e : gA = g := by simpa [Value.ownBlock] using hg
    omega
  · have e : gB = g := by simpa [Value.ownBlock] using hg
    omega
theorem PgAt.ask {B N gA cA gB cB g m c K : Nat} {A : Option Addr} {zs : List Int} {w w' : World} (h : PgAt B N w gA cA gB cB) (hs : Src w g A m c zs K) (hg : w.grownBy w' (some g)) : PgAt B N w' gA cA gB cB := by
  obtain ⟨a, b, h1, h2⟩ := h
  exact ⟨a, b, own_askP h1 hs hg, own_askP h2 hs hg⟩
theorem PgAt.more {B B' N gA cA gB cB : Nat} {w : World} (h : PgAt B N w gA cA gB cB) (hB : B' ≤ B) : PgAt B' N w gA cA gB cB := by
  obtain ⟨a, b, h1, h2⟩ := h
  exact ⟨a, b, own_more h1 hB, own_more h2 hB⟩
theorem PgAt.setq {B N gA cA gB cB : Nat} {w : World} (h : PgAt B N w gA cA gB cB) {p : Addr} (hp : p.block < B) (u : Value) : PgAt B N (w.setCell p u) gA cA gB cB := by
  obtain ⟨a, b, h1, h2⟩ := h
  exact ⟨a, b, own_setq h1 hp u, own_setq h2 hp u⟩
theorem PgAt.setb {B N gA cA gB cB g i : Nat} {w : World} {cs : Array Value} (h : PgAt B N w gA cA gB cB) (hx : Bx w g 31 cs) (u : Value) : PgAt B N (w.setCell ⟨g, i, none⟩ u) gA cA gB cB := by
  obtain ⟨a, b, h1, h2⟩ := h
  exact ⟨a, b, h1.kept (grown_set w g i u) (.inr (own_bne h1 hx (by decide))), h2.kept (grown_set w g i u) (.inr (own_bne h2 hx (by decide)))⟩
theorem PgAt.lt {B N gA cA gB cB : Nat} {w : World} (h : PgAt B N w gA cA gB cB) : (B ≤ gA ∧ gA < w.heap.size) ∧ (B ≤ gB ∧ gB < w.heap.size) := by
  obtain ⟨a, b, h1, h2⟩ := h
  exact ⟨h1.lt gA rfl, h2.lt gB rfl⟩
theorem bx_p0 {w : World} {g : Nat} {t : TypeId} {u v : Value} (h : Bx w g t #[u, v]) : w.cell? ⟨g, 0, none⟩ = some u := h.cell 0
theorem bx_p1 {w : World} {g : Nat} {t : TypeId} {u v : Value} (h : Bx w g t #[u, v]) : w.cell? ⟨g, 1, none⟩ = some v := h.cell 1
theorem Src.setp {w : World} {g : Nat} {A : Option Addr} {n c : Nat} {xs : List Int} {K : Nat} (h : Src w g A n c xs K) {p : Addr} (u : Value) (hq : g < p.block) : Src (w.setCell p u) g A n c xs K := by
  obtain ⟨a, s, h1, h2, h3, h4, h5, h6, h7, h8⟩ := h
  exact ⟨a, s, h1.far (by omega) u, h2, h3, h4, h5, h6, h7.keep fun q hq' => (Below.setCell (Below.refl p.block w) (Nat.le_refl _) u).cell (by omega), h8⟩
end Go.Proofs.YtgphkfnobmponaaGreat

/- Contracts of the reference's ReadPassing. -/
namespace Go.Proofs.YtgphkfnobmponaaGreat
open Go.RowKit
set_option linter.unusedVariables false

set_option maxRecDepth 100000 in
set_option maxHeartbeats 4000000 in
theorem specReadPassing_any (s : ByteArray) (w : World) (hs : s.size ≤ 1099511627775) :
    Calls Tryz.prog 81 #[.string s] w fun e w' => PaRes w.heap.size (rReadPassing (tl s)) e w' ∧ Below w.heap.size w w' := by
  have hC := l06Read_any s (w.alloc (Obj.cells #[.slice none 0 0, .slice none 0 0] 31)) hs
  have hX := Bx.new w 31 #[.slice none 0 0, .slice none 0 0]
  rw [rReadPassing]
  generalize rdPa (tl s) = r at *
  have hC := hid hC
  go_enter Tryz.func81, Tryz.ntmps81
  go_wp2_with fail
  refine hC.out.mono ?_
  rintro e w1 ⟨⟨⟨a, b⟩, ha9, hb9, ⟨A1, d1, A2, d2, hA1, hA2, rfl, ho1, ho2⟩, hr⟩, hb1⟩
  have hX1 := hX.below hb1 hX.lt
  have z1 := hb1.size
  have hgr : w.heap.size < w1.heap.size := by simp at z1; omega
  have hB1 : Below w.heap.size w w1 := (by repeat' (first | exact Below.refl _ _ | (with_reducible first | assumption | exact Nat.le_refl _ | refine Below.alloc ?_ ?_ _ | refine Below.setCell ?_ ?_ _ | refine Below.drew ?_ | refine below_drewN ?_ _) | refine Below.trans ?_ (Below.mono (by assumption) ?_) | exact Below.size (by assumption) | omega | go_size | (simp at *; omega)))
  have e0 := hX1.cell 0
  have e1 := hX1.cell 1
  have f0 := hX1.frozen 0
  have f1 := hX1.frozen 1
  replace e0 : w1.cell? ⟨w.heap.size, 0, none⟩ = some (.slice none 0 0) := e0
  replace e1 : w1.cell? ⟨w.heap.size, 1, none⟩ = some (.slice none 0 0) := e1
  simp only at ho1 ho2 ha9 hb9
  have hbs : (w.alloc (Obj.cells #[.slice none 0 0, .slice none 0 0] 31)).heap.size = w.heap.size + 1 := by simp
  rw [hbs] at ho1 ho2
  have HO1 := hid ho1
  have HO2 := hid ho2
  have HR := hid hr
  clear hC hX hb1 hX1 ho1 ho2 hr hbs z1
  cases r with
  | none =>
    go_wp2
    refine bodyPost_ret (v := .tuple #[.agg #[.slice none 0 0, .slice none 0 0], .bool false]) ?_ rfl ?_
    · simp (maxDischargeDepth := 8) [results, Tryz.results81, go_sem, *]
    exact ⟨PaRes.no _ _ _, (by repeat' (first | exact Below.refl _ _ | (with_reducible first | assumption | exact Nat.le_refl _ | refine Below.alloc ?_ ?_ _ | refine Below.setCell ?_ ?_ _ | refine Below.drew ?_ | refine below_drewN ?_ _) | refine Below.trans ?_ (Below.mono (by assumption) ?_) | exact Below.size (by assumption) | omega | go_size | (simp at *; omega)))⟩
  | some p1 =>
    have ep := HR.out p1 rfl
    subst ep
    obtain ⟨W, hW⟩ : ∃ W, w1.alloc (Obj.cells #[.slice A1 a.length d1, .slice A2 b.length d2] 31) = W := ⟨_, rfl⟩
    have hbW : Below w1.heap.size w1 W := by rw [← hW]; exact (by repeat' (first | exact Below.refl _ _ | (with_reducible first | assumption | exact Nat.le_refl _ | refine Below.alloc ?_ ?_ _ | refine Below.setCell ?_ ?_ _ | refine Below.drew ?_ | refine below_drewN ?_ _) | refine Below.trans ?_ (Below.mono (by assumption) ?_) | exact Below.size (by assumption) | omega | go_size | (simp at *; omega)))
    have hBX : Bx W w1.heap.size 31 #[.slice A1 a.length d1, .slice A2 b.length d2] := by rw [← hW]; exact Bx.new w1 _ _
    have hV := l06Ok_any w1.heap.size A1 A2 a.length d1 b.length d2 (a, b) W (by omega) (by omega) hBX (((Rd.of_own HO1.out).below hbW (Nat.le_refl _)).more hbW.size) (((Rd.of_own HO2.out).below hbW (Nat.le_refl _)).more hbW.size)
    obtain ⟨pb, hpb⟩ : ∃ pb, psOk (a, b) = pb := ⟨_, rfl⟩
    rw [hpb] at hV
    rw [← hW] at hV
    have HE := hid (psElse_some hpb)
    have hV := hid hV
    clear HR hW hbW hpb hBX
    go_wp2_with fail
    refine hV.out.mono ?_
    rintro e w2 ⟨rfl, hb2⟩
    have hB2 : Below w1.heap.size w1 w2 := (by repeat' (first | exact Below.refl _ _ | (with_reducible first | assumption | exact Nat.le_refl _ | refine Below.alloc ?_ ?_ _ | refine Below.setCell ?_ ?_ _ | refine Below.drew ?_ | refine below_drewN ?_ _) | refine Below.trans ?_ (Below.mono (by assumption) ?_) | exact Below.size (by assumption) | omega | go_size | (simp at *; omega)))
    have q0 := (hB2.cell (p := ⟨w.heap.size, 0, none⟩) hgr).trans e0
    have q1 := (hB2.cell (p := ⟨w.heap.size, 1, none⟩) hgr).trans e1
    have q2 := (hB2.frozen (p := ⟨w.heap.size, 0, none⟩) hgr).trans f0
    have q3 := (hB2.frozen (p := ⟨w.heap.size, 1, none⟩) hgr).trans f1
    have q4 : w2.cell? ⟨w1.heap.size, 0, none⟩ = some (.slice A1 a.length d1) := (hb2.cell (p := ⟨w1.heap.size, 0, none⟩) (by simp)).trans (by simp)
    have q5 : w2.cell? ⟨w1.heap.size, 1, none⟩ = some (.slice A2 b.length d2) := (hb2.cell (p := ⟨w1.heap.size, 1, none⟩) (by simp)).trans (by simp)
    clear hV hb2 e0 e1 f0 f1
    cases pb
    · go_wp2
      refine bodyPost_ret (v := .tuple #[.agg #[.slice none 0 0, .slice none 0 0], .bool false]) ?_ rfl ?_
      · simp (maxDischargeDepth := 8) [results, Tryz.results81, go_sem, *]
      exact ⟨by rw [HE.out]; exact PaRes.no _ _ _, (by repeat' (first | exact Below.refl _ _ | (with_reducible first | assumption | exact Nat.le_refl _ | refine Below.alloc ?_ ?_ _ | refine Below.setCell ?_ ?_ _ | refine Below.drew ?_ | refine below_drewN ?_ _) | refine Below.trans ?_ (Below.mono (by assumption) ?_) | exact Below.size (by assumption) | omega | go_size | (simp at *; omega)))⟩
    · go_wp2
      refine bodyPost_ret (v := .tuple #[.agg #[.slice A1 a.length d1, .slice A2 b.length d2], .bool true]) ?_ rfl ?_
      · simp (maxDischargeDepth := 8) [results, Tryz.results81, go_sem, *]
      refine ⟨?_, (by repeat' (first | exact Below.refl _ _ | (with_reducible first | assumption | exact Nat.le_refl _ | refine Below.alloc ?_ ?_ _ | refine Below.setCell ?_ ?_ _ | refine Below.drew ?_ | refine below_drewN ?_ _) | refine Below.trans ?_ (Below.mono (by assumption) ?_) | exact Below.size (by assumption) | omega | go_size | (simp at *; omega)))⟩
      rw [HE.out]
      exact PaRes.mk hA1 hA2 (own_more (own_set (own_set (own_below HO1.out hB2) (p := ⟨w.heap.size, 0, none⟩) (by show w.heap.size < _; omega) _) (p := ⟨w.heap.size, 1, none⟩) (by show w.heap.size < _; omega) _) (by omega)) (own_more (own_set (own_set (own_below HO2.out hB2) (p := ⟨w.heap.size, 0, none⟩) (by show w.heap.size < _; omega) _) (p := ⟨w.heap.size, 1, none⟩) (by show w.heap.size < _; omega) _) (by omega))
end Go.Proofs.YtgphkfnobmponaaGreat
