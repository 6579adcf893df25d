/- NotationText: contracts, and the law's walk. -/
import Derived.Test.YtkglkpohbckpcaaWb
import Derived.Test.YtkglkpohbckpcaaMw
import Derived.Test.YtkglkpohbckpcaaYy
namespace Go.Proofs.Ytkglkpohbckpcaa
open Go.RowKit
set_option linter.unusedVariables false

def rNotationText (x : Note) : List UInt8 := if ntOk x then (if x.1 = 1 then x.2.1.map hexU else if x.1 = 2 then mT x.2.2.1 else if x.1 = 3 then syT x.2.2.2.1 else paT x.2.2.2.2) else []
theorem patS_st {p : List Int} (h : okP p = true) : patS p = st (p.map hexU) := by
  unfold patS
  rw [← nb_hex (thOk_iff (okP_th h)).1, nb_st]
set_option maxHeartbeats 1000000 in
theorem l02Text_any (A : Option Addr) (n c : Nat) (p : List Int) (w : World) (hp : okP p = true) (hr : Rd w w.heap.size 1 A n (ints p)) :
    Calls Try.prog 181 #[.slice A n c] w fun e w' => e = .returned (.string (st (p.map hexU))) ∧ Below w.heap.size w w' := by
  have hlen := hr.len
  obtain ⟨hbd, h1, h12⟩ := thOk_iff (okP_th hp)
  rw [hlen] at h1 h12
  have HBD := hid hbd
  have hst : Hid ((⟨#[]⟩ : ByteArray) = st ((p.take 0).map hexU)) := rfl
  have hz : ({ data := #[48, 49, 50, 51, 52, 53, 54, 55, 56, 57, 97, 98, 99, 100, 101, 102] } : ByteArray).size = 16 := rfl
  have HR := hid hr
  have HL := hid hlen
  clear hr hp hlen hbd
  go_enter Try.func181, Try.ntmps181
  go_wp2
  go_loopw [4, 5] (fun s i wr => Hid (∃ k : Nat, k ≤ n ∧ i = .int .i64 k ∧ s = .string (st ((p.take k).map hexU)) ∧ Below w.heap.size w wr)) (fun _ i _ => n - (intOf i).toNat)
  case atStart => exact hid ⟨0, Nat.zero_le _, rfl, by rw [hst.out], (by repeat' (first | exact Below.refl _ _ | (with_reducible assumption) | (with_reducible refine Below.alloc ?_ ?_ _) | (with_reducible refine Below.setCell ?_ ?_ _) | (with_reducible refine Below.drew ?_) | (with_reducible refine below_drewN ?_ _) | (refine Below.trans ?_ (Below.mono (by assumption) ?_)) | (with_reducible exact Nat.le_refl _) | (with_reducible assumption) | (exact Below.size (by assumption)) | omega | go_size | (simp at *; omega)))⟩
  case round =>
    obtain ⟨k, hk, rfl, rfl, hb0⟩ := hrel.out
    clear hrel hst
    by_cases hlt : k < n
    · obtain ⟨b, off, y, rfl, hb, hy, hd, c0⟩ := (HR.out.below hb0 (Nat.le_refl _)).at_ hlt
      obtain ⟨y0, y1⟩ := HBD.out y (List.mem_of_getElem? hy)
      obtain ⟨V, rfl⟩ := Int.eq_ofNat_of_zero_le y0
      have he := hexS_ext (n := V) (by omega)
      have h1' : (V : Int) ≤ (V : Int) + 1 := by omega
      have h2' : (V : Int) + 1 ≤ 16 := by omega
      have hstep := mapU_step hy
      have HZ : Hid (st ((p.take (k + 1)).map hexU) = st ((p.take k).map hexU) ++ st [hexU (V : Int)]) := by show _ = _; rw [hstep, st_append]
      have hol : (st ((p.take k).map hexU)).size ≤ 12 := by rw [st_size, List.length_map, List.length_take]; omega
      have hone : (st [hexU (V : Int)]).size = 1 := by rw [st_size]; rfl
      have hbw : b < wr.heap.size := by have := hb0.size; omega
      have hki : (k : Int) < (n : Int) := by omega
      obtain ⟨so, hso⟩ : ∃ so, st ((p.take k).map hexU) = so := ⟨_, rfl⟩
      rw [hso] at HZ hol ⊢
      clear hy hd hb hstep hso
      go_wp2
      go_quiet (fail)
      go_wp2
      go_roundw
      case rel => exact hid ⟨k + 1, by omega, by go_num, by rw [HZ.out], (by repeat' (first | exact Below.refl _ _ | (with_reducible assumption) | (with_reducible refine Below.alloc ?_ ?_ _) | (with_reducible refine Below.setCell ?_ ?_ _) | (with_reducible refine Below.drew ?_) | (with_reducible refine below_drewN ?_ _) | (refine Below.trans ?_ (Below.mono (by assumption) ?_)) | (with_reducible exact Nat.le_refl _) | (with_reducible assumption) | (exact Below.size (by assumption)) | omega | go_size | (simp at *; omega)))⟩
      case measure => simp [intOf]; omega
    · have HZ : Hid (st (p.map hexU) = st ((p.take k).map hexU)) := by show _ = _; rw [List.take_of_length_le (by rw [HL.out]; omega)]
      go_wp2
      go_ret
      exact ⟨ret_str HZ.out.symm, hb0⟩
set_option maxRecDepth 100000 in
set_option maxHeartbeats 4000000 in
theorem NotationText_any (k : Int) (p : List Int) (m : List (List Int)) (y : List Beat) (q1 q2 : List PT) (s : Six) (w : World) (hs : NtSm (k, p, m, y, (q1, q2))) (h : NtRd (k, p, m, y, (q1, q2)) s w) :
    Calls Try.prog 23 #[.agg #[.int .i64 k, .slice s.A p.length s.c, .slice s.A2 m.length s.c2, .slice s.A3 y.length s.c3, .slice s.A4 q1.length s.c4, .slice s.A5 q2.length s.c5]] w fun e w' => e = .returned (.string (st (rNotationText (k, p, m, y, (q1, q2))))) ∧ Below w.heap.size w w' := by
  obtain ⟨A, c, A2, c2, A3, c3, A4, c4, A5, c5⟩ := s
  simp only
  have hB0 : Below w.heap.size w (w.alloc (Obj.cells #[.int .i64 k, .slice A p.length c, .slice A2 m.length c2, .slice A3 y.length c3, .slice A4 q1.length c4, .slice A5 q2.length c5] 40)) := Below.alloc (Below.refl _ _) (Nat.le_refl _) _
  have hX := Bx.new w 40 #[.int .i64 k, .slice A p.length c, .slice A2 m.length c2, .slice A3 y.length c3, .slice A4 q1.length c4, .slice A5 q2.length c5]
  have hV := ValidNotation_any k p m y q1 q2 ⟨A, c, A2, c2, A3, c3, A4, c4, A5, c5⟩ (w.alloc (Obj.cells #[.int .i64 k, .slice A p.length c, .slice A2 m.length c2, .slice A3 y.length c3, .slice A4 q1.length c4, .slice A5 q2.length c5] 40)) hs (h.below hB0)
  obtain ⟨l1, ⟨l2, l3, _⟩, l4, l5, l6⟩ := hs
  simp only at l1 l2 l3 l4 l5 l6 hV
  have H := fun (w1 : World) (b : Below w.heap.size w w1) => h.below b
  unfold NtRd at H
  simp only at H
  have C1 := hid (fun (hp : okP p = true) (w1 : World) (b : Below w.heap.size w w1) => by have := PatternText_ok A p.length c p w1 hp (H w1 b).1; rw [patS_st hp] at this; exact this)
  have C2 := hid (fun (hp : mOk m = true) (w1 : World) (b : Below w.heap.size w w1) => MultiText_ok A2 m.length c2 m w1 hp (H w1 b).2.1)
  have C3 := hid (fun (hp : syOk y = true) (w1 : World) (b : Below w.heap.size w w1) => by have := SyncText_any A3 y.length c3 y w1 (by omega) (H w1 b).2.2.1; rw [rSyncText, if_pos hp] at this; exact this)
  have C4 := hid (fun (hp : psOk (q1, q2) = true) (w1 : World) (b : Below w.heap.size w w1) => by have := PassingText_any A4 A5 q1.length c4 q2.length c5 (q1, q2) w1 (by omega) (by omega) (H w1 b).2.2.2.1 (H w1 b).2.2.2.2; rw [rPassingText, if_pos hp] at this; exact this)
  obtain ⟨x, hx⟩ : ∃ x : Note, (k, p, m, y, (q1, q2)) = x := ⟨_, rfl⟩
  rw [hx] at hV ⊢
  obtain ⟨b, hb⟩ : ∃ b, ntOk x = b := ⟨_, rfl⟩
  have HR0 : Hid (b = false → rNotationText x = []) := fun h => by rw [rNotationText, hb, h]; rfl
  have HR1 : Hid (b = true → k = 1 → okP p = true ∧ rNotationText x = p.map hexU) := fun h hk => by
    have h2 := (ntOk_eb (x := x) (by rw [hb, h])).2
    subst hx
    rw [swN_1 hk] at h2
    exact ⟨h2, by rw [rNotationText, hb, h]; simp only; rw [if_pos trivial, if_pos hk]⟩
  have HR2 : Hid (b = true → k = 2 → mOk m = true ∧ rNotationText x = mT m) := fun h hk => by
    have h2 := (ntOk_eb (x := x) (by rw [hb, h])).2
    subst hx
    rw [swN_2 hk] at h2
    exact ⟨h2, by rw [rNotationText, hb, h]; simp only; rw [if_pos trivial, if_neg (by omega), if_pos hk]⟩
  have HR3 : Hid (b = true → k = 3 → syOk y = true ∧ rNotationText x = syT y) := fun h hk => by
    have h2 := (ntOk_eb (x := x) (by rw [hb, h])).2
    subst hx
    rw [swN_3 hk] at h2
    exact ⟨h2, by rw [rNotationText, hb, h]; simp only; rw [if_pos trivial, if_neg (by omega), if_neg (by omega), if_pos hk]⟩
  have HR4 : Hid (b = true → k = 4 → psOk (q1, q2) = true ∧ rNotationText x = paT (q1, q2)) := fun h hk => by
    have h2 := (ntOk_eb (x := x) (by rw [hb, h])).2
    subst hx
    rw [swN_4 hk] at h2
    exact ⟨h2, by rw [rNotationText, hb, h]; simp only; rw [if_pos trivial, if_neg (by omega), if_neg (by omega), if_neg (by omega)]⟩
  have HK : Hid (b = true → k = 1 ∨ k = 2 ∨ k = 3 ∨ k = 4) := fun h => by
    have := ntOk_kind (x := x) (by rw [hb, h]); rw [← hx] at this; exact this
  rw [hb] at hV
  have hV := hid hV
  have HB0 := hid hB0
  have HX := hid hX
  generalize rNotationText x = R at *
  clear h H hB0 hX hb hx
  go_enter Try.func23, Try.ntmps23
  go_wp2_with fail
  refine hV.out.mono ?_
  rintro e w1 ⟨rfl, hb1⟩
  have hB1 := bchain HB0.out hb1
  have hX1 := HX.out.below hb1 HX.out.lt
  obtain ⟨⟨a0, a1, a2, a3, a4, a5⟩, -⟩ := zc hX1
  have hl1 := hX1.lt
  clear hV HX HB0 hb1 hX1
  cases b
  · have HZ : Hid (st R = ⟨#[]⟩) := by show _ = _; rw [HR0.out rfl]; rfl
    clear HR0 HR1 HR2 HR3 HR4 HK C1 C2 C3 C4
    go_wp2
    go_ret
    exact ⟨ret_str HZ.out.symm, hB1⟩
  · have hk := HK.out rfl
    clear HK HR0
    rcases hk with rfl | rfl | rfl | rfl
    · obtain ⟨hv, hr⟩ := HR1.out rfl rfl
      have HZ := hid hr
      have hD := hid (C1.out hv w1 hB1)
      clear C2 HR2 C3 HR3 C4 HR4 C1 HR1 hr hv
      go_wp2_with fail
      refine hD.out.mono ?_
      rintro e w2 ⟨rfl, hb2⟩
      have hB2 := bchain hB1 hb2
      clear hD hb2 a0 a1 a2 a3 a4 a5
      go_wp2
      go_ret
      exact ⟨ret_str (by rw [HZ.out]), hB2⟩
    · obtain ⟨hv, hr⟩ := HR2.out rfl rfl
      have HZ := hid hr
      have hD := hid (C2.out hv w1 hB1)
      clear C1 HR1 C3 HR3 C4 HR4 C2 HR2 hr hv
      go_wp2_with fail
      refine hD.out.mono ?_
      rintro e w2 ⟨rfl, hb2⟩
      have hB2 := bchain hB1 hb2
      clear hD hb2 a0 a1 a2 a3 a4 a5
      go_wp2
      go_ret
      exact ⟨ret_str (by rw [HZ.out]), hB2⟩
    · obtain ⟨hv, hr⟩ := HR3.out rfl rfl
      have HZ := hid hr
      have hD := hid (C3.out hv w1 hB1)
      clear C1 HR1 C2 HR2 C4 HR4 C3 HR3 hr hv
      go_wp2_with fail
      refine hD.out.mono ?_
      rintro e w2 ⟨rfl, hb2⟩
      have hB2 := bchain hB1 hb2
      clear hD hb2 a0 a1 a2 a3 a4 a5
      go_wp2
      go_ret
      exact ⟨ret_str (by rw [HZ.out]), hB2⟩
    · obtain ⟨hv, hr⟩ := HR4.out rfl rfl
      have HZ := hid hr
      have hD := hid (C4.out hv w1 hB1)
      clear C1 HR1 C2 HR2 C3 HR3 C4 HR4 hr hv
      go_wp2_with fail
      refine hD.out.mono ?_
      rintro e w2 ⟨rfl, hb2⟩
      have hB2 := bchain hB1 hb2
      clear hD hb2 a0 a1 a2 a3 a4 a5
      go_wp2
      go_ret
      exact ⟨ret_str (by rw [HZ.out]), hB2⟩
set_option maxRecDepth 100000 in
set_option maxHeartbeats 4000000 in
theorem l07Text_any (g : Nat) (k : Int) (p : List Int) (m : List (List Int)) (y : List Beat) (q1 q2 : List PT) (s : Six) (w : World) (hs : NtSm (k, p, m, y, (q1, q2))) (hx : Bx w g 40 #[.int .i64 k, .slice s.A p.length s.c, .slice s.A2 m.length s.c2, .slice s.A3 y.length s.c3, .slice s.A4 q1.length s.c4, .slice s.A5 q2.length s.c5]) (h : NtRd (k, p, m, y, (q1, q2)) s w) (hv : ntOk (k, p, m, y, (q1, q2)) = true) :
    Calls Try.prog 101 #[.pointer (some ⟨g, 0, none⟩)] w fun e w' => e = .returned (.string (st (rNotationText (k, p, m, y, (q1, q2))))) ∧ Below w.heap.size w w' := by
  obtain ⟨A, c, A2, c2, A3, c3, A4, c4, A5, c5⟩ := s
  obtain ⟨l1, ⟨l2, l3, _⟩, l4, l5, l6⟩ := hs
  obtain ⟨H1, H2, H3, H4, H5⟩ := h
  simp only at l1 l2 l3 l4 l5 l6 hx H1 H2 H3 H4 H5
  have hgl := hx.lt
  obtain ⟨⟨a0, a1, a2, a3, a4, a5⟩, -⟩ := zc hx
  have C1 := hid (fun (hp : okP p = true) => l02Text_any A p.length c p w hp H1)
  have C2 := hid (fun (hp : mOk m = true) => (l04Text_at g 2 A2 m.length c2 m w (mOk_iff.1 hp).1 (Bo.one hgl a2) H2).mono fun e w' (h : e = .returned (.string (st (mT m))) ∧ w = w') => (⟨h.1, by rw [← h.2]; exact Below.refl _ _⟩ : e = .returned (.string (st (mT m))) ∧ Below w.heap.size w w'))
  have C3 := hid (fun (hp : syOk y = true) => l05Text_any A3 y.length c3 y w (syOk_b hp) H3)
  have C4 := hid (fun (hp : psOk (q1, q2) = true) => l06Both_at g 4 A4 A5 q1.length c4 q2.length c5 (q1, q2) w (psOk_iff.1 hp).1 (Bo.two hgl a4 a5) H4 H5)
  have hV := hid hv
  replace hV := hV.out
  obtain ⟨x, hx'⟩ : ∃ x : Note, (k, p, m, y, (q1, q2)) = x := ⟨_, rfl⟩
  rw [hx'] at hV ⊢
  obtain ⟨b, hb⟩ : ∃ b, ntOk x = b := ⟨_, rfl⟩
  have HR0 : Hid (b = false → rNotationText x = []) := fun h => by rw [rNotationText, hb, h]; rfl
  have HR1 : Hid (b = true → k = 1 → okP p = true ∧ rNotationText x = p.map hexU) := fun h hk => by
    have h2 := (ntOk_eb (x := x) (by rw [hb, h])).2
    subst hx'
    rw [swN_1 hk] at h2
    exact ⟨h2, by rw [rNotationText, hb, h]; simp only; rw [if_pos trivial, if_pos hk]⟩
  have HR2 : Hid (b = true → k = 2 → mOk m = true ∧ rNotationText x = mT m) := fun h hk => by
    have h2 := (ntOk_eb (x := x) (by rw [hb, h])).2
    subst hx'
    rw [swN_2 hk] at h2
    exact ⟨h2, by rw [rNotationText, hb, h]; simp only; rw [if_pos trivial, if_neg (by omega), if_pos hk]⟩
  have HR3 : Hid (b = true → k = 3 → syOk y = true ∧ rNotationText x = syT y) := fun h hk => by
    have h2 := (ntOk_eb (x := x) (by rw [hb, h])).2
    subst hx'
    rw [swN_3 hk] at h2
    exact ⟨h2, by rw [rNotationText, hb, h]; simp only; rw [if_pos trivial, if_neg (by omega), if_neg (by omega), if_pos hk]⟩
  have HR4 : Hid (b = true → k = 4 → psOk (q1, q2) = true ∧ rNotationText x = paT (q1, q2)) := fun h hk => by
    have h2 := (ntOk_eb (x := x) (by rw [hb, h])).2
    subst hx'
    rw [swN_4 hk] at h2
    exact ⟨h2, by rw [rNotationText, hb, h]; simp only; rw [if_pos trivial, if_neg (by omega), if_neg (by omega), if_neg (by omega)]⟩
  have HK : Hid (b = true → k = 1 ∨ k = 2 ∨ k = 3 ∨ k = 4) := fun h => by
    have := ntOk_kind (x := x) (by rw [hb, h]); rw [← hx'] at this; exact this
  rw [hb] at hV
  subst hV
  generalize rNotationText x = R at *
  have hk := HK.out rfl
  clear HK HR0 hb hx' hx H1 H2 H3 H4 H5
  rcases hk with rfl | rfl | rfl | rfl
  · obtain ⟨hv, hr⟩ := HR1.out rfl rfl
    have HZ := hid hr
    have hD := hid (C1.out hv)
    clear C2 HR2 C3 HR3 C4 HR4 C1 HR1 hr hv
    go_enter Try.func101, Try.ntmps101
    go_wp2_with fail
    refine hD.out.mono ?_
    rintro e w2 ⟨rfl, hb2⟩
    clear hD a0 a1 a2 a3 a4 a5
    go_wp2
    go_ret
    exact ⟨ret_str (by rw [HZ.out]), hb2⟩
  · obtain ⟨hv, hr⟩ := HR2.out rfl rfl
    have HZ := hid hr
    have hD := hid (C2.out hv)
    clear C1 HR1 C3 HR3 C4 HR4 C2 HR2 hr hv
    go_enter Try.func101, Try.ntmps101
    go_wp2_with fail
    refine hD.out.mono ?_
    rintro e w2 ⟨rfl, hb2⟩
    clear hD a0 a1 a2 a3 a4 a5
    go_wp2
    go_ret
    exact ⟨ret_str (by rw [HZ.out]), hb2⟩
  · obtain ⟨hv, hr⟩ := HR3.out rfl rfl
    have HZ := hid hr
    have hD := hid (C3.out hv)
    clear C1 HR1 C2 HR2 C4 HR4 C3 HR3 hr hv
    go_enter Try.func101, Try.ntmps101
    go_wp2_with fail
    refine hD.out.mono ?_
    rintro e w2 ⟨rfl, hb2⟩
    clear hD a0 a1 a2 a3 a4 a5
    go_wp2
    go_ret
    exact ⟨ret_str (by rw [HZ.out]), hb2⟩
  · obtain ⟨hv, hr⟩ := HR4.out rfl rfl
    have HZ := hid hr
    have hD := hid (C4.out hv)
    clear C1 HR1 C2 HR2 C3 HR3 C4 HR4 hr hv
    go_enter Try.func101, Try.ntmps101
    go_wp2_with fail
    refine hD.out.mono ?_
    rintro e w2 ⟨rfl, hb2⟩
    clear hD a0 a1 a2 a3 a4 a5
    go_wp2
    go_ret
    exact ⟨ret_str (by rw [HZ.out]), hb2⟩
set_option maxRecDepth 100000 in
set_option maxHeartbeats 4000000 in
theorem specNotationText_any (k : Int) (p : List Int) (m : List (List Int)) (y : List Beat) (q1 q2 : List PT) (s : Six) (w : World) (hs : NtSm (k, p, m, y, (q1, q2))) (h : NtRd (k, p, m, y, (q1, q2)) s w) :
    Calls Try.prog 22 #[.agg #[.int .i64 k, .slice s.A p.length s.c, .slice s.A2 m.length s.c2, .slice s.A3 y.length s.c3, .slice s.A4 q1.length s.c4, .slice s.A5 q2.length s.c5]] w fun e w' => e = .returned (.string (st (rNotationText (k, p, m, y, (q1, q2))))) ∧ Below w.heap.size w w' := by
  obtain ⟨A, c, A2, c2, A3, c3, A4, c4, A5, c5⟩ := s
  simp only
  have hB0 : Below w.heap.size w (w.alloc (Obj.cells #[.int .i64 k, .slice A p.length c, .slice A2 m.length c2, .slice A3 y.length c3, .slice A4 q1.length c4, .slice A5 q2.length c5] 40)) := Below.alloc (Below.refl _ _) (Nat.le_refl _) _
  have hX := Bx.new w 40 #[.int .i64 k, .slice A p.length c, .slice A2 m.length c2, .slice A3 y.length c3, .slice A4 q1.length c4, .slice A5 q2.length c5]
  have hV := l07Ok_any w.heap.size k p m y q1 q2 ⟨A, c, A2, c2, A3, c3, A4, c4, A5, c5⟩ _ hs hX (h.below hB0)
  have HT := hid (fun (hv : ntOk (k, p, m, y, (q1, q2)) = true) (w1 : World) (b : Below w.heap.size w w1) (hx : Bx w1 w.heap.size 40 #[.int .i64 k, .slice A p.length c, .slice A2 m.length c2, .slice A3 y.length c3, .slice A4 q1.length c4, .slice A5 q2.length c5]) => l07Text_any w.heap.size k p m y q1 q2 ⟨A, c, A2, c2, A3, c3, A4, c4, A5, c5⟩ w1 hs hx (h.below b) hv)
  obtain ⟨b, hb⟩ : ∃ b, ntOk (k, p, m, y, (q1, q2)) = b := ⟨_, rfl⟩
  have HR0 : Hid (b = false → st (rNotationText (k, p, m, y, (q1, q2))) = ⟨#[]⟩) := fun h => by rw [rNotationText, hb, h]; rfl
  rw [hb] at hV HT
  have hV := hid hV
  have HB0 := hid hB0
  have HX := hid hX
  generalize rNotationText (k, p, m, y, (q1, q2)) = R at *
  clear h hB0 hX hb hs
  go_enter Try.func22, Try.ntmps22
  go_wp2_with fail
  refine hV.out.mono ?_
  rintro e w1 ⟨rfl, hb1⟩
  have hB1 := bchain HB0.out hb1
  have hX1 := HX.out.below hb1 HX.out.lt
  have HX1 := hid hX1
  clear hV HX HB0 hb1 hX1
  cases b
  · have HZ := hid (HR0.out rfl)
    clear HR0 HT HX1
    go_wp2
    go_ret
    exact ⟨ret_str HZ.out.symm, hB1⟩
  · have hD := hid (HT.out rfl w1 hB1 HX1.out)
    clear HR0 HT HX1
    go_wp2_with fail
    refine hD.out.mono ?_
    rintro e w2 ⟨rfl, hb2⟩
    have hB2 := bchain hB1 hb2
    clear hD hb2
    go_wp2
    go_ret
    exact ⟨rfl, hB2⟩
set_option maxRecDepth 100000 in
set_option maxHeartbeats 8000000 in
theorem fnExactNotationText_walk (w : World) (k : Int) (p : List Int) (m : List (List Int)) (y : List Beat) (q1 q2 : List PT) (s : Six) (m1 : p.length ≤ maxLen) (m2 : m.length ≤ maxLen) (m3 : ∀ r ∈ m, r.length ≤ maxLen) (m4 : y.length ≤ maxLen) (m5 : q1.length ≤ maxLen) (m6 : q2.length ≤ maxLen) (h : NtRd (k, p, m, y, (q1, q2)) s w) :
    Calls Try.prog 6 #[.agg #[.int .i64 k, .slice s.A p.length s.c, .slice s.A2 m.length s.c2, .slice s.A3 y.length s.c3, .slice s.A4 q1.length s.c4, .slice s.A5 q2.length s.c5]] w fun e w' => e = .returned (.bool true) ∧ Below w.heap.size w w' := by
  obtain ⟨A, c, A2, c2, A3, c3, A4, c4, A5, c5⟩ := s
  simp only
  have hB0 : Below w.heap.size w (w.alloc (Obj.cells #[.int .i64 k, .slice A p.length c, .slice A2 m.length c2, .slice A3 y.length c3, .slice A4 q1.length c4, .slice A5 q2.length c5] 31)) := Below.alloc (Below.refl _ _) (Nat.le_refl _) _
  have hX := Bx.new w 31 #[.int .i64 k, .slice A p.length c, .slice A2 m.length c2, .slice A3 y.length c3, .slice A4 q1.length c4, .slice A5 q2.length c5]
  have hS := hid (szNotation_any k A A2 A3 A4 A5 p.length m.length y.length q1.length q2.length c c2 c3 c4 c5 1048576 m (w.alloc (Obj.cells #[.int .i64 k, .slice A p.length c, .slice A2 m.length c2, .slice A3 y.length c3, .slice A4 q1.length c4, .slice A5 q2.length c5] 31)) m1 m2 m3 m4 m5 m6 (by omega) ((h.below hB0).2.1))
  have HB0 := hid hB0
  have HX := hid hX
  have HH := hid h
  clear h hB0 hX m1 m2 m3 m4 m5 m6
  go_enter Try.func6, Try.ntmps6
  go_wp2_with fail
  refine hS.out.mono ?_
  rintro e w1 ⟨⟨r, rfl, hr⟩, hb1⟩
  have hB1 := bchain HB0.out hb1
  have hX1 := HX.out.below hb1 HX.out.lt
  obtain ⟨⟨a0, a1, a2, a3, a4, a5⟩, -⟩ := zc hX1
  have hl1 := hX1.lt
  rcases hr with rfl | ⟨r0, hr⟩
  · clear hS HX HH HB0 hb1 hX1
    go_wp2
    go_ret
    exact ⟨rfl, hB1⟩
  · have hsm : NtSm (k, p, m, y, (q1, q2)) := NtSm.of_left r0 hr
    have hT := fun (w1 : World) (b : Below w.heap.size w w1) => toNotation_any k p m y q1 q2 ⟨A, c, A2, c2, A3, c3, A4, c4, A5, c5⟩ w1 hsm (HH.out.below b)
    simp only at hT
    have hT := hid hT
    have hF := hid (fun (t : Six) (w1 : World) (h : NtRd (k, p, m, y, (q1, q2)) t w1) => specNotationText_any k p m y q1 q2 t w1 hsm h)
    have hG := hid (fun (t : Six) (w1 : World) (h : NtRd (k, p, m, y, (q1, q2)) t w1) => NotationText_any k p m y q1 q2 t w1 hsm h)
    have hE := hid (fun (t u : Six) (w1 : World) (h : NtRd (k, p, m, y, (q1, q2)) t w1) (h' : NtRd (k, p, m, y, (q1, q2)) u w1) => eqNotation_same k p m y q1 q2 t u w1 hsm h h')
    obtain ⟨v, hb⟩ : ∃ b, st (rNotationText (k, p, m, y, (q1, q2))) = b := ⟨_, rfl⟩
    rw [hb] at hF hG
    have hrn : ¬ r < 0 := by omega
    have HX1 := hid hX1
    clear hS HX HH HB0 hb1 hX1 hr hb hsm
    go_wp2_with fail
    refine (hT.out _ hB1).mono ?_
    rintro e w2 ⟨⟨⟨D, d, D2, d2, D3, d3, D4, d4, D5, d5⟩, rfl, hrd2⟩, hb2⟩
    have HB2 := hid (bchain hB1 hb2)
    have HX2 := hid (HX1.out.below hb2 HX1.out.lt)
    have HR2 := hid hrd2
    simp only
    clear hB1 HX1 hrd2 hb2 a0 a1 a2 a3 a4 a5 hl1 hrn r0
    go_wp2_with fail
    refine (hF.out ⟨D, d, D2, d2, D3, d3, D4, d4, D5, d5⟩ w2 HR2.out).mono ?_
    rintro e w3 ⟨rfl, hb3⟩
    have hB3 := bchain HB2.out hb3
    have hX3 := HX2.out.below hb3 HX2.out.lt
    obtain ⟨⟨a0, a1, a2, a3, a4, a5⟩, -⟩ := zc hX3
    have hl1 := hX3.lt
    have HB3 := hid hB3
    have HX3 := hid hX3
    clear HB2 HX2 HR2 hb3 hB3 hX3 hF
    go_wp2_with fail
    refine (hT.out _ HB3.out).mono ?_
    rintro e w4 ⟨⟨⟨G, g, G2, g2, G3, g3, G4, g4, G5, g5⟩, rfl, hrd4⟩, hb4⟩
    have HB4 := hid (bchain HB3.out hb4)
    have HX4 := hid (HX3.out.below hb4 HX3.out.lt)
    have HBA : Hid (Below w4.heap.size w4 (w4.alloc (Obj.cells #[.int .i64 k, .slice G p.length g, .slice G2 m.length g2, .slice G3 y.length g3, .slice G4 q1.length g4, .slice G5 q2.length g5] 40))) := Below.alloc (Below.refl _ _) (Nat.le_refl _) _
    have HR4 := hid (hrd4.below HBA.out)
    have HY4 := hid (Bx.new w4 40 #[.int .i64 k, .slice G p.length g, .slice G2 m.length g2, .slice G3 y.length g3, .slice G4 q1.length g4, .slice G5 q2.length g5])
    simp only
    clear HB3 HX3 hrd4 hb4 a0 a1 a2 a3 a4 a5 hl1
    go_wp2_with fail
    refine (hG.out ⟨G, g, G2, g2, G3, g3, G4, g4, G5, g5⟩ _ HR4.out).mono ?_
    rintro e w5 ⟨rfl, hb5⟩
    have HB5 := hid ((HB4.out.trans (HBA.out.mono HB4.out.size)).trans (hb5.mono (HB4.out.trans (HBA.out.mono HB4.out.size)).size))
    have HX5 := hid ((HX4.out.alloc (Obj.cells #[.int .i64 k, .slice G p.length g, .slice G2 m.length g2, .slice G3 y.length g3, .slice G4 q1.length g4, .slice G5 q2.length g5] 40)).below hb5 (HX4.out.alloc _).lt)
    have HY5 := hid (HY4.out.below hb5 HY4.out.lt)
    have HR5 := hid (HR4.out.below hb5)
    clear HB4 HX4 HBA HR4 HY4 hb5 hG
    obtain ⟨⟨a0, a1, a2, a3, a4, a5⟩, -⟩ := zc HX5.out
    obtain ⟨⟨b0, b1, b2, b3, b4, b5⟩, -⟩ := zc HY5.out
    have hl1 := HX5.out.lt
    have hl2 := HY5.out.lt
    go_wp2
    go_region_with (first
      | (go_at_call 15; go_loud (with_reducible refine (hT.out _ (by repeat' (first | (with_reducible exact HB5.out) | (with_reducible refine Below.drew ?_)))).mono ?_; rintro e w6 ⟨⟨⟨K, k1, K2, k2, K3, k3, K4, k4, K5, k5⟩, rfl, hrd6⟩, hb6⟩; have hY6 := (Bx.drew HY5.out).below hb6 (Bx.drew HY5.out).lt; obtain ⟨⟨x0, x1, x2, x3, x4, x5⟩, -⟩ := zc hY6; have hR6 := NtRd.below (NtRd.drew HR5.out) hb6; have hB6 := bchain HB5.out.drew hb6))
      | (go_at_call 17; have hEE := hE.out ⟨G, g, G2, g2, G3, g3, G4, g4, G5, g5⟩ ⟨K, k1, K2, k2, K3, k3, K4, k4, K5, k5⟩ _ hR6 hrd6; simp only at hEE; with_reducible refine hEE.mono ?_; rintro e w7 ⟨rfl, hb7⟩; have hB7 := bchain hB6 hb7))
    all_goals
      go_wp2
      go_ret
      exact ⟨rfl, hB7⟩
end Go.Proofs.Ytkglkpohbckpcaa
