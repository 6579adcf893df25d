/- Plain facts: the orbits of a pattern are its cycles: each beat lies in one. Nothing of the program is named here. -/
import Derived.Test.YteaabniemlnjbaaOq
import Derived.Test.YteaabniemlnjbaaOr
import Derived.Test.YteaabniemlnjbaaTn
import Derived.Test.YteaabniemlnjbaaOt
import Derived.Test.YteaabniemlnjbaaFp
namespace Go.Proofs.Yteaabniemlnjbaa
open Go.RowKit
set_option linter.unusedVariables false

theorem nodup_sub : ∀ (A B : List Nat), A.Nodup → (∀ x ∈ A, x ∈ B) → A.length ≤ B.length := by
  intro A
  induction A with
  | nil => intro B _ _; simp
  | cons a A ih =>
    intro B hA hB
    obtain ⟨h1, h2⟩ := List.nodup_cons.1 hA
    have hb := hB a List.mem_cons_self
    have := ih (B.erase a) h2 (fun x hx => (List.mem_erase_of_ne (fun e => by subst e; exact h1 hx)).2 (hB x (List.mem_cons_of_mem _ hx)))
    rw [List.length_erase_of_mem hb] at this
    have hp : 0 < B.length := List.length_pos_of_mem hb
    rw [List.length_cons]; omega
theorem nodup_map {L : Nat → Nat} : ∀ {S : List Nat}, S.Nodup → (∀ x ∈ S, ∀ y ∈ S, L x = L y → x = y) → (S.map L).Nodup := by
  intro S
  induction S with
  | nil => intro _ _; exact List.nodup_nil
  | cons a S ih =>
    intro hS hL
    obtain ⟨h1, h2⟩ := List.nodup_cons.1 hS
    rw [List.map_cons]
    refine List.nodup_cons.2 ⟨fun h => ?_, ih h2 fun x hx y hy => hL x (List.mem_cons_of_mem _ hx) y (List.mem_cons_of_mem _ hy)⟩
    obtain ⟨x, hx, e⟩ := List.mem_map.1 h
    have := hL x (List.mem_cons_of_mem _ hx) a List.mem_cons_self e
    subst this; exact h1 hx
/-- A finite set that L leads into itself is led onto itself. -/
theorem closed_onto {L : Nat → Nat} {S : List Nat} (hS : S.Nodup) (hc : ∀ x ∈ S, L x ∈ S) (hinj : ∀ x ∈ S, ∀ y ∈ S, L x = L y → x = y) (y : Nat) (hy : y ∈ S) : ∃ z ∈ S, L z = y := by
  by_cases h : y ∈ S.map L
  · obtain ⟨z, hz, e⟩ := List.mem_map.1 h
    exact ⟨z, hz, e⟩
  · have h1 : (y :: S.map L).Nodup := List.nodup_cons.2 ⟨h, nodup_map hS hinj⟩
    have := nodup_sub _ S h1 (fun x hx => by
      rcases List.mem_cons.1 hx with rfl | hx
      · exact hy
      · obtain ⟨z, hz, rfl⟩ := List.mem_map.1 hx
        exact hc z hz)
    rw [List.length_cons, List.length_map] at this
    omega
theorem trail_next {L : Nat → Nat} : ∀ (f k : Nat) (s : List Nat), k ∉ s → ∀ x ∈ trail L f k s, L x ∈ trail L f k s ∨ L x ∈ s ∨ (trail L f k s).length = f := by
  intro f
  induction f with
  | zero => intro k s _ x hx; cases hx
  | succ f ih =>
    intro k s hk x hx
    rw [trail_out hk] at hx ⊢
    by_cases hm : L k ∈ k :: s
    · rw [trail_in hm] at hx ⊢
      have e : x = k := by simpa using hx
      subst e
      rcases List.mem_cons.1 hm with h | h
      · left; rw [h]; exact List.mem_cons_self
      · right; left; exact h
    · rcases List.mem_cons.1 hx with rfl | hx
      · cases f with
        | zero => right; right; simp [trail]
        | succ f =>
          left
          rw [trail_out hm]
          exact List.mem_cons_of_mem _ List.mem_cons_self
      · rcases ih (L k) (k :: s) hm x hx with h | h | h
        · left; exact List.mem_cons_of_mem _ h
        · rcases List.mem_cons.1 h with h | h
          · left; rw [h]; exact List.mem_cons_self
          · right; left; exact h
        · right; right; rw [List.length_cons, h]
theorem seen_all {n : Nat} {s : List Nat} (h : SeenOk n s) (hl : s.length = n) (x : Nat) (hx : x < n) : x ∈ s := by
  by_cases hm : x ∈ s
  · exact hm
  · have := nodup_lt h.1 h.2 hx hm
    omega
/-- A trail is a cycle. -/
theorem trail_closed {L : Nat → Nat} {n : Nat} (hL : ∀ k, L k < n) (hinj : ∀ x y, x < n → y < n → L x = L y → x = y) {k : Nat} {s : List Nat} (hs : SeenOk n s) (hc : ∀ x ∈ s, L x ∈ s) (hk : k < n) (hm : k ∉ s) :
    ∀ x ∈ trail L (n - s.length) k s, L x ∈ trail L (n - s.length) k s := by
  intro x hx
  obtain ⟨h1, h2⟩ := trail_ok hL (n - s.length) k s hs hk
  have hdis : ∀ y ∈ trail L (n - s.length) k s, y ∉ s := by
    intro y hy hys
    have := (List.nodup_append.1 h1.1).2.2 y (List.mem_reverse.2 hy) y hys
    exact this rfl
  have hin : L x ∈ trail L (n - s.length) k s ∨ L x ∈ s := by
    rcases trail_next (n - s.length) k s hm x hx with h | h | h
    · exact .inl h
    · exact .inr h
    · have hle := nodup_len hs.1 hs.2
      have := seen_all h1 (by rw [List.length_append, List.length_reverse, h]; omega) (L x) (hL x)
      rcases List.mem_append.1 this with h | h
      · exact .inl (List.mem_reverse.1 h)
      · exact .inr h
  rcases hin with h | h
  · exact h
  · obtain ⟨z, hz, e⟩ := closed_onto hs.1 hc (fun a ha b hb => hinj a b (hs.2 a ha) (hs.2 b hb)) (L x) h
    have := hinj z x (hs.2 z hz) (h2 x hx) e
    subst this
    exact absurd hz (hdis z hx)
/-- All orbits: cycles that have no beat in common. -/
theorem orbF_all {L : Nat → Nat} {n : Nat} (hL : ∀ k, L k < n) (hinj : ∀ x y, x < n → y < n → L x = L y → x = y) : ∀ (f i : Nat) (s : List Nat), SeenOk n s → (∀ x ∈ s, L x ∈ s) → i + f ≤ n →
    (orbF L n f i s).flatten.Nodup ∧ (∀ x ∈ (orbF L n f i s).flatten, x ∉ s) ∧ ∀ row ∈ orbF L n f i s, ∀ x ∈ row, L x ∈ row := by
  intro f
  induction f with
  | zero => intro i s _ _ _; simp [orbF]
  | succ f ih =>
    intro i s hs hc hi
    by_cases hm : i ∈ s
    · rw [orbF_in hm]; exact ih _ _ hs hc (by omega)
    · rw [orbF_out hm]
      obtain ⟨h1, h2⟩ := trail_ok hL (n - s.length) i s hs (by omega)
      have h3 := trail_closed hL hinj hs hc (by omega) hm
      generalize trail L (n - s.length) i s = t at *
      obtain ⟨g1, g2, g3⟩ := ih (i + 1) (t.reverse ++ s) h1 (fun x hx => by
        rcases List.mem_append.1 hx with h | h
        · exact List.mem_append.2 (.inl (List.mem_reverse.2 (h3 x (List.mem_reverse.1 h))))
        · exact List.mem_append.2 (.inr (hc x h))) (by omega)
      obtain ⟨n1, n2, n3⟩ := List.nodup_append.1 h1.1
      have n1 : t.Nodup := by
        unfold List.Nodup at n1 ⊢
        rw [List.pairwise_reverse] at n1
        exact n1.imp fun h e => h e.symm
      refine ⟨?_, ?_, ?_⟩
      · rw [List.flatten_cons]
        refine List.nodup_append.2 ⟨n1, g1, fun a ha b hb e => ?_⟩
        subst e
        exact g2 a hb (List.mem_append.2 (.inl (List.mem_reverse.2 ha)))
      · intro x hx
        rw [List.flatten_cons] at hx
        rcases List.mem_append.1 hx with h | h
        · exact fun hxs => n3 x (List.mem_reverse.2 h) x hxs rfl
        · exact fun hxs => g2 x h (List.mem_append.2 (.inr hxs))
      · intro row hr
        rcases List.mem_cons.1 hr with rfl | hr
        · exact h3
        · exact g3 row hr
theorem Lp_inj {p : List Int} (h : okP p = true) (x y : Nat) (hx : x < p.length) (hy : y < p.length) (e : Lp p x = Lp p y) : x = y := by
  have h1 := (thOk_iff (okP_th h)).2.1
  by_cases hxy : x = y
  · exact hxy
  · exfalso
    refine okP_ne h hx hy hxy ?_
    rw [← Lp_int (p := p) (k := x) h1, ← Lp_int (p := p) (k := y) h1, e]
theorem natI_flat : ∀ rs : List (List Nat), (rs.map natI).flatten = natI rs.flatten := by
  intro rs
  induction rs with
  | nil => rfl
  | cons r rs ih =>
    rw [List.map_cons, List.flatten_cons, List.flatten_cons, ih]
    simp [natI]
/-- What is known of the orbits of a pattern. -/
theorem orbs_all {p : List Int} (h : okP p = true) : (orbN p).flatten.Nodup ∧ (∀ x ∈ (orbN p).flatten, x < p.length) ∧ (∀ x, x < p.length → x ∈ (orbN p).flatten) ∧ ∀ row ∈ orbN p, ∀ x ∈ row, Lp p x ∈ row := by
  have h1 := (thOk_iff (okP_th h)).2.1
  have hL := fun k => Lp_lt (p := p) (k := k) h1
  obtain ⟨g1, g2, g3⟩ := orbF_all hL (Lp_inj h) p.length 0 [] (SeenOk.nil _) (fun x hx => by cases hx) (by omega)
  refine ⟨g1, fun x hx => ?_, fun x hx => ?_, g3⟩
  · obtain ⟨row, hr, hxr⟩ := List.mem_flatten.1 hx
    exact orbF_bd hL p.length 0 [] (SeenOk.nil _) (by omega) row hr x hxr
  · rcases orbF_cover hL p.length 0 [] (SeenOk.nil _) (by omega) x (by omega) (by omega) with h | ⟨row, hr, hx⟩
    · cases h
    · exact List.mem_flatten.2 ⟨row, hr, hx⟩
theorem sumAt_append (p : List Int) : ∀ a b : List Int, sumAt p (a ++ b) = sumAt p a + sumAt p b := by
  intro a
  induction a with
  | nil => intro b; simp [sumAt]
  | cons x a ih => intro b; simp only [List.cons_append, sumAt, ih]; omega
theorem sumAt_natI {p : List Int} (h : okP p = true) : ∀ (S : List Nat), sumAt p (natI S) = ((sumN (fun i => pN p (S.getD i 0)) S.length : Nat) : Int) := by
  intro S
  induction S with
  | nil => rfl
  | cons x S ih =>
    have e : natI (x :: S) = (x : Int) :: natI S := rfl
    rw [e, sumAt, ih, List.length_cons, sumN_shift, Int.toNat_natCast]
    have e2 := pN_int h x
    show p.getD x 0 + _ = ((pN p x + sumN (fun i => pN p (S.getD i 0)) S.length : Nat) : Int)
    omega
/-- All throws once. -/
theorem sumAt_all {p : List Int} (h : okP p = true) : sumAt p (orbs p).flatten = sumL p := by
  obtain ⟨g1, g2, g3, _⟩ := orbs_all h
  have hlen : (orbN p).flatten.length = p.length := by
    have h1 := nodup_len g1 g2
    have h2 := nodup_sub (List.range p.length) _ List.nodup_range (fun x hx => g3 x (List.mem_range.1 hx))
    rw [List.length_range] at h2
    omega
  rw [orbs, natI_flat, sumAt_natI h, hlen]
  have hgetM : ∀ i, i < p.length → (orbN p).flatten.getD i 0 ∈ (orbN p).flatten := by
    intro i hi
    rw [List.getD_eq_getElem?_getD, List.getElem?_eq_getElem (by omega)]
    exact List.getElem_mem _
  rw [sumN_perm (fun i => (orbN p).flatten.getD i 0) (fun i hi => g2 _ (hgetM i hi)) (fun i j hi hj hij e => by
    have e : (orbN p).flatten.getD i 0 = (orbN p).flatten.getD j 0 := e
    rw [List.getD_eq_getElem?_getD, List.getD_eq_getElem?_getD, List.getElem?_eq_getElem (by omega), List.getElem?_eq_getElem (by omega)] at e
    exact hij ((List.getElem_inj g1).1 e)) (pN p)]
  exact (sumL_sumN p (fun x hx => ((thOk_iff (okP_th h)).1 x hx).1)).symm
theorem putAll_getD (p : List Int) (j : Nat) : ∀ (r : List Nat) (o : List Int), j < o.length → (putAll p (natI r) o).getD j 0 = if j ∈ r then p.getD j 0 else o.getD j 0 := by
  intro r
  induction r with
  | nil => intro o _; simp [natI, putAll]
  | cons k r ih =>
    intro o hj
    have e : natI (k :: r) = (k : Int) :: natI r := rfl
    rw [e, putAll, Int.toNat_natCast, ih _ (by rw [List.length_set]; exact hj), getD_set']
    by_cases h1 : j ∈ r
    · rw [if_pos h1, if_pos (List.mem_cons_of_mem _ h1)]
    · rw [if_neg h1]
      by_cases h2 : k = j
      · subst h2; rw [if_pos ⟨rfl, hj⟩, if_pos List.mem_cons_self]
      · rw [if_neg (fun e => h2 e.1), if_neg]
        intro hm
        rcases List.mem_cons.1 hm with h | h
        · exact h2 h.symm
        · exact h1 h
theorem orbPat_getD {p : List Int} {r : List Nat} {j : Nat} (hj : j < p.length) : (orbPat p (natI r)).getD j 0 = if j ∈ r then p.getD j 0 else 0 := by
  unfold orbPat
  rw [putAll_getD p j r _ (by rw [List.length_replicate]; exact hj)]
  by_cases h : j ∈ r
  · rw [if_pos h, if_pos h]
  · rw [if_neg h, if_neg h, List.getD_eq_getElem?_getD, List.getElem?_replicate, if_pos hj]; rfl
theorem orbPat_ok {p : List Int} (h : okP p = true) {r : List Nat} (hc : ∀ x ∈ r, Lp p x ∈ r) : okP (orbPat p (natI r)) = true := by
  obtain ⟨h1, h2, h3⟩ := thOk_iff (okP_th h)
  have hth : thOk (orbPat p (natI r)) = true := thOk_mk (fun x hx => by
    obtain ⟨j, hj, rfl⟩ := List.getElem_of_mem hx
    have hjl : j < p.length := by rwa [orbPat_len] at hj
    have e := orbPat_getD (p := p) (r := r) hjl
    rw [List.getD_eq_getElem?_getD, List.getElem?_eq_getElem hj] at e
    have e : (orbPat p (natI r))[j] = if j ∈ r then p.getD j 0 else 0 := e
    rw [e]
    split
    · exact getD_bd (okP_th h) j
    · omega) (by rw [orbPat_len]; exact h2) (by rw [orbPat_len]; exact h3)
  have hLd : ∀ j, j < p.length → Ld (orbPat p (natI r)) j = if j ∈ r then Ld p j else (j : Int) := by
    intro j hj
    unfold Ld
    rw [orbPat_getD hj, orbPat_len]
    split
    · rfl
    · rw [Int.add_zero, Int.emod_eq_of_lt (by omega) (by omega)]
  refine ok_mk hth fun a b hab hb => ?_
  rw [orbPat_len] at hb
  rw [hLd a (by omega), hLd b hb]
  have hLi := fun k => Lp_int (p := p) (k := k) h2
  by_cases ha : a ∈ r <;> by_cases hbr : b ∈ r
  · rw [if_pos ha, if_pos hbr]; exact okP_ne h (by omega) hb (by omega)
  · rw [if_pos ha, if_neg hbr, ← hLi]
    intro e
    have e : Lp p a = b := by omega
    exact hbr (e ▸ hc a ha)
  · rw [if_neg ha, if_pos hbr, ← hLi]
    intro e
    have e : Lp p b = a := by omega
    exact ha (e ▸ hc b hbr)
  · rw [if_neg ha, if_neg hbr]; omega
theorem putAll_sum (p : List Int) : ∀ (r : List Nat) (o : List Int), r.Nodup → (∀ x ∈ r, x < o.length ∧ o.getD x 0 = 0) → sumL (putAll p (natI r) o) = sumL o + sumAt p (natI r) := by
  intro r
  induction r with
  | nil => intro o _ _; simp [natI, putAll, sumAt]
  | cons k r ih =>
    intro o hr ho
    obtain ⟨n1, n2⟩ := List.nodup_cons.1 hr
    obtain ⟨hk1, hk2⟩ := ho k List.mem_cons_self
    have e : natI (k :: r) = (k : Int) :: natI r := rfl
    rw [e, putAll, Int.toNat_natCast, ih _ n2 (fun x hx => by
      obtain ⟨g1, g2⟩ := ho x (List.mem_cons_of_mem _ hx)
      refine ⟨by rw [List.length_set]; exact g1, ?_⟩
      rw [getD_set', if_neg (fun h => n1 (by rw [h.1]; exact hx))]
      exact g2), sumL_set _ _ _ hk1, hk2, sumAt, Int.toNat_natCast]
    omega
theorem sumL_zero : ∀ n : Nat, sumL (List.replicate n 0) = 0 := by
  intro n
  induction n with
  | zero => rfl
  | succ n ih => simp [List.replicate_succ, sumL, ih]
theorem orbPat_sum {p : List Int} {r : List Nat} (hr : r.Nodup) (hb : ∀ x ∈ r, x < p.length) : sumL (orbPat p (natI r)) = sumAt p (natI r) := by
  unfold orbPat
  rw [putAll_sum p r _ hr (fun x hx => ⟨by rw [List.length_replicate]; exact hb x hx, by rw [List.getD_eq_getElem?_getD, List.getElem?_replicate, if_pos (hb x hx)]; rfl⟩), sumL_zero]
  omega
theorem orbPat_props {p : List Int} {r : List Nat} (hr : r.Nodup) (hb : ∀ x ∈ r, x < p.length) : prN (orbPat p (natI r)) = orbProp p (natI r) := by
  unfold prN orbProp
  rw [orbPat_sum hr hb, orbPat_len]
theorem nodup_row {rs : List (List Nat)} (h : rs.flatten.Nodup) {r : List Nat} (hr : r ∈ rs) : r.Nodup := by
  induction rs with
  | nil => cases hr
  | cons a rs ih =>
    rw [List.flatten_cons] at h
    obtain ⟨n1, n2, _⟩ := List.nodup_append.1 h
    rcases List.mem_cons.1 hr with rfl | hr
    · exact n1
    · exact ih n2 hr
/-- The props of the orbits add up. -/
theorem orbPs_sum {p : List Int} (h : okP p = true) : sumL (orbPs p) = prN p := by
  have hn := (thOk_iff (okP_th h)).2.1
  obtain ⟨g1, g2, g3, g4⟩ := orbs_all h
  have key : ∀ rs : List (List Nat), (∀ r ∈ rs, r.Nodup ∧ (∀ x ∈ r, x < p.length) ∧ ∀ x ∈ r, Lp p x ∈ r) → sumL ((rs.map natI).map (orbProp p)) * (p.length : Int) = sumAt p (rs.map natI).flatten := by
    intro rs
    induction rs with
    | nil => intro _; simp [sumL, sumAt]
    | cons r rs ih =>
      intro hrs
      obtain ⟨r1, r2, r3⟩ := hrs r List.mem_cons_self
      have hm := prN_mul (orbPat_ok h r3)
      rw [orbPat_props r1 r2, orbPat_len, orbPat_sum r1 r2] at hm
      have := ih fun x hx => hrs x (List.mem_cons_of_mem _ hx)
      simp only [List.map_cons, List.flatten_cons, sumL, sumAt_append]
      rw [Int.add_mul, hm, this]
  have hk := key (orbN p) (fun r hr => ⟨nodup_row g1 hr, fun x hx => g2 x (List.mem_flatten.2 ⟨r, hr, hx⟩), g4 r hr⟩)
  have hs := sumAt_all h
  rw [show (orbN p).map natI = orbs p from rfl, hs, ← prN_mul h] at hk
  exact Int.eq_of_mul_eq_mul_right (by omega) hk
theorem fpN_dvd : ∀ (ms : List Int) (c : Nat), c ∣ fpN ms c ∧ ∀ m ∈ ms, 0 < m → m.toNat ∣ fpN ms c := by
  intro ms
  induction ms with
  | nil => intro c; exact ⟨Nat.dvd_refl _, fun m hm => by cases hm⟩
  | cons m ms ih =>
    intro c
    by_cases h : 0 < m
    · rw [fpN_pos h]
      obtain ⟨h1, h2⟩ := ih (Nat.lcm c m.toNat)
      refine ⟨Nat.dvd_trans (Nat.dvd_lcm_left _ _) h1, fun x hx hx0 => ?_⟩
      rcases List.mem_cons.1 hx with rfl | hx
      · exact Nat.dvd_trans (Nat.dvd_lcm_right _ _) h1
      · exact h2 x hx hx0
    · rw [fpN_not h]
      obtain ⟨h1, h2⟩ := ih c
      refine ⟨h1, fun x hx hx0 => ?_⟩
      rcases List.mem_cons.1 hx with rfl | hx
      · exact absurd hx0 h
      · exact h2 x hx hx0
theorem fpN_small : ∀ (ms : List Int) (c : Nat), Small c → (∀ m ∈ ms, 0 ≤ m ∧ m ≤ 15) → Small (fpN ms c) := by
  intro ms
  induction ms with
  | nil => intro c h _; exact h
  | cons m ms ih =>
    intro c hc hm
    have h1 := hm m List.mem_cons_self
    by_cases h : 0 < m
    · rw [fpN_pos h]; exact ih _ (hc.lcm (by omega) (by omega)) fun x hx => hm x (List.mem_cons_of_mem _ hx)
    · rw [fpN_not h]; exact ih _ hc fun x hx => hm x (List.mem_cons_of_mem _ hx)
theorem frow_at {x : Int} : ∀ (rs : List (List Int)) (j k : Nat) (row : List Int), rs[k]? = some row → x ∈ row → (∀ (k' : Nat) (r' : List Int), k' < k → rs[k']? = some r' → x ∉ r') → frow x j rs = some (j + k) := by
  intro rs
  induction rs with
  | nil => intro j k row h _ _; simp at h
  | cons r rs ih =>
    intro j k row h hx hno
    cases k with
    | zero =>
      simp at h; subst h
      rw [frow_yes hx]; rfl
    | succ k =>
      rw [frow_not (hno 0 r (by omega) rfl)]
      rw [ih (j + 1) k row (by simpa using h) hx (fun k' r' hk hr => hno (k' + 1) r' (by omega) (by simpa using hr))]
      congr 1; omega
/-- The beats of the first k orbits. -/
def firstO (p : List Int) (k : Nat) : List Nat := ((orbN p).take k).flatten
theorem firstO_step {p : List Int} {k : Nat} {r : List Nat} (hr : (orbN p)[k]? = some r) : firstO p (k + 1) = firstO p k ++ r := by
  unfold firstO
  rw [List.take_add_one, hr]; simp
theorem firstO_all (p : List Int) {k : Nat} (h : (orbN p).length ≤ k) : firstO p k = (orbN p).flatten := by
  unfold firstO; rw [List.take_of_length_le h]
theorem firstO_dis {p : List Int} (h : okP p = true) {k : Nat} {r : List Nat} (hr : (orbN p)[k]? = some r) {x : Nat} (hx : x ∈ r) : x ∉ firstO p k := by
  obtain ⟨g1, _⟩ := orbs_all h
  intro hf
  have hk := (List.getElem?_eq_some_iff.1 hr).1
  have e : (orbN p).flatten = firstO p (k + 1) ++ ((orbN p).drop (k + 1)).flatten := by
    unfold firstO; rw [← List.flatten_append, List.take_append_drop]
  rw [e, firstO_step hr] at g1
  have g2 := (List.nodup_append.1 g1).1
  exact (List.nodup_append.1 g2).2.2 x hf x hx rfl
theorem orbs_get {p : List Int} {k : Nat} {row : List Int} (h : (orbs p)[k]? = some row) : ∃ r, (orbN p)[k]? = some r ∧ row = natI r := by
  rw [orbs, List.getElem?_map] at h
  cases hr : (orbN p)[k]? with
  | none => rw [hr] at h; cases h
  | some r => rw [hr] at h; exact ⟨r, rfl, (Option.some.inj h).symm⟩
theorem orbitOf_row {p : List Int} (h : okP p = true) {k : Nat} {r : List Nat} (hr : (orbN p)[k]? = some r) {x : Nat} (hx : x ∈ r) : rOrbitOf p (x : Int) = ((k : Int), 0) := by
  have h1 : (orbs p)[k]? = some (natI r) := by rw [orbs, List.getElem?_map, hr]; rfl
  have h2 := frow_at (x := (x : Int)) (orbs p) 0 k (natI r) h1 (List.mem_map.2 ⟨x, hx, rfl⟩) (fun k' r' hk hr' hxr => by
    obtain ⟨r2, hr2, rfl⟩ := orbs_get hr'
    obtain ⟨y, hy, e⟩ := List.mem_map.1 hxr
    have e : y = x := by omega
    subst e
    refine firstO_dis h hr hx ?_
    unfold firstO
    exact List.mem_flatten.2 ⟨r2, List.mem_of_getElem? (by rw [List.getElem?_take_of_lt hk]; exact hr2), hy⟩)
  rw [rOrbitOf, if_pos h, h2, Nat.zero_add]; rfl
/-- The sums so far, and with one orbit more. -/
theorem orbPat_add {p : List Int} (h : okP p = true) {k : Nat} {r : List Nat} (hr : (orbN p)[k]? = some r) {j : Nat} (hj : j < p.length) : (orbPat p (natI (firstO p (k + 1)))).getD j 0 = (orbPat p (natI (firstO p k))).getD j 0 + (orbPat p (natI r)).getD j 0 := by
  rw [orbPat_getD hj, orbPat_getD hj, orbPat_getD hj, firstO_step hr]
  by_cases h1 : j ∈ r
  · have h2 := firstO_dis h hr h1
    rw [if_pos (List.mem_append.2 (.inr h1)), if_neg h2, if_pos h1]; omega
  · by_cases h2 : j ∈ firstO p k
    · rw [if_pos (List.mem_append.2 (.inl h2)), if_pos h2, if_neg h1]; omega
    · rw [if_neg (fun e => (List.mem_append.1 e).elim h2 h1), if_neg h2, if_neg h1]; rfl
theorem orbPat_all {p : List Int} (h : okP p = true) {k : Nat} (hk : (orbN p).length ≤ k) : orbPat p (natI (firstO p k)) = p := by
  obtain ⟨_, _, g3, _⟩ := orbs_all h
  refine list_ext (orbPat_len _ _) fun j hj => ?_
  rw [orbPat_len] at hj
  rw [orbPat_getD hj, firstO_all p hk, if_pos (g3 j hj)]
theorem orbPat_bd {p : List Int} (h : okP p = true) (r : List Nat) {j : Nat} (hj : j < p.length) : 0 ≤ (orbPat p (natI r)).getD j 0 ∧ (orbPat p (natI r)).getD j 0 ≤ 15 := by
  rw [orbPat_getD hj]
  split
  · exact getD_bd (okP_th h) j
  · omega
end Go.Proofs.Yteaabniemlnjbaa
