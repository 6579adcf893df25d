/- Several texts in one: Ws, Np. -/
import Derived.Test.YtgphkfnobmponaaGreatG31
import Derived.Test.YtgphkfnobmponaaGreatG47
import Derived.Test.YtgphkfnobmponaaGreatG41
/- Plain: a notation is read back from its text; a text has no fault just if it is one of a notation. -/
namespace Go.Proofs.YtgphkfnobmponaaGreat
open Go.RowKit
set_option linter.unusedVariables false

theorem rdT_ch {l : List UInt8} {t : Thr} (h : rdT l = some t) : ∀ c ∈ l, chOk 3 c = true := by
  unfold rdT at h
  split at h
  · rename_i c
    split at h
    · rename_i ht
      intro x hx
      rw [List.mem_singleton.1 hx]
      exact ch_dig (thrOk_iff.1 ht).1.1
    · cases h
  · rename_i c x
    split at h
    · rename_i hx
      split at h
      · rename_i ht
        intro y hy
        rcases List.mem_cons.1 hy with rfl | hy
        · exact ch_dig (thrOk_iff.1 ht).1.1
        · rw [List.mem_singleton.1 hy, hx]; exact ch_ex (by decide)
      · cases h
    · cases h
  · cases h
theorem rdOwn_ch {l : List UInt8} {b : Beat} (h : rdOwn l = some b) : ∀ c ∈ l, chOk 3 c = true := by
  unfold rdOwn at h
  split at h
  · rename_i hc
    rcases cutL_spec 44 l with ⟨_, he, _⟩ | ⟨h1, _⟩
    · cases h1 : rdT (cutL 44 l).1 with
      | none => rw [h1] at h; cases h
      | some x =>
        cases h2 : rdT (cutL 44 l).2.1 with
        | none => rw [h1, h2] at h; cases h
        | some y =>
          intro c hc
          rw [he] at hc
          rcases List.mem_append.1 hc with hc | hc
          · exact rdT_ch h1 c hc
          · rcases List.mem_cons.1 hc with rfl | hc
            · exact ch_ex (by decide)
            · exact rdT_ch h2 c hc
    · rw [h1] at hc; cases hc
  · cases h
theorem pB_ch : ∀ {n : Nat} {l : List UInt8} {p : List Beat}, pB n l = some p → ∀ c ∈ l, chOk 3 c = true
  | _, [], _, _, c, hc => by simp at hc
  | 0, _ :: _, _, h, _, _ => by rw [pB] at h; cases h
  | n + 1, x :: r, p, h, c, hc => by
    rw [pB] at h
    split at h
    · rename_i hx
      split at h
      · rename_i hcut
        rcases cutL_spec 41 r with ⟨_, he, _⟩ | ⟨h1, _⟩
        · cases ho : rdOwn (cutL 41 r).1 with
          | none => rw [ho] at h; cases h
          | some b =>
            rw [ho] at h
            simp only at h
            cases hp : pB n (cutL 41 r).2.1 with
            | none => rw [hp] at h; cases h
            | some q =>
              have ih := pB_ch hp
              rcases List.mem_cons.1 hc with rfl | hc
              · rw [hx]; exact ch_ex (by decide)
              · rw [he] at hc
                rcases List.mem_append.1 hc with hc | hc
                · exact rdOwn_ch ho c hc
                · rcases List.mem_cons.1 hc with rfl | hc
                  · exact ch_ex (by decide)
                  · exact ih c hc
        · rw [h1] at hcut; cases hcut
      · cases h
    · cases h
theorem rdB_ch {l : List UInt8} {p : List Beat} (h : rdB l = some p) : ∀ c ∈ l, chOk 3 c = true := by
  unfold rdB at h
  cases hp : pB 6 l with
  | none => rw [hp] at h; cases h
  | some q => exact pB_ch hp
theorem last_split {l : List UInt8} {x : UInt8} (h : l.getLast? = some x) : l = l.dropLast ++ [x] := by
  rcases List.eq_nil_or_concat l with rfl | ⟨q, b, rfl⟩
  · simp at h
  · rw [List.concat_eq_append] at h ⊢
    rw [List.getLast?_append] at h
    simp at h
    rw [List.dropLast_concat, h]
theorem note_ok {l : List UInt8} (h : noteR l = true) : (∀ c ∈ l, chOk (kinR l) c = true) ∧ formR l = true := by
  rcases kinR_cases l with hk | hk | hk | hk
  · rw [noteR_1 hk] at h
    obtain ⟨hb, _⟩ := thOk_iff (okP_th h)
    refine ⟨fun c hc => ch_dig (hb _ (List.mem_map.2 ⟨c, hc, rfl⟩)).1, ?_⟩
    unfold formR
    rw [if_pos hk]; exact okP_th h
  · rw [noteR_2 hk] at h
    obtain ⟨h1, h2⟩ := multi_back (s := l) (rows := (rReadMulti l).1) (by rw [← h])
    have hbd : ∀ r ∈ (rReadMulti l).1, ∀ t ∈ r, 0 ≤ t ∧ t ≤ 15 := fun r hr t ht => mstOk_bd ((msSh_iff.1 (mOk_iff.1 h1).1).2 r hr) ht
    rw [hk]
    refine ⟨fun c hc => ?_, ?_⟩
    · rw [← h2] at hc
      rcases mT_ch hbd c hc with rfl | rfl | ⟨v, hv, rfl⟩
      · exact ch_ex (by decide)
      · exact ch_ex (by decide)
      · exact ch_hex hv.1 hv.2
    · unfold formR
      rw [if_neg (by omega), if_pos hk]
      cases hr : rdM l with
      | some q => rfl
      | none => unfold rReadMulti at h; rw [hr] at h; cases h
  · rw [noteR_3 hk] at h
    rw [hk]
    by_cases h42 : l.getLast? = some 42
    · rw [rRead_star h42] at h
      cases hr : rdB l.dropLast with
      | none => rw [hr] at h; cases h
      | some p =>
        rw [hr] at h
        refine ⟨fun c hc => ?_, ?_⟩
        · rw [last_split h42] at hc
          rcases List.mem_append.1 hc with hc | hc
          · exact rdB_ch hr c hc
          · rw [List.mem_singleton.1 hc]; exact ch_ex (by decide)
        · unfold formR
          rw [if_neg (by omega), if_neg (by omega), if_pos hk, if_pos h42, hr]
          have h2 : (rStarSync p).2 = 0 := by simpa [rsStar] using h
          unfold rStarSync at h2
          rw [if_pos (rdB_ok hr)] at h2
          split at h2
          · cases h2
          · exact decide_eq_true (by omega)
    · rw [rRead_else h42] at h
      cases hr : rdB l with
      | none => rw [hr] at h; cases h
      | some p =>
        refine ⟨fun c hc => rdB_ch hr c hc, ?_⟩
        unfold formR
        rw [if_neg (by omega), if_neg (by omega), if_pos hk, if_neg h42, hr]; rfl
  · rw [noteR_4 hk] at h
    rw [hk]
    cases hr : rdPa l with
    | none => unfold rReadPassing at h; rw [hr] at h; cases h
    | some p =>
      obtain ⟨h1, h2⟩ := rdPa_back hr
      refine ⟨fun c hc => ?_, ?_⟩
      · rw [← h1] at hc
        rcases paT_ch h2 c hc with rfl | rfl | rfl | rfl | rfl | ⟨v, hv, rfl⟩
        · exact ch_ex (by decide)
        · exact ch_ex (by decide)
        · exact ch_ex (by decide)
        · exact ch_ex (by decide)
        · exact ch_ex (by decide)
        · exact ch_hex hv.1 hv.2
      · unfold formR
        rw [if_neg (by omega), if_neg (by omega), if_neg (by omega), hr]; rfl
theorem note_nil : noteR [] = false := by decide
/-- A text has no fault just if it is one of a notation. -/
theorem fault_note (s : ByteArray) : (rReadNotation (tl s)).2 = ((rNotationFault s).1 == 0) ∧ 0 ≤ (rNotationFault s).1 ∧ (rNotationFault s).1 ≤ 5 := by
  by_cases h0 : tl s = []
  · rw [rNF_empty h0, h0, rRN_no (by simp) note_nil]
    exact ⟨rfl, by decide, by decide⟩
  · by_cases h200 : 200 < s.size
    · rw [rNF_long h0 h200, rRN_big (by rw [tl_len]; exact h200)]
      exact ⟨rfl, by decide, by decide⟩
    · have hle : (tl s).length ≤ 200 := by rw [tl_len]; omega
      rw [rNF_else h0 (by omega), List.drop_zero]
      cases hn : noteR (tl s) with
      | true =>
        obtain ⟨h1, h2⟩ := note_ok hn
        rw [badF_all h1, faultB_note h2 hn, rRN_yes hle hn]
        exact ⟨rfl, by decide, by decide⟩
      | false =>
        rw [rRN_no hle hn]
        cases hb : badF (kinR (tl s)) 0 (tl s) with
        | some i => rw [faultB_some]; exact ⟨rfl, show (0 : Int) ≤ 3 by decide, show (3 : Int) ≤ 5 by decide⟩
        | none =>
          cases hf : formR (tl s) with
          | false => rw [faultB_form hf]; exact ⟨rfl, by decide, by decide⟩
          | true =>
            by_cases hk : kinR (tl s) = 1
            · rw [faultB_col hf hn hk]; exact ⟨rfl, show (0 : Int) ≤ 5 by decide, show (5 : Int) ≤ 5 by decide⟩
            · rw [faultB_els hf hn hk]; exact ⟨rfl, by decide, by decide⟩
theorem part_kind (l : List UInt8) : (partN l).1 = (kinR l : Int) := by
  rcases kinR_cases l with hk | hk | hk | hk
  · rw [partN_1 hk, hk]; rfl
  · rw [partN_2 hk, hk]; rfl
  · rw [partN_3 hk, hk]; rfl
  · rw [partN_4 hk, hk]; rfl
theorem read_kind {l : List UInt8} {x : Note} (h : rReadNotation l = (x, true)) : x.1 = (kinR l : Int) := by
  unfold rReadNotation at h
  split at h
  · injection h with _ h; cases h
  · split at h
    · injection h with h _
      rw [← h]; exact part_kind l
    · injection h with _ h; cases h
theorem ebN_1 {p : List Int} {m : List (List Int)} {y : List Beat} {q : Psg} (h : ebN (1, p, m, y, q) = true) : m = [] ∧ y = [] ∧ q = ([], []) := by
  simp only [ebN, ebL, Bool.and_eq_true, Bool.or_eq_true, beq_iff_eq] at h
  obtain ⟨⟨⟨_, h2⟩, h3⟩, h4⟩ := h
  obtain ⟨q1, q2⟩ := q
  simp only at h2 h3 h4
  refine ⟨List.eq_nil_of_length_eq_zero (by omega), List.eq_nil_of_length_eq_zero (by omega), ?_⟩
  rw [List.eq_nil_of_length_eq_zero (l := q1) (by omega), List.eq_nil_of_length_eq_zero (l := q2) (by omega)]
theorem ebN_2 {p : List Int} {m : List (List Int)} {y : List Beat} {q : Psg} (h : ebN (2, p, m, y, q) = true) : p = [] ∧ y = [] ∧ q = ([], []) := by
  simp only [ebN, ebL, Bool.and_eq_true, Bool.or_eq_true, beq_iff_eq] at h
  obtain ⟨⟨⟨h1, _⟩, h3⟩, h4⟩ := h
  obtain ⟨q1, q2⟩ := q
  simp only at h1 h3 h4
  refine ⟨List.eq_nil_of_length_eq_zero (by omega), List.eq_nil_of_length_eq_zero (by omega), ?_⟩
  rw [List.eq_nil_of_length_eq_zero (l := q1) (by omega), List.eq_nil_of_length_eq_zero (l := q2) (by omega)]
theorem ebN_3 {p : List Int} {m : List (List Int)} {y : List Beat} {q : Psg} (h : ebN (3, p, m, y, q) = true) : p = [] ∧ m = [] ∧ q = ([], []) := by
  simp only [ebN, ebL, Bool.and_eq_true, Bool.or_eq_true, beq_iff_eq] at h
  obtain ⟨⟨⟨h1, h2⟩, _⟩, h4⟩ := h
  obtain ⟨q1, q2⟩ := q
  simp only at h1 h2 h4
  refine ⟨List.eq_nil_of_length_eq_zero (by omega), List.eq_nil_of_length_eq_zero (by omega), ?_⟩
  rw [List.eq_nil_of_length_eq_zero (l := q1) (by omega), List.eq_nil_of_length_eq_zero (l := q2) (by omega)]
theorem ebN_4 {p : List Int} {m : List (List Int)} {y : List Beat} {q : Psg} (h : ebN (4, p, m, y, q) = true) : p = [] ∧ m = [] ∧ y = [] := by
  simp only [ebN, ebL, Bool.and_eq_true, Bool.or_eq_true, beq_iff_eq] at h
  obtain ⟨⟨⟨h1, h2⟩, h3⟩, _⟩ := h
  exact ⟨List.eq_nil_of_length_eq_zero (by omega), List.eq_nil_of_length_eq_zero (by omega), List.eq_nil_of_length_eq_zero (by omega)⟩
/-- A notation of the kind of its text is read back from it. -/
theorem text_back (x : Note) : (ntOk x = false ∧ rNotationText x = [] ∧ (rReadNotation (rNotationText x)).2 = false) ∨ (ntOk x = true ∧ rNotationText x ≠ [] ∧ (rNotationText x).length ≤ 200 ∧ (rReadNotation (rNotationText x)).2 = true ∧ ((kinR (rNotationText x) : Int) = x.1 → rReadNotation (rNotationText x) = (x, true))) := by
  cases hx : ntOk x with
  | false =>
    left
    have e : rNotationText x = [] := by rw [rNotationText, hx]; rfl
    rw [e, rRN_no (by simp) note_nil]
    exact ⟨rfl, rfl, rfl⟩
  | true =>
    right
    obtain ⟨k, p, m, y, q⟩ := x
    have hx2 := hx
    unfold ntOk at hx2
    rw [Bool.and_eq_true] at hx2
    obtain ⟨he, hs⟩ := hx2
    unfold swN at hs
    unfold rNotationText
    rw [if_pos hx]
    simp only at hs ⊢
    by_cases k1 : k = 1
    · subst k1
      rw [if_pos rfl] at hs ⊢
      obtain ⟨rfl, rfl, rfl⟩ := ebN_1 he
      obtain ⟨hb, h1, h12⟩ := thOk_iff (okP_th hs)
      have hk := kin_p hb
      have hn : noteR (p.map hexU) = true := by rw [noteR_1 hk, rdDig_hex hb]; exact hs
      have hr : rReadNotation (p.map hexU) = ((1, p, [], [], ([], [])), true) := by
        rw [rRN_yes (by rw [List.length_map]; omega) hn, partN_1 hk, rPl, rdDig_hex hb, if_pos hs]
      refine ⟨trivial, fun e => ?_, by rw [List.length_map]; omega, by rw [hr], fun _ => hr⟩
      have := congrArg List.length e
      rw [List.length_map] at this
      simp at this
      rw [this] at h1; simp at h1
    · rw [if_neg k1] at hs ⊢
      by_cases k2 : k = 2
      · subst k2
        rw [if_pos rfl] at hs ⊢
        obtain ⟨rfl, rfl, rfl⟩ := ebN_2 he
        obtain ⟨⟨h1, h12⟩, hst⟩ := msSh_iff.1 (mOk_iff.1 hs).1
        have hbd : ∀ r ∈ m, ∀ t ∈ r, 0 ≤ t ∧ t ≤ 15 := fun r hr t ht => mstOk_bd (hst r hr) ht
        have hlen : (mT m).length ≤ 200 := by have := mT_len m (fun r hr => (mstOk_iff.1 (hst r hr)).1.2); omega
        have hk := kin_m hbd
        by_cases h91 : (91 : UInt8) ∈ mT m
        · rw [if_pos h91] at hk
          have hn : noteR (mT m) = true := by rw [noteR_2 hk, multi_there hs]
          have hr : rReadNotation (mT m) = ((2, [], m, [], ([], [])), true) := by rw [rRN_yes hlen hn, partN_2 hk, multi_there hs]
          exact ⟨trivial, mT_ne hs, hlen, by rw [hr], fun _ => hr⟩
        · rw [if_neg h91] at hk
          obtain ⟨h3, h4⟩ := mT_single (mT_no91 (fun r hr => (mstOk_iff.1 (hst r hr)).1.1) h91)
          obtain ⟨p', hp'⟩ : ∃ p', (m.map fun r => r.headD 0) = p' := ⟨_, rfl⟩
          rw [hp'] at h3 h4
          have hok : okP p' = true := onec_ok (by rw [← h4]; exact hs)
          have hn : noteR (mT m) = true := by rw [noteR_1 hk, h3, rdDig_hex (thOk_iff (okP_th hok)).1]; exact hok
          refine ⟨trivial, mT_ne hs, hlen, by rw [rRN_yes hlen hn], fun e => ?_⟩
          rw [hk] at e; cases e
      · rw [if_neg k2] at hs ⊢
        by_cases k3 : k = 3
        · subst k3
          rw [if_pos rfl] at hs ⊢
          obtain ⟨rfl, rfl, rfl⟩ := ebN_3 he
          have hb : beatsOk y = true := by unfold syOk at hs; rw [Bool.and_eq_true] at hs; exact hs.1
          obtain ⟨_, h1, h6⟩ := beatsOk_iff.1 hb
          have hk := kin_s (beatsOk_all hb) h1
          have hlen : (syT y).length ≤ 200 := by have := syT_len y; omega
          have hn : noteR (syT y) = true := by rw [noteR_3 hk, read_text hs]
          have hr : rReadNotation (syT y) = ((3, [], [], y, ([], [])), true) := by rw [rRN_yes hlen hn, partN_3 hk, read_text hs]
          exact ⟨trivial, syT_ne hs, hlen, by rw [hr], fun _ => hr⟩
        · rw [if_neg k3] at hs ⊢
          by_cases k4 : k = 4
          · subst k4
            rw [if_pos rfl] at hs
            obtain ⟨rfl, rfl, rfl⟩ := ebN_4 he
            obtain ⟨⟨h1, h8⟩, h2, _, _⟩ := psSh_iff.1 (psOk_iff.1 hs).1
            have hk := kin_a q
            have hlen : (paT q).length ≤ 200 := by have := paT_len q; omega
            have hn : noteR (paT q) = true := by rw [noteR_4 hk, passing_there hs]
            have hr : rReadNotation (paT q) = ((4, [], [], [], q), true) := by rw [rRN_yes hlen hn, partN_4 hk, passing_there hs]
            exact ⟨trivial, by simp [paT], hlen, by rw [hr], fun _ => hr⟩
          · rw [if_neg k4] at hs; cases hs
end Go.Proofs.YtgphkfnobmponaaGreat

/- ReadNotation: the law's walk. -/
namespace Go.Proofs.YtgphkfnobmponaaGreat
open Go.RowKit
set_option linter.unusedVariables false

/-- The lists of a notation are the call's own, their blocks below M. -/
def NtOwn (B M : Nat) (x : Note) (s : Six) (w : World) : Prop :=
  (w.ownsRow B 2 1 (.slice s.A x.2.1.length s.c) x.2.1.length (ints x.2.1) ∧ ∀ g, (Value.slice s.A x.2.1.length s.c).ownBlock = some g → g < M) ∧
  Grid w B M (.slice s.A2 x.2.2.1.length s.c2) x.2.2.1 ∧
  (w.ownsRow B 95 4 (.slice s.A3 x.2.2.2.1.length s.c3) x.2.2.2.1.length (bts x.2.2.2.1) ∧ ∀ g, (Value.slice s.A3 x.2.2.2.1.length s.c3).ownBlock = some g → g < M) ∧
  (w.ownsRow B 83 2 (.slice s.A4 x.2.2.2.2.1.length s.c4) x.2.2.2.2.1.length (ths x.2.2.2.2.1) ∧ ∀ g, (Value.slice s.A4 x.2.2.2.2.1.length s.c4).ownBlock = some g → g < M) ∧
  (w.ownsRow B 83 2 (.slice s.A5 x.2.2.2.2.2.length s.c5) x.2.2.2.2.2.length (ths x.2.2.2.2.2) ∧ ∀ g, (Value.slice s.A5 x.2.2.2.2.2.length s.c5).ownBlock = some g → g < M)
theorem NtOwn.rd {B M : Nat} {x : Note} {s : Six} {w : World} (h : NtOwn B M x s w) : NtRd x s w := by
  obtain ⟨h1, h2, h3, h4, h5⟩ := h
  exact ⟨Rd.of_own h1.1, h2.read, Rd.of_own h3.1, Rd.of_own h4.1, Rd.of_own h5.1⟩
theorem NtOwn.below {B M : Nat} {x : Note} {s : Six} {w w' : World} (h : NtOwn B M x s w) (hb : Below w.heap.size w w') : NtOwn B M x s w' := by
  obtain ⟨h1, h2, h3, h4, h5⟩ := h
  exact ⟨⟨own_below h1.1 hb, h1.2⟩, h2.below hb, ⟨own_below h3.1 hb, h3.2⟩, ⟨own_below h4.1 hb, h4.2⟩, ⟨own_below h5.1 hb, h5.2⟩⟩
theorem NtOwn.setq {B M : Nat} {x : Note} {s : Six} {w : World} (h : NtOwn B M x s w) {p : Addr} (hp : p.block < B) (u : Value) : NtOwn B M x s (w.setCell p u) := by
  obtain ⟨h1, h2, h3, h4, h5⟩ := h
  exact ⟨⟨own_set h1.1 hp u, h1.2⟩, h2.setq hp u, ⟨own_set h3.1 hp u, h3.2⟩, ⟨own_set h4.1 hp u, h4.2⟩, ⟨own_set h5.1 hp u, h5.2⟩⟩
theorem NtOwn.more {B B' M : Nat} {x : Note} {s : Six} {w : World} (h : NtOwn B M x s w) (hB : B' ≤ B) : NtOwn B' M x s w := by
  obtain ⟨h1, h2, h3, h4, h5⟩ := h
  exact ⟨⟨own_more h1.1 hB, h1.2⟩, h2.more hB, ⟨own_more h3.1 hB, h3.2⟩, ⟨own_more h4.1 hB, h4.2⟩, ⟨own_more h5.1 hB, h5.2⟩⟩
/-- The cells of a notation. -/
def Six.cells (s : Six) (x : Note) : Array Value := #[.int .i64 x.1, .slice s.A x.2.1.length s.c, .slice s.A2 x.2.2.1.length s.c2, .slice s.A3 x.2.2.2.1.length s.c3, .slice s.A4 x.2.2.2.2.1.length s.c4, .slice s.A5 x.2.2.2.2.2.length s.c5]
theorem NtRes.six {B : Nat} {r : Note × Bool} {e : Ending} {w : World} (h : NtRes B r e w) : ∃ s : Six, e = .returned (.tuple #[.agg (s.cells r.1), .bool r.2]) ∧ NtOwn B w.heap.size r.1 s w ∧ NtOne r.1 s := by
  obtain ⟨A, c, A2, c2, A3, c3, A4, c4, A5, c5, he, h1, h2, h3, h4, h5, h6⟩ := h
  exact ⟨⟨A, c, A2, c2, A3, c3, A4, c4, A5, c5⟩, he, ⟨⟨h1, fun g h => (h1.lt g h).2⟩, h2, ⟨h3, fun g h => (h3.lt g h).2⟩, ⟨h4, fun g h => (h4.lt g h).2⟩, ⟨h5, fun g h => (h5.lt g h).2⟩⟩, h6⟩
theorem tot_le4 : ∀ (rows : List (List Int)), (∀ r ∈ rows, r.length ≤ 4) → tot rows ≤ 4 * rows.length := by
  intro rows
  induction rows with
  | nil => intro _; simp [tot]
  | cons r rs ih =>
    intro h
    have h1 := h r (by simp)
    have h2 := ih (fun x hx => h x (by simp [hx]))
    rw [tot, List.length_cons]; omega
theorem sm_no : NtSm noNote := ⟨by simp [noNote], ⟨by simp [noNote], fun r h => by simp [noNote] at h, by simp [noNote, tot]⟩, by simp [noNote], by simp [noNote], by simp [noNote]⟩
theorem rsync_len (l : List UInt8) : (rReadSync l).1.length ≤ 6 := by
  unfold rReadSync
  split
  · split
    · rename_i p _
      unfold rStarSync
      split
      · split
        · simp
        · split
          · simp [mirP_len]; omega
          · simp
      · simp
    · simp
  · split
    · rename_i p _
      split
      · rename_i h; exact (syOk_bd h).2
      · simp
    · simp
theorem rmulti_len (l : List UInt8) : (rReadMulti l).1.length ≤ 12 ∧ ∀ r ∈ (rReadMulti l).1, r.length ≤ 4 := by
  unfold rReadMulti
  cases rdM l with
  | none => exact ⟨by simp [mElse], fun r h => by simp [mElse] at h⟩
  | some q =>
    unfold mElse
    simp only
    split
    · rename_i h
      have h2 := msSh_iff.1 (mOk_iff.1 h).1
      exact ⟨h2.1.2, fun r hr => (mstOk_iff.1 (h2.2 r hr)).1.2⟩
    · exact ⟨by simp, fun r h => by simp at h⟩
theorem rpass_len (l : List UInt8) : (rReadPassing l).1.1.length ≤ 8 ∧ (rReadPassing l).1.2.length ≤ 8 := by
  unfold rReadPassing
  cases rdPa l with
  | none => simp [psElse]
  | some p =>
    unfold psElse
    simp only
    split
    · rename_i h
      have h2 := psSh_iff.1 (psOk_iff.1 h).1
      show p.1.length ≤ 8 ∧ p.2.length ≤ 8
      exact ⟨h2.1.2, by have := h2.2.1; have := h2.1.2; omega⟩
    · simp
theorem rpl_len (l : List UInt8) : (rPl l).length ≤ 12 := by
  unfold rPl
  split
  · rename_i h; exact (thOk_iff (okP_th h)).2.2
  · simp
theorem sm_part (l : List UInt8) : NtSm (partN l) := by
  have h1 := rpl_len l
  have h2 := rmulti_len l
  have h3 := rsync_len l
  have h4 := rpass_len l
  have h5 := tot_le4 _ h2.2
  unfold partN
  split
  · exact ⟨by simp only; omega, ⟨by simp, (fun r h => by simp at h), by simp [tot]⟩, by simp, by simp, by simp⟩
  · split
    · exact ⟨by simp, ⟨by simp only; omega, (fun r h => by have := h2.2 r h; omega), by simp only; omega⟩, by simp, by simp, by simp⟩
    · split
      · exact ⟨by simp, ⟨by simp, (fun r h => by simp at h), by simp [tot]⟩, by simp only; omega, by simp, by simp⟩
      · exact ⟨by simp, ⟨by simp, (fun r h => by simp at h), by simp [tot]⟩, by simp, by simp only; omega, by simp only; omega⟩
theorem sm_read (l : List UInt8) : NtSm (rReadNotation l).1 := by
  unfold rReadNotation
  split
  · exact sm_no
  · split
    · exact sm_part l
    · exact sm_no
set_option maxRecDepth 100000 in
set_option maxHeartbeats 2000000 in
theorem specReadNotation_any (s : ByteArray) (w : World) (hs : s.size ≤ 1099511627775) :
    Calls Tryz.prog 11 #[.string s] w fun e w' => (∃ t : Six, e = .returned (.tuple #[.agg (t.cells (rReadNotation (tl s)).1), .bool (rReadNotation (tl s)).2]) ∧ NtRd (rReadNotation (tl s)).1 t w') ∧ Below w.heap.size w w' := by
  have hC := l07Read_any s (w.alloc (Obj.cells (zN 0) 33)) hs
  have hX := Bx.new w 33 (zN 0)
  have hz : (w.alloc (Obj.cells (zN 0) 33)).heap.size = w.heap.size + 1 := by simp
  obtain ⟨ok, hok⟩ : ∃ ok, (noteR (tl s) && decide (s.size ≤ 200)) = ok := ⟨_, rfl⟩
  rw [hok, hz] at hC
  have hR : rReadNotation (tl s) = if ok then (partN (tl s), true) else (noNote, false) := by
    rw [← hok, rReadNotation, tl_len]
    by_cases h : 200 < s.size
    · rw [if_pos h, decide_eq_false (by omega), Bool.and_false]; rfl
    · rw [if_neg h, decide_eq_true (by omega), Bool.and_true]
  rw [hR]
  clear hok hR
  generalize partN (tl s) = x at *
  obtain ⟨k, p, m, y, q1, q2⟩ := x
  unfold zN at hC hX hz
  have hC := hid hC
  go_enter Tryz.func11, Tryz.ntmps11
  go_wp2_with fail
  refine hC.out.mono ?_
  rintro e w1 ⟨hr, hb1⟩
  obtain ⟨⟨A, c, A2, c2, A3, c3, A4, c4, A5, c5⟩, rfl, ho, -⟩ := hr.six
  unfold Six.cells
  simp only
  have hX1 := hX.below hb1 (by omega)
  have z1 := hb1.size
  rw [hz] at z1
  have hB1 : Below w.heap.size w w1 := (Below.alloc (Below.refl _ _) (Nat.le_refl _) _).trans (hb1.mono (by omega))
  have HX := hid (fun (W : World) (b : Below w1.heap.size w1 W) => zc (hX1.below b (by omega)))
  have HO := hid ho
  clear hC hX hX1 hb1 hr hz ho
  have sz : w.heap.size < w1.heap.size := by omega
  cases ok
  · go_wp2_with (refine wl_name (w1 := w1) (O := (Obj.cells #[.int .i64 k, .slice A p.length c, .slice A2 m.length c2, .slice A3 y.length c3, .slice A4 q1.length c4, .slice A5 q2.length c5] 33)) ?_; intro W hW; have hbW : Below w1.heap.size w1 W := (by rw [← hW]; exact Below.alloc (Below.refl _ _) (Nat.le_refl _) _); obtain ⟨⟨a0, a1, a2, a3, a4, a5⟩, ⟨b0, b1, b2, b3, b4, b5⟩⟩ := HX.out W hbW; have hBW : Below w.heap.size w W := hB1.trans (hbW.mono (by omega)); clear hbW hW)
    refine bodyPost_ret (v := .tuple #[.agg #[.int .i64 0, .slice none 0 0, .slice none 0 0, .slice none 0 0, .slice none 0 0, .slice none 0 0], .bool false]) ?_ rfl ?_
    · simp (maxDischargeDepth := 8) [results, Tryz.results11, go_sem, *]
    have hT : ∀ {w' : World}, NtRd noNote ⟨none, 0, none, 0, none, 0, none, 0, none, 0⟩ w' := fun {w'} => ⟨⟨rfl, fun h => absurd h (by simp [noNote])⟩, ⟨rfl, fun h => absurd h (by simp [noNote])⟩, ⟨rfl, fun h => absurd h (by simp [noNote])⟩, ⟨rfl, fun h => absurd h (by simp [noNote])⟩, ⟨rfl, fun h => absurd h (by simp [noNote])⟩⟩
    exact ⟨⟨⟨none, 0, none, 0, none, 0, none, 0, none, 0⟩, rfl, hT⟩, by repeat' (first | (with_reducible exact hBW) | (with_reducible refine Below.setCell ?_ ?_ _) | exact Nat.le_refl _)⟩
  · go_wp2_with (refine wl_name (w1 := w1) (O := (Obj.cells #[.int .i64 k, .slice A p.length c, .slice A2 m.length c2, .slice A3 y.length c3, .slice A4 q1.length c4, .slice A5 q2.length c5] 33)) ?_; intro W hW; have hbW : Below w1.heap.size w1 W := (by rw [← hW]; exact Below.alloc (Below.refl _ _) (Nat.le_refl _) _); obtain ⟨⟨c0, c1, c2', c3', c4', c5'⟩, -⟩ := zc (show Bx W w1.heap.size 33 _ from (by rw [← hW]; exact Bx.new _ _ _)); obtain ⟨⟨a0, a1, a2, a3, a4, a5⟩, ⟨b0, b1, b2, b3, b4, b5⟩⟩ := HX.out W hbW; have HOW := hid (HO.out.below hbW); have hBW : Below w.heap.size w W := hB1.trans (hbW.mono (by omega)); clear hbW hW)
    refine bodyPost_ret (v := .tuple #[.agg #[.int .i64 k, .slice A p.length c, .slice A2 m.length c2, .slice A3 y.length c3, .slice A4 q1.length c4, .slice A5 q2.length c5], .bool true]) ?_ rfl ?_
    · simp (maxDischargeDepth := 8) [results, Tryz.results11, go_sem, *]
    refine ⟨⟨⟨A, c, A2, c2, A3, c3, A4, c4, A5, c5⟩, rfl, NtOwn.rd (B := w.heap.size + 1) (M := w1.heap.size) ?_⟩, by repeat' (first | (with_reducible exact hBW) | (with_reducible refine Below.setCell ?_ ?_ _) | exact Nat.le_refl _)⟩
    repeat' (first | (with_reducible exact HOW.out) | (with_reducible refine NtOwn.setq ?_ ?_ _) | (dsimp only; omega))
end Go.Proofs.YtgphkfnobmponaaGreat
