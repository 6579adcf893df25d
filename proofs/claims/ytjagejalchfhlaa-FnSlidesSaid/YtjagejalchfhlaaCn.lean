/- Plain facts: the root of a pattern, and its greatest rotation. Nothing of the program is named here. -/
import Derived.Test.YtjagejalchfhlaaTn
import Derived.Test.YtjagejalchfhlaaLa
namespace Go.Proofs.Ytjagejalchfhlaa
open Go.RowKit
set_option linter.unusedVariables false

/-- d is a period of the beats of p. -/
def Per (p : List Int) (d : Nat) : Prop := ∀ x : Int, atB p (x + (d : Int)) = atB p x
theorem Per.mul {p : List Int} {d : Nat} (h : Per p d) (r : Nat) (x : Int) : atB p (x + (r : Int) * (d : Int)) = atB p x := per_mul (f := atB p) h r x
theorem Per.gcd {p : List Int} : ∀ a b : Nat, Per p a → Per p b → Per p (Nat.gcd a b) := by
  intro a b
  induction a, b using Nat.gcd.induction with
  | H0 n => intro _ h; rw [Nat.gcd_zero_left]; exact h
  | H1 m n hm ih =>
    intro h1 h2
    rw [Nat.gcd_rec]
    refine ih (fun x => ?_) h1
    have e := Nat.mod_add_div n m
    have h3 := h1.mul (n / m) (x + ((n % m : Nat) : Int))
    have h4 := h2 x
    have e2 : x + ((n % m : Nat) : Int) + ((n / m : Nat) : Int) * (m : Int) = x + (n : Int) := by
      have : ((n % m : Nat) : Int) + ((m * (n / m) : Nat) : Int) = (n : Int) := by rw [← Int.natCast_add, e]
      rw [Int.natCast_mul, Int.mul_comm] at this
      omega
    rw [e2, h4] at h3
    exact h3.symm
/-- The length of the root: the least divisor of the period that is a period. -/
def isPer (p : List Int) (d : Nat) : Bool := decide (p.length % d = 0) && (List.range p.length).all fun (i : Nat) => decide (p.getD (i % d) 0 = p.getD i 0)
theorem isPer_iff {p : List Int} {d : Nat} (hp : 1 ≤ p.length) (hd : 1 ≤ d) : isPer p d = true ↔ d ∣ p.length ∧ Per p d := by
  unfold isPer
  simp only [Bool.and_eq_true, decide_eq_true_eq, List.all_eq_true, List.mem_range]
  constructor
  · rintro ⟨h1, h2⟩
    have hdv : d ∣ p.length := Nat.dvd_of_mod_eq_zero h1
    refine ⟨hdv, ?_⟩
    have key : ∀ x : Int, atB p x = p.getD (x % (d : Int)).toNat 0 := by
      intro x
      have h0 : 0 ≤ x % (p.length : Int) := Int.emod_nonneg _ (by omega)
      have hl : x % (p.length : Int) < p.length := Int.emod_lt_of_pos _ (by omega)
      obtain ⟨j, hj⟩ := Int.eq_ofNat_of_zero_le h0
      have h3 := h2 j (by omega)
      have e1 : x % (d : Int) = ((j % d : Nat) : Int) := by
        have : x % (p.length : Int) % (d : Int) = x % (d : Int) := Int.emod_emod_of_dvd x (Int.natCast_dvd_natCast.2 hdv)
        rw [← this, hj]; rfl
      unfold atB
      rw [hj, e1, Int.toNat_natCast, Int.toNat_natCast, h3]
    intro x
    rw [key, key, Int.add_emod_right]
  · rintro ⟨h1, h2⟩
    refine ⟨Nat.mod_eq_zero_of_dvd h1, fun i hi => ?_⟩
    have e := Nat.mod_add_div i d
    have h3 := h2.mul (i / d) ((i % d : Nat) : Int)
    have e2 : ((i % d : Nat) : Int) + ((i / d : Nat) : Int) * (d : Int) = (i : Int) := by
      have : ((i % d : Nat) : Int) + ((d * (i / d) : Nat) : Int) = (i : Int) := by rw [← Int.natCast_add, e]
      rw [Int.natCast_mul, Int.mul_comm] at this
      omega
    have hm : i % d ≤ i := Nat.mod_le _ _
    rw [e2, atB_lt' hi, atB_lt' (by omega)] at h3
    exact h3.symm
def rtF (p : List Int) : Nat → Nat → Nat
  | 0, d => d
  | f + 1, d => if isPer p d then d else rtF p f (d + 1)
def rtN (p : List Int) : Nat := rtF p p.length 1
theorem rtF_yes {p : List Int} {f d : Nat} (h : isPer p d = true) : rtF p (f + 1) d = d := by simp [rtF, h]
theorem rtF_not {p : List Int} {f d : Nat} (h : isPer p d = false) : rtF p (f + 1) d = rtF p f (d + 1) := by simp [rtF, h]
theorem isPer_self {p : List Int} : isPer p p.length = true := by
  unfold isPer
  simp only [Bool.and_eq_true, decide_eq_true_eq, List.all_eq_true, List.mem_range, Nat.mod_self, true_and]
  intro i hi
  rw [Nat.mod_eq_of_lt hi]
theorem rtF_spec {p : List Int} : ∀ (f d : Nat), 1 ≤ d → d ≤ p.length → p.length < d + f → (∀ e, 1 ≤ e → e < d → isPer p e = false) → isPer p (rtF p f d) = true ∧ 1 ≤ rtF p f d ∧ rtF p f d ≤ p.length ∧ ∀ e, 1 ≤ e → e < rtF p f d → isPer p e = false := by
  intro f
  induction f with
  | zero => intro d _ h1 h2 _; omega
  | succ f ih =>
    intro d hd h1 h2 hall
    cases h : isPer p d with
    | true => rw [rtF_yes h]; exact ⟨h, hd, h1, hall⟩
    | false =>
      rw [rtF_not h]
      have hne : d ≠ p.length := by
        intro e
        rw [e, isPer_self] at h
        cases h
      refine ih (d + 1) (by omega) (by omega) (by omega) fun e he1 he2 => ?_
      rcases Nat.lt_or_eq_of_le (Nat.le_of_lt_succ he2) with k | k
      · exact hall e he1 k
      · subst k; exact h
theorem rtN_spec {p : List Int} (hp : 1 ≤ p.length) : (rtN p ∣ p.length ∧ Per p (rtN p)) ∧ 1 ≤ rtN p ∧ rtN p ≤ p.length ∧ ∀ e, 1 ≤ e → e ∣ p.length → Per p e → rtN p ≤ e := by
  obtain ⟨h1, h2, h3, h4⟩ := rtF_spec (p := p) p.length 1 (Nat.le_refl _) hp (by omega) (fun e a b => by omega)
  refine ⟨(isPer_iff hp h2).1 h1, h2, h3, fun e he hd hP => ?_⟩
  rcases Nat.lt_or_ge e (rtN p) with k | k
  · have := h4 e he k
    rw [(isPer_iff hp he).2 ⟨hd, hP⟩] at this
    cases this
  · exact k
/-- Patterns with the same beats, up to a shift, whose periods both are periods of them. -/
theorem rtN_same {p q : List Int} (hp : 1 ≤ p.length) (hq : 1 ≤ q.length) (k : Int) (hf : ∀ x, atB q x = atB p (x + k)) : rtN q = rtN p := by
  have hPer : ∀ d, Per q d ↔ Per p d := by
    intro d
    constructor
    · intro h x
      have := h (x - k)
      rw [hf, hf] at this
      rwa [show x - k + (d : Int) + k = x + (d : Int) by omega, Int.sub_add_cancel] at this
    · intro h x
      rw [hf, hf, show x + (d : Int) + k = x + k + (d : Int) by omega]
      exact h _
  obtain ⟨⟨p1, p2⟩, p3, p4, p5⟩ := rtN_spec hp
  obtain ⟨⟨q1, q2⟩, q3, q4, q5⟩ := rtN_spec hq
  have hpl : Per p p.length := atB_add p
  have hql : Per q q.length := atB_add q
  have g1 : rtN p ≤ rtN q := by
    have h := Per.gcd _ _ ((hPer _).1 q2) hpl
    have h1 := p5 _ (Nat.gcd_pos_of_pos_left _ (by omega)) (Nat.gcd_dvd_right _ _) h
    have h2 := Nat.gcd_le_left p.length (show 0 < rtN q by omega)
    omega
  have g2 : rtN q ≤ rtN p := by
    have h := Per.gcd _ _ ((hPer _).2 p2) hql
    have h1 := q5 _ (Nat.gcd_pos_of_pos_left _ (by omega)) (Nat.gcd_dvd_right _ _) h
    have h2 := Nat.gcd_le_left q.length (show 0 < rtN p by omega)
    omega
  omega
/-- The root, begun at a beat. -/
def winP (p : List Int) (b : Int) : List Int := mkL (rtN p) fun x => atB p (x + b)
theorem winP_len (p : List Int) (b : Int) : (winP p b).length = rtN p := mkL_len _ _
theorem winP_at {p : List Int} (hp : 1 ≤ p.length) (b x : Int) : atB (winP p b) x = atB p (x + b) := by
  obtain ⟨⟨_, p2⟩, p3, _, _⟩ := rtN_spec hp
  exact atB_mkL p3 (f := fun x => atB p (x + b)) (fun x => by
    show atB p (x + ((rtN p : Nat) : Int) + b) = atB p (x + b)
    rw [show x + ((rtN p : Nat) : Int) + b = x + b + ((rtN p : Nat) : Int) by omega]
    exact p2 _) x
theorem winP_same {p q : List Int} (hp : 1 ≤ p.length) (hq : 1 ≤ q.length) (k : Int) (hf : ∀ x, atB q x = atB p (x + k)) (b : Int) : winP q b = winP p (b + k) := by
  have e := rtN_same hp hq k hf
  unfold winP
  rw [e]
  unfold mkL
  refine List.map_congr_left fun i _ => ?_
  show atB q ((i : Int) + b) = atB p ((i : Int) + (b + k))
  rw [hf, show (i : Int) + b + k = (i : Int) + (b + k) by omega]
theorem winP_mod {p : List Int} (hp : 1 ≤ p.length) (b : Int) : winP p (b % ((rtN p : Nat) : Int)) = winP p b := by
  obtain ⟨⟨_, p2⟩, p3, _, _⟩ := rtN_spec hp
  have hper : ∀ x, (fun b => winP p b) (x + ((rtN p : Nat) : Int)) = (fun b => winP p b) x := by
    intro x
    show winP p (x + ((rtN p : Nat) : Int)) = winP p x
    unfold winP mkL
    refine List.map_congr_left fun i _ => ?_
    show atB p ((i : Int) + (x + ((rtN p : Nat) : Int))) = atB p ((i : Int) + x)
    rw [show (i : Int) + (x + ((rtN p : Nat) : Int)) = (i : Int) + x + ((rtN p : Nat) : Int) by omega]
    exact p2 _
  have h := Int.emod_add_mul_ediv b ((rtN p : Nat) : Int)
  have hm : ∀ (r : Nat) (x : Int), winP p (x + (r : Int) * ((rtN p : Nat) : Int)) = winP p x := by
    intro r
    induction r with
    | zero => intro x; simp
    | succ r ih =>
      intro x
      have e : x + ((r + 1 : Nat) : Int) * ((rtN p : Nat) : Int) = (x + (r : Int) * ((rtN p : Nat) : Int)) + ((rtN p : Nat) : Int) := by
        rw [show ((r + 1 : Nat) : Int) = (r : Int) + 1 from rfl, Int.add_mul, Int.one_mul]; omega
      rw [e]
      exact (hper _).trans (ih x)
  rcases Int.le_total 0 (b / ((rtN p : Nat) : Int)) with k | k
  · obtain ⟨r, hr⟩ := Int.eq_ofNat_of_zero_le k
    have := hm r (b % ((rtN p : Nat) : Int))
    rw [hr, Int.mul_comm] at h
    rw [h] at this
    exact this.symm
  · obtain ⟨r, hr⟩ := Int.eq_ofNat_of_zero_le (show 0 ≤ -(b / ((rtN p : Nat) : Int)) by omega)
    have := hm r b
    have e : b + (r : Int) * ((rtN p : Nat) : Int) = b % ((rtN p : Nat) : Int) := by
      have h2 : (r : Int) * ((rtN p : Nat) : Int) = -(((rtN p : Nat) : Int) * (b / ((rtN p : Nat) : Int))) := by rw [← hr, Int.neg_mul, Int.mul_comm]
      omega
    rw [e] at this
    exact this
theorem winP_ok {p : List Int} (h : okP p = true) (b : Int) : okP (winP p b) = true := by
  obtain ⟨_, h1, h2⟩ := thOk_iff (okP_th h)
  obtain ⟨_, p3, p4, _⟩ := rtN_spec h1
  have hth : thOk (winP p b) = true := mkL_th p3 (by omega) fun x => atB_bd h _
  refine ok_of_inj hth fun x y hxy e => ?_
  rw [winP_at h1, winP_at h1] at e
  have := inj_of_ok h (a := x + b) (b := y + b) (by omega)
  omega
/-- The order of lists that are equally long. -/
theorem cmpL_trans : ∀ a b c : List Int, a.length = b.length → b.length = c.length → cmpL a b ≤ 0 → cmpL b c ≤ 0 → cmpL a c ≤ 0 := by
  intro a
  induction a with
  | nil => intro b c h1 h2 _ _; cases b <;> cases c <;> simp_all [cmpL]
  | cons x xs ih =>
    intro b c h1 h2 g1 g2
    cases b with
    | nil => simp at h1
    | cons y ys =>
      cases c with
      | nil => simp at h2
      | cons z zs =>
        simp only [List.length_cons] at h1 h2
        simp only [cmpL] at g1 g2 ⊢
        by_cases a1 : x < y
        · by_cases b1 : y < z
          · rw [if_pos (by omega)]; omega
          · rw [if_neg b1] at g2
            by_cases b2 : z < y
            · rw [if_pos b2] at g2; omega
            · rw [if_pos (by omega)]; omega
        · rw [if_neg a1] at g1
          by_cases a2 : y < x
          · rw [if_pos a2] at g1; omega
          · rw [if_neg a2] at g1
            have e : x = y := by omega
            subst e
            by_cases b1 : x < z
            · rw [if_pos b1]; omega
            · rw [if_neg b1] at g2 ⊢
              by_cases b2 : z < x
              · rw [if_pos b2] at g2; omega
              · rw [if_neg b2] at g2 ⊢
                exact ih ys zs (by omega) (by omega) g1 g2
theorem rCmp_len {a b : List Int} (h : a.length = b.length) : rCmp a b = cmpL a b := by
  rw [rCmp, if_neg (by omega), if_neg (by omega)]
/-- The greatest rotation of the root: the rotations from b on, one after the other. -/
def cnF (p : List Int) : Nat → Nat → List Int → List Int
  | 0, _, best => best
  | f + 1, b, best => if 0 < rCmp (winP p (b : Int)) best then cnF p f (b + 1) (winP p (b : Int)) else cnF p f (b + 1) best
def canP (p : List Int) : List Int := cnF p (rtN p) 0 (winP p 0)
theorem cnF_yes {p : List Int} {f b : Nat} {best : List Int} (h : 0 < rCmp (winP p (b : Int)) best) : cnF p (f + 1) b best = cnF p f (b + 1) (winP p (b : Int)) := by simp [cnF, h]
theorem cnF_not {p : List Int} {f b : Nat} {best : List Int} (h : ¬ 0 < rCmp (winP p (b : Int)) best) : cnF p (f + 1) b best = cnF p f (b + 1) best := by simp [cnF, h]
theorem cnF_spec {p : List Int} : ∀ (f b : Nat) (best : List Int), (∃ k : Int, best = winP p k) → (∀ j : Nat, j < b → rCmp (winP p (j : Int)) best ≤ 0) →
    (∃ k : Int, cnF p f b best = winP p k) ∧ ∀ j : Nat, j < b + f → rCmp (winP p (j : Int)) (cnF p f b best) ≤ 0 := by
  intro f
  induction f with
  | zero => intro b best h1 h2; exact ⟨h1, fun j hj => h2 j (by omega)⟩
  | succ f ih =>
    intro b best h1 h2
    have hl : ∀ k : Int, (winP p k).length = best.length := by
      obtain ⟨k, rfl⟩ := h1
      intro k2; rw [winP_len, winP_len]
    by_cases h : 0 < rCmp (winP p (b : Int)) best
    · rw [cnF_yes h]
      obtain ⟨g1, g2⟩ := ih (b + 1) (winP p (b : Int)) ⟨_, rfl⟩ (fun j hj => by
        rcases Nat.lt_or_eq_of_le (Nat.le_of_lt_succ hj) with k | k
        · have e1 := h2 j k
          have e2 : rCmp best (winP p (b : Int)) ≤ 0 := by rw [rCmp_neg]; omega
          rw [rCmp_len (hl _)] at e1
          rw [rCmp_len (hl _).symm] at e2
          rw [rCmp_len (by rw [winP_len, winP_len])]
          exact cmpL_trans _ _ _ (hl _) (hl _).symm e1 e2
        · subst k; rw [rCmp_self]; omega)
      exact ⟨g1, fun j hj => g2 j (by omega)⟩
    · rw [cnF_not h]
      obtain ⟨g1, g2⟩ := ih (b + 1) best h1 (fun j hj => by
        rcases Nat.lt_or_eq_of_le (Nat.le_of_lt_succ hj) with k | k
        · exact h2 j k
        · subst k; omega)
      exact ⟨g1, fun j hj => g2 j (by omega)⟩
theorem canP_spec {p : List Int} (hp : 1 ≤ p.length) : (∃ k : Int, canP p = winP p k) ∧ ∀ k : Int, rCmp (winP p k) (canP p) ≤ 0 := by
  obtain ⟨h1, h2⟩ := cnF_spec (p := p) (rtN p) 0 (winP p 0) ⟨0, rfl⟩ (fun j hj => by omega)
  obtain ⟨_, p3, _, _⟩ := rtN_spec hp
  refine ⟨h1, fun k => ?_⟩
  have h0 : 0 ≤ k % ((rtN p : Nat) : Int) := Int.emod_nonneg _ (by omega)
  have hl : k % ((rtN p : Nat) : Int) < ((rtN p : Nat) : Int) := Int.emod_lt_of_pos _ (by omega)
  obtain ⟨j, hj⟩ := Int.eq_ofNat_of_zero_le h0
  have := h2 j (by omega)
  rw [← hj, winP_mod hp] at this
  exact this
/-- Patterns with the same beats, up to a shift, have one canonical pattern. -/
theorem canP_same {p q : List Int} (hp : 1 ≤ p.length) (hq : 1 ≤ q.length) (k : Int) (hf : ∀ x, atB q x = atB p (x + k)) : canP q = canP p := by
  obtain ⟨⟨a, ha⟩, h1⟩ := canP_spec hp
  obtain ⟨⟨b, hb⟩, h2⟩ := canP_spec hq
  have e1 := h1 (b + k)
  rw [← winP_same hp hq k hf b, ← hb] at e1
  have e2 := h2 (a - k)
  rw [winP_same hp hq k hf, Int.sub_add_cancel, ← ha] at e2
  rw [rCmp_neg] at e2
  exact (rCmp_zero _ _).1 (by omega)
theorem canP_ok {p : List Int} (h : okP p = true) : okP (canP p) = true := by
  obtain ⟨⟨k, hk⟩, _⟩ := canP_spec (thOk_iff (okP_th h)).2.1
  rw [hk]; exact winP_ok h k
theorem canP_can {p : List Int} (h : okP p = true) : canP (canP p) = canP p := by
  have hp := (thOk_iff (okP_th h)).2.1
  obtain ⟨⟨k, hk⟩, _⟩ := canP_spec hp
  have hc := (thOk_iff (okP_th (canP_ok h))).2.1
  exact canP_same hp hc k (fun x => by rw [hk, winP_at hp])
theorem canP_rot {p : List Int} (h : okP p = true) (k : Int) : canP (rotP p k) = canP p := by
  have hp := (thOk_iff (okP_th h)).2.1
  exact canP_same hp (by rw [rotP_len]; exact hp) k (fun x => rotP_at hp k x)
/-- A list, some times one after the other. -/
def repP (p : List Int) : Nat → List Int
  | 0 => []
  | t + 1 => repP p t ++ p
theorem repP_len (p : List Int) : ∀ t, (repP p t).length = t * p.length := by
  intro t
  induction t with
  | zero => simp [repP]
  | succ t ih => rw [repP, List.length_append, ih, Nat.add_mul, Nat.one_mul]
theorem repP_getD {p : List Int} : ∀ (t i : Nat), i < t * p.length → (repP p t).getD i 0 = p.getD (i % p.length) 0 := by
  intro t
  induction t with
  | zero => intro i h; omega
  | succ t ih =>
    intro i h
    rw [repP, List.getD_eq_getElem?_getD]
    rcases Nat.lt_or_ge i (t * p.length) with k | k
    · rw [List.getElem?_append_left (by rw [repP_len]; exact k), ← List.getD_eq_getElem?_getD]
      exact ih i k
    · rw [List.getElem?_append_right (by rw [repP_len]; exact k), repP_len, ← List.getD_eq_getElem?_getD]
      congr 1
      have hl : i - t * p.length < p.length := by rw [Nat.add_mul, Nat.one_mul] at h; omega
      have e : i = (i - t * p.length) + t * p.length := by omega
      rw [e, Nat.add_mul_mod_self_right, Nat.mod_eq_of_lt (by omega)]
      omega
theorem repP_at {p : List Int} (hp : 1 ≤ p.length) {t : Nat} (ht : 1 ≤ t) (x : Int) : atB (repP p t) x = atB p x := by
  unfold atB
  have hn : (0 : Int) < ((repP p t).length : Int) := by
    rw [repP_len]
    have := Nat.mul_le_mul ht hp
    omega
  have h0 : 0 ≤ x % ((repP p t).length : Int) := Int.emod_nonneg _ (by omega)
  have hl : x % ((repP p t).length : Int) < ((repP p t).length : Int) := Int.emod_lt_of_pos _ hn
  obtain ⟨j, hj⟩ := Int.eq_ofNat_of_zero_le h0
  have hjl : j < t * p.length := by
    have h5 : j < (repP p t).length := by omega
    rwa [repP_len] at h5
  rw [hj, Int.toNat_natCast, repP_getD t j hjl]
  have e : x % (p.length : Int) = ((j % p.length : Nat) : Int) := by
    have : x % ((repP p t).length : Int) % (p.length : Int) = x % (p.length : Int) := Int.emod_emod_of_dvd x (by rw [repP_len]; exact Int.natCast_dvd_natCast.2 (Nat.dvd_mul_left _ _))
    rw [← this, hj]; rfl
  rw [e, Int.toNat_natCast]
theorem repP_ok {p : List Int} (h : okP p = true) {t : Nat} (ht : 1 ≤ t) (hl : t * p.length ≤ 12) : okP (repP p t) = true := by
  obtain ⟨h1, h2, h3⟩ := thOk_iff (okP_th h)
  have hmem : ∀ t, ∀ x ∈ repP p t, x ∈ p := by
    intro t
    induction t with
    | zero => intro x hx; cases hx
    | succ t ih =>
      intro x hx
      rcases List.mem_append.1 hx with k | k
      · exact ih x k
      · exact k
  have hth : thOk (repP p t) = true := thOk_mk (fun x hx => h1 x (hmem t x hx)) (by rw [repP_len]; have := Nat.mul_le_mul ht h2; omega) (by rw [repP_len]; exact hl)
  refine ok_of_inj hth fun a b hab e => ?_
  rw [repP_at h2 ht, repP_at h2 ht] at e
  exact inj_of_ok h (by omega) e
theorem canP_rep {p : List Int} (h : okP p = true) {t : Nat} (ht : 1 ≤ t) (hl : t * p.length ≤ 12) : canP (repP p t) = canP p := by
  have hp := (thOk_iff (okP_th h)).2.1
  exact canP_same hp (thOk_iff (okP_th (repP_ok h ht hl))).2.1 0 (fun x => by rw [repP_at hp ht, Int.add_zero])
theorem winP_rep {p : List Int} (h : okP p = true) {t : Nat} (ht : 1 ≤ t) (hl : t * p.length ≤ 12) : winP (repP p t) 0 = winP p 0 := by
  have hp := (thOk_iff (okP_th h)).2.1
  exact winP_same hp (thOk_iff (okP_th (repP_ok h ht hl))).2.1 0 (fun x => by rw [repP_at hp ht, Int.add_zero]) 0
/-- The root is the beginning of the pattern. -/
theorem winP_take {p : List Int} (hp : 1 ≤ p.length) : winP p 0 = p.take (rtN p) := by
  obtain ⟨_, p3, p4, _⟩ := rtN_spec hp
  refine list_ext (by rw [winP_len, List.length_take]; omega) fun i hi => ?_
  rw [winP_len] at hi
  rw [← atB_lt' (p := winP p 0) (by rw [winP_len]; exact hi), winP_at hp, Int.add_zero, atB_lt' (by omega), List.getD_eq_getElem?_getD, List.getD_eq_getElem?_getD, List.getElem?_take_of_lt hi]
/-- Whether a beginning that is repeated gives the pattern. -/
theorem rep_take {p : List Int} (hp : 1 ≤ p.length) {d : Nat} (hd : 1 ≤ d) (hdl : d ≤ p.length) (hm : p.length % d = 0) : decide (repP (p.take d) (p.length / d) = p) = isPer p d := by
  have hdv : d ∣ p.length := Nat.dvd_of_mod_eq_zero hm
  have htl : (p.take d).length = d := by rw [List.length_take]; omega
  have hlen : (repP (p.take d) (p.length / d)).length = p.length := by rw [repP_len, htl]; exact Nat.div_mul_cancel hdv
  have hg : ∀ i, i < p.length → (repP (p.take d) (p.length / d)).getD i 0 = p.getD (i % d) 0 := by
    intro i hi
    have h1 := repP_getD (p := p.take d) (p.length / d) i (by rw [htl, Nat.div_mul_cancel hdv]; exact hi)
    have h2 : i % d < d := Nat.mod_lt _ (by omega)
    rw [h1, htl, List.getD_eq_getElem?_getD, List.getElem?_take_of_lt h2, ← List.getD_eq_getElem?_getD]
  rw [Bool.eq_iff_iff, decide_eq_true_iff]
  unfold isPer
  simp only [Bool.and_eq_true, decide_eq_true_eq, List.all_eq_true, List.mem_range]
  constructor
  · intro e
    refine ⟨hm, fun i hi => ?_⟩
    rw [← hg i hi, e]
  · rintro ⟨_, h⟩
    exact list_ext hlen fun i hi => by
      rw [hlen] at hi
      rw [hg i hi, h i hi]
end Go.Proofs.Ytjagejalchfhlaa
