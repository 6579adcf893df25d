/- Several texts in one: Ym, Wt. -/
import Derived.Test.YtgphkfnobmponaaGreatG11
import Derived.Deep.RegionHeld3
import Derived.Test.YtgphkfnobmponaaGreatG02
import Derived.Test.YtgphkfnobmponaaGreatG10
/- Contracts of the functions of synchronous patterns: mirror images and stars. -/
namespace Go.Proofs.YtgphkfnobmponaaGreat
open Go.RowKit
set_option linter.unusedVariables false

theorem inf_bt : (Tryz.prog.info? 95).map (fun i => (i.zero, i.size, i.bytes)) = some (some (.agg #[.int .i64 0, .bool false, .int .i64 0, .bool false]), 4, 32) := by kernel_rfl
theorem bt_one (x : Int) (b : Bool) (y : Int) (c : Bool) : ∀ u ∈ (#[Value.int .i64 x, Value.bool b, Value.int .i64 y, Value.bool c] : Array Value).toList, u.oneCell' = true := by
  intro u hu; simp at hu; rcases hu with rfl | rfl | rfl | rfl <;> rfl
theorem bts_one (p : List Beat) : ∀ u ∈ bts p, u.oneCell' = true := by
  intro u hu
  simp only [bts, List.mem_flatMap] at hu
  obtain ⟨b, _, hb⟩ := hu
  simp [btC] at hb
  rcases hb with rfl | rfl | rfl | rfl <;> rfl
/-- 'append(out, b)', b a beat. -/
theorem push_bt {w : World} {ops : Array Oper} {rest : List Oper} {o : Oper} {a : Act} {Q : Exit → Act → World → Prop}
    {base : Nat} {v : Value} {q : List Beat} (hown : w.ownsRow base 95 4 v q.length (bts q)) (x : Int) (b : Bool) (y : Int) (c : Bool) (e2 : TypeId)
    (hgd : o.guard = none) (s z : Operand) (ho : o.op = .call { callee := .builtin .append, args := #[s, z], argTypes := #[28, 28] }) (hs : a.eval s = v) {H : Nat} (hx : a.eval z = .slice (some ⟨H, 0, none⟩) 1 1) (hH : H = w.heap.size)
    (hn : q.length ≤ 1099511627776) (hbase : base ≤ w.heap.size)
    (h : ∀ v' w', w'.ownsRow base 95 4 v' (q ++ [((x, b), (y, c))]).length (bts (q ++ [((x, b), (y, c))])) → Below base w w' → w.grownBy w' v.ownBlock → wpList Tryz.prog ops Q rest (a.put o.dst v') w') :
    wpList Tryz.prog ops Q (o :: rest) a (w.alloc (.cells #[.int .i64 x, .bool b, .int .i64 y, .bool c] e2)) := by
  subst hH
  refine push_own hown #[.int .i64 x, .bool b, .int .i64 y, .bool c] e2 Tryz.underlying28 inf_bt rfl (by omega) hgd s z ho hs hx rfl (bt_one x b y c) hn (by omega) hbase fun v' w' h1 h2 h3 => h v' w' ?_ h2 h3
  rw [← bts_snoc, List.length_append]; exact h1
/-- The same as a step of a region that draws its order. -/
theorem step_push_bt {w : World} {ops : Array Oper} {o : Oper} {a : Act} {K : Act → World → Prop} {Q : Exit → Act → World → Prop} {E : Prop}
    {base : Nat} {v : Value} {q : List Beat} (hown : w.ownsRow base 95 4 v q.length (bts q)) (x : Int) (b : Bool) (y : Int) (c : Bool) (e2 : TypeId)
    (hgd : o.guard = none) (s z : Operand) (ho : o.op = .call { callee := .builtin .append, args := #[s, z], argTypes := #[28, 28] }) (hs : a.eval s = v) (hx : a.eval z = .slice (some ⟨w.heap.size, 0, none⟩) 1 1)
    (hn : q.length ≤ 1099511627775) (hbase : base ≤ w.heap.size)
    (h : ∀ v' w', w'.ownsRow base 95 4 v' (q ++ [((x, b), (y, c))]).length (bts (q ++ [((x, b), (y, c))])) → Below base w w' → K (a.put o.dst v') w') :
    if Region.wanted o (yielded ops a.tmps) = true then Oper.wp Tryz.prog o a (w.alloc (.cells #[.int .i64 x, .bool b, .int .i64 y, .bool c] e2)).drew K Q else E := by
  refine step_push_own (w := (w.alloc (.cells #[.int .i64 x, .bool b, .int .i64 y, .bool c] e2)).drew) (hown.alloc _) w.heap.size #[.int .i64 x, .bool b, .int .i64 y, .bool c] ?_ rfl (bt_one x b y c) Tryz.underlying28 inf_bt rfl (by omega) hgd s z ho hs hx hn (by omega) (by simp; omega) (by simp) fun v' w' h1 h2 h3 => h v' w' ?_ ?_
  · intro j u hu
    show (w.alloc _).cell? _ = _
    rw [World.cell?_alloc_at _ _ _ _ rfl]
    simpa using hu
  · rw [← bts_snoc, List.length_append]; exact h1
  · exact (((Below.refl _ _).alloc hbase _).drew).trans h2
theorem mirP_step {p : List Beat} {k : Nat} {x : Beat} (h : p[k]? = some x) : mirP (p.take (k + 1)) = mirP (p.take k) ++ [mirB x] := by
  rw [List.take_add_one, h, mirP_append]; rfl
theorem mirrored_any (A : Option Addr) (n c : Nat) (p : List Beat) (w : World) (hn : n ≤ 1099511627776) (hr : Rd w w.heap.size 4 A n (bts p)) :
    Calls Tryz.prog 107 #[.slice A n c] w fun e w' => ∃ v, e = .returned v ∧ w'.ownsRow w.heap.size 95 4 v n (bts (mirP p)) ∧ Below w.heap.size w w' := by
  have hlen := hid hr.bt_len
  have HR := hid hr
  have hst : Hid (mirP (p.take 0) = []) := rfl
  have hms := hid (fun (k : Nat) (x : Beat) (h : p[k]? = some x) => mirP_step h)
  clear hr
  go_enter Tryz.func107, Tryz.ntmps107
  go_wp2
  go_loopw [3, 9] (fun v i wr => Hid (∃ k : Nat, k ≤ n ∧ i = .int .i64 k ∧ wr.ownsRow w.heap.size 95 4 v (mirP (p.take k)).length (bts (mirP (p.take k))) ∧ Below w.heap.size w wr)) (fun _ i _ => n - (intOf i).toNat)
  case atStart => exact hid ⟨0, Nat.zero_le _, rfl, by rw [hst.out]; exact World.ownsRow_lit _ _ 0 (Nat.le_refl _) (by simp [maxLen]) rfl, (by repeat' (first | exact Below.refl _ _ | (with_reducible first | assumption | exact Nat.le_refl _ | refine Below.alloc ?_ ?_ _ | refine Below.setCell ?_ ?_ _ | refine Below.drew ?_ | refine below_drewN ?_ _) | refine Below.trans ?_ (Below.mono (by assumption) ?_) | exact Below.size (by assumption) | omega | go_size | (simp at *; omega)))⟩
  case round =>
    obtain ⟨k, hk, rfl, ho, hb0⟩ := hrel.out
    have hz := hb0.size
    have hol : (mirP (p.take k)).length ≤ 1099511627776 := by rw [mirP_len, List.length_take]; omega
    clear hrel
    by_cases hlt : k < n
    · obtain ⟨b, off, y, rfl, hb, hy, hd, c0, c1, c2, c3⟩ := (HR.out.below hb0 (Nat.le_refl _)).bt_at hlt
      obtain ⟨⟨q1, q2⟩, ⟨q3, q4⟩⟩ := y
      have hS := hid (hms.out k _ hy)
      generalize mirP (p.take k) = out at *
      have hbw : b < wr.heap.size := by omega
      have hoa := fun o => ho.alloc o
      obtain ⟨g, hg⟩ : ∃ g, g = wr.heap.size := ⟨_, rfl⟩
      have HOA : Hid (∀ u : Array Value, ((wr.alloc (Obj.cells u 95))).ownsRow w.heap.size 95 4 u3 out.length (bts out)) := fun u => ho.alloc _
      clear hy hd hoa hg
      go_wp2_with (at_builtin; refine push_bt (HOA.out _) q3 q4 q1 q2 _ rfl _ _ rfl rfl rfl (by simp) hol (by simp; omega) ?_; intro v2 w2 ho2 hb2 hg2)
      go_roundw
      case rel => exact hid ⟨k + 1, by omega, by go_num, by rw [hS.out]; exact ho2, (by repeat' (first | exact Below.refl _ _ | (with_reducible first | assumption | exact Nat.le_refl _ | refine Below.alloc ?_ ?_ _ | refine Below.setCell ?_ ?_ _ | refine Below.drew ?_ | refine below_drewN ?_ _) | refine Below.trans ?_ (Below.mono (by assumption) ?_) | exact Below.size (by assumption) | omega | go_size | (simp at *; omega)))⟩
      case measure => simp [intOf]; omega
    · have hkn : k = n := by omega
      have hml : (mirP p).length = n := by rw [mirP_len]; exact hlen.out
      rw [List.take_of_length_le (by rw [hlen.out]; omega), hml] at ho
      go_wp2
      go_ret
      exact ⟨_, rfl, ho, hb0⟩
theorem l05Mirror_any (A : Option Addr) (n c : Nat) (p : List Beat) (w : World) (hn : n ≤ 1099511627776) (hr : Rd w w.heap.size 4 A n (bts p)) :
    Calls Tryz.prog 139 #[.slice A n c] w fun e w' => ∃ v, e = .returned v ∧ w'.ownsRow w.heap.size 95 4 v n (bts (mirP p)) ∧ Below w.heap.size w w' := by
  have hlen := hid hr.bt_len
  have HR := hid hr
  have hst : Hid (mirP (p.take 0) = []) := rfl
  have hms := hid (fun (k : Nat) (x : Beat) (h : p[k]? = some x) => mirP_step h)
  clear hr
  go_enter Tryz.func139, Tryz.ntmps139
  go_wp2
  go_loopw [3, 4] (fun v i wr => Hid (∃ k : Nat, k ≤ n ∧ i = .int .i64 k ∧ wr.ownsRow w.heap.size 95 4 v (mirP (p.take k)).length (bts (mirP (p.take k))) ∧ Below w.heap.size w wr)) (fun _ i _ => n - (intOf i).toNat)
  case atStart => exact hid ⟨0, Nat.zero_le _, rfl, by rw [hst.out]; exact World.ownsRow_lit _ _ 0 (Nat.le_refl _) (by simp [maxLen]) rfl, (by repeat' (first | exact Below.refl _ _ | (with_reducible first | assumption | exact Nat.le_refl _ | refine Below.alloc ?_ ?_ _ | refine Below.setCell ?_ ?_ _ | refine Below.drew ?_ | refine below_drewN ?_ _) | refine Below.trans ?_ (Below.mono (by assumption) ?_) | exact Below.size (by assumption) | omega | go_size | (simp at *; omega)))⟩
  case round =>
    obtain ⟨k, hk, rfl, ho, hb0⟩ := hrel.out
    have hz := hb0.size
    have hol : (mirP (p.take k)).length ≤ k := by rw [mirP_len, List.length_take]; omega
    clear hrel
    by_cases hlt : k < n
    · obtain ⟨b, off, y, rfl, hb, hy, hd, c0, c1, c2, c3⟩ := (HR.out.below hb0 (Nat.le_refl _)).bt_at hlt
      obtain ⟨⟨q1, q2⟩, ⟨q3, q4⟩⟩ := y
      have hS := hid (hms.out k _ hy)
      generalize mirP (p.take k) = out at *
      have hbw : b < wr.heap.size := by omega
      clear hy hd
      go_wp2
      have hki : (k : Int) < (n : Int) := by omega
      have hk0 : (0 : Int) ≤ (k : Int) := by omega
      go_region_held3 (fun w' => w'.cell? ⟨b, off + k * 4, none⟩ = some (.int .i64 q1) ∧ w'.cell? ⟨b, off + k * 4 + 1, none⟩ = some (.bool q2) ∧ w'.cell? ⟨b, off + k * 4 + 2, none⟩ = some (.int .i64 q3) ∧ w'.cell? ⟨b, off + k * 4 + 3, none⟩ = some (.bool q4)) (first | go_keep | exact ⟨(hb2.cell (p := ⟨b, off + k * 4, none⟩) hb).trans c0, (hb2.cell (p := ⟨b, off + k * 4 + 1, none⟩) hb).trans c1, (hb2.cell (p := ⟨b, off + k * 4 + 2, none⟩) hb).trans c2, (hb2.cell (p := ⟨b, off + k * 4 + 3, none⟩) hb).trans c3⟩) ((refine step_push_bt ho q3 q4 q1 q2 _ (by rfl) _ _ (by rfl) (by rfl) (by rfl) (by omega) hz ?_; intro v2 w2 ho2 hb2))
      go_wp2
      go_roundw
      case rel => exact hid ⟨k + 1, by omega, by go_num, by rw [hS.out]; exact ho2, (by repeat' (first | exact Below.refl _ _ | (with_reducible first | assumption | exact Nat.le_refl _ | refine Below.alloc ?_ ?_ _ | refine Below.setCell ?_ ?_ _ | refine Below.drew ?_ | refine below_drewN ?_ _) | refine Below.trans ?_ (Below.mono (by assumption) ?_) | exact Below.size (by assumption) | omega | go_size | (simp at *; omega)))⟩
      case measure => simp [intOf]; omega
    · have hkn : k = n := by omega
      have hml : (mirP p).length = n := by rw [mirP_len]; exact hlen.out
      rw [List.take_of_length_le (by rw [hlen.out]; omega), hml] at ho
      go_wp2
      go_ret
      exact ⟨_, rfl, ho, hb0⟩
/-- A list of beats of the call's own, and a code. -/
def SyRes (B : Nat) (r : List Beat × Int) (e : Ending) (w : World) : Prop := ∃ A c, (A = none → c = 0) ∧ e = .returned (.tuple #[.slice A r.1.length c, .int .i64 r.2]) ∧ w.ownsRow B 95 4 (.slice A r.1.length c) r.1.length (bts r.1)
theorem SyRes.none_ (B : Nat) (w : World) (x : Int) : SyRes B ([], x) (.returned (.tuple #[.slice none 0 0, .int .i64 x])) w := ⟨none, 0, fun _ => rfl, rfl, World.ownsRow_nil _ _ _ _⟩
theorem own_form3 {w : World} {base e sz n : Nat} {v : Value} {xs : List Value} (h : w.ownsRow base e sz v n xs) : ∃ A c, v = .slice A n c ∧ (A = none → c = 0) := by
  rcases h.2 with ⟨rfl, rfl⟩ | ⟨g, cap, cur, rfl, hge, hh, r⟩
  · exact ⟨none, 0, rfl, fun _ => rfl⟩
  · exact ⟨_, _, rfl, fun h => (by cases h)⟩
theorem SyRes.mk {B n : Nat} {v : Value} {w : World} {q : List Beat} {x : Int} (hl : q.length = n) (h : w.ownsRow B 95 4 v n (bts q)) : SyRes B (q, x) (.returned (.tuple #[v, .int .i64 x])) w := by
  subst hl
  obtain ⟨A, c, rfl, hA⟩ := own_form3 h
  exact ⟨A, c, hA, rfl, h⟩
set_option maxHeartbeats 400000 in
theorem StarSync_any (A : Option Addr) (n c : Nat) (p : List Beat) (w : World) (hn : n ≤ 1099511627776) (hA : A = none → c = 0) (hr : Rd w w.heap.size 4 A n (bts p)) :
    Calls Tryz.prog 66 #[.slice A n c] w fun e w' => SyRes w.heap.size (rStarSync p) e w' ∧ Below w.heap.size w w' := by
  have hlen := hr.bt_len
  have hL := areSyncBeats_any A n c p w hn hr
  cases hp : beatsOk p with
  | true =>
    rw [hp] at hL
    have hL := hid hL
    have h6 := (beatsOk_iff.1 hp).2.2
    rw [hlen] at h6
    have hM := hid (fun (w1 : World) (b : Below w.heap.size w w1) => mirrored_any A n c p w1 hn ((hr.below b (Nat.le_refl _)).more b.size))
    have HR := hid (fun (w1 : World) (b : Below w.heap.size w w1) => hr.below b (Nat.le_refl _))
    have hml : Hid ((p ++ mirP p).length = n + n) := by show _ = _; rw [List.length_append, mirP_len, hlen]
    have HO : Hid (rStarSync p = if 6 < 2 * n then ([], 5) else if syOk (p ++ mirP p) then (p ++ mirP p, 0) else ([], 9)) := by show _ = _; rw [rStarSync, hp, hlen]; rfl
    have HLN := hid hlen
    have HA := hid hA
    clear hr hp hlen hA
    by_cases hbig : 6 < n + n
    · have HO : Hid (rStarSync p = ([], 5)) := by show _ = _; rw [HO.out, if_pos (by omega)]
      go_enter Tryz.func66, Tryz.ntmps66
      go_wp2_with fail
      refine hL.out.mono ?_
      rintro e w1 ⟨rfl, hb1⟩
      have hz1 := hb1.size
      have ho0 : (w1.alloc (Obj.cells #[] 95)).ownsRow w.heap.size 95 4 (.slice (some ⟨w1.heap.size, 0, none⟩) 0 0) 0 [] := World.ownsRow_lit (base := w.heap.size) w1 #[] (e := 95) (size := 4) 0 hz1 (by simp [maxLen]) rfl
      have hba : Below w.heap.size w (w1.alloc (Obj.cells #[] 95)) := (by repeat' (first | exact Below.refl _ _ | (with_reducible first | assumption | exact Nat.le_refl _ | refine Below.alloc ?_ ?_ _ | refine Below.setCell ?_ ?_ _ | refine Below.drew ?_ | refine below_drewN ?_ _) | refine Below.trans ?_ (Below.mono (by assumption) ?_) | exact Below.size (by assumption) | omega | go_size | (simp at *; omega)))
      have HO0 := hid ho0
      clear ho0
      go_wp2_with (at_builtin; refine app_own HO0.out A n c (bts p) (HR.out _ hba) HA.out (bts_one p) Tryz.underlying28 inf_bt rfl (by omega) rfl (.tmp 8) (.tmp 9) rfl rfl rfl (by omega) (by omega) (by simp; omega) ?_; intro v2 w2 ho2 hb2 hg2)
      have hb2 := hba.trans hb2
      have hz2 := hb2.size
      go_wp2_with fail
      refine (hM.out w2 hb2).mono ?_
      rintro e w3 ⟨v3, rfl, ho3, hb3⟩
      obtain ⟨A3, c3, rfl, hA3⟩ := own_form3 ho3
      have HA3 := hid hA3
      have HR3 := hid (Rd.of_own ho3)
      have ho2 := own_below ho2 hb3
      have hb3' := bchain hb2 hb3
      have hz3 := hb3'.size
      have HO2 := hid ho2
      clear hA3 ho2 ho3
      go_wp2_with (at_builtin; refine app_own HO2.out A3 n c3 (bts (mirP p)) HR3.out HA3.out (bts_one _) Tryz.underlying28 inf_bt rfl (by omega) rfl (.tmp 10) (.tmp 12) rfl rfl rfl (by omega) (by omega) (by omega) ?_; intro v4 w4 ho4 hb4 hg4; rw [List.nil_append, bts_append] at ho4; have ho4 : w4.ownsRow w.heap.size 95 4 v4 (n + n) (bts (p ++ mirP p)) := (by rw [Nat.zero_add] at ho4; exact ho4); obtain ⟨A4, c4, rfl, hA4⟩ := own_form3 ho4)
      go_ret2
      exact ⟨by rw [HO.out]; exact SyRes.none_ _ _ _, (by repeat' (first | exact Below.refl _ _ | (with_reducible first | assumption | exact Nat.le_refl _ | refine Below.alloc ?_ ?_ _ | refine Below.setCell ?_ ?_ _ | refine Below.drew ?_ | refine below_drewN ?_ _) | refine Below.trans ?_ (Below.mono (by assumption) ?_) | exact Below.size (by assumption) | omega | go_size | (simp at *; omega)))⟩
    · have HO : Hid (rStarSync p = if syOk (p ++ mirP p) then (p ++ mirP p, 0) else ([], 9)) := by show _ = _; rw [HO.out, if_neg (by omega)]
      go_enter Tryz.func66, Tryz.ntmps66
      go_wp2_with fail
      refine hL.out.mono ?_
      rintro e w1 ⟨rfl, hb1⟩
      have hz1 := hb1.size
      have ho0 : (w1.alloc (Obj.cells #[] 95)).ownsRow w.heap.size 95 4 (.slice (some ⟨w1.heap.size, 0, none⟩) 0 0) 0 [] := World.ownsRow_lit (base := w.heap.size) w1 #[] (e := 95) (size := 4) 0 hz1 (by simp [maxLen]) rfl
      have hba : Below w.heap.size w (w1.alloc (Obj.cells #[] 95)) := (by repeat' (first | exact Below.refl _ _ | (with_reducible first | assumption | exact Nat.le_refl _ | refine Below.alloc ?_ ?_ _ | refine Below.setCell ?_ ?_ _ | refine Below.drew ?_ | refine below_drewN ?_ _) | refine Below.trans ?_ (Below.mono (by assumption) ?_) | exact Below.size (by assumption) | omega | go_size | (simp at *; omega)))
      have HO0 := hid ho0
      clear ho0
      go_wp2_with (at_builtin; refine app_own HO0.out A n c (bts p) (HR.out _ hba) HA.out (bts_one p) Tryz.underlying28 inf_bt rfl (by omega) rfl (.tmp 8) (.tmp 9) rfl rfl rfl (by omega) (by omega) (by simp; omega) ?_; intro v2 w2 ho2 hb2 hg2)
      have hb2 := hba.trans hb2
      have hz2 := hb2.size
      go_wp2_with fail
      refine (hM.out w2 hb2).mono ?_
      rintro e w3 ⟨v3, rfl, ho3, hb3⟩
      obtain ⟨A3, c3, rfl, hA3⟩ := own_form3 ho3
      have HA3 := hid hA3
      have HR3 := hid (Rd.of_own ho3)
      have ho2 := own_below ho2 hb3
      have hb3' := bchain hb2 hb3
      have hz3 := hb3'.size
      have HO2 := hid ho2
      clear hA3 ho2 ho3
      go_wp2_with (at_builtin; refine app_own HO2.out A3 n c3 (bts (mirP p)) HR3.out HA3.out (bts_one _) Tryz.underlying28 inf_bt rfl (by omega) rfl (.tmp 10) (.tmp 12) rfl rfl rfl (by omega) (by omega) (by omega) ?_; intro v4 w4 ho4 hb4 hg4; rw [List.nil_append, bts_append] at ho4; have ho4 : w4.ownsRow w.heap.size 95 4 v4 (n + n) (bts (p ++ mirP p)) := (by rw [Nat.zero_add] at ho4; exact ho4); obtain ⟨A4, c4, rfl, hA4⟩ := own_form3 ho4)
      have hV := ValidSync_any A4 (n + n) c4 (p ++ mirP p) w4 (by omega) (Rd.of_own ho4)
      have hb4' := hb3'.trans hb4
      cases hok : syOk (p ++ mirP p) with
      | true =>
        rw [hok] at hV HO
        have hV := hid hV
        have HO := hid HO.out
        clear hok hA4
        go_wp2_with fail
        refine hV.out.mono ?_
        rintro e w5 ⟨rfl, hb5⟩
        go_wp2
        go_ret2
        exact ⟨by rw [HO.out]; exact SyRes.mk hml.out (own_below ho4 hb5), (by repeat' (first | exact Below.refl _ _ | (with_reducible first | assumption | exact Nat.le_refl _ | refine Below.alloc ?_ ?_ _ | refine Below.setCell ?_ ?_ _ | refine Below.drew ?_ | refine below_drewN ?_ _) | refine Below.trans ?_ (Below.mono (by assumption) ?_) | exact Below.size (by assumption) | omega | go_size | (simp at *; omega)))⟩
      | false =>
        rw [hok] at hV HO
        have hV := hid hV
        have HO := hid HO.out
        clear hok hA4
        go_wp2_with fail
        refine hV.out.mono ?_
        rintro e w5 ⟨rfl, hb5⟩
        go_wp2
        go_ret2
        exact ⟨by rw [HO.out]; exact SyRes.none_ _ _ _, (by repeat' (first | exact Below.refl _ _ | (with_reducible first | assumption | exact Nat.le_refl _ | refine Below.alloc ?_ ?_ _ | refine Below.setCell ?_ ?_ _ | refine Below.drew ?_ | refine below_drewN ?_ _) | refine Below.trans ?_ (Below.mono (by assumption) ?_) | exact Below.size (by assumption) | omega | go_size | (simp at *; omega)))⟩
  | false =>
    rw [hp] at hL
    have hL := hid hL
    have HO : Hid (rStarSync p = ([], 1)) := by show _ = _; simp [rStarSync, hp]
    clear hr hp hlen hA
    go_enter Tryz.func66, Tryz.ntmps66
    go_wp2_with fail
    refine hL.out.mono ?_
    rintro e w1 ⟨rfl, hb1⟩
    go_wp2
    go_ret2
    exact ⟨by rw [HO.out]; exact SyRes.none_ _ _ _, (by repeat' (first | exact Below.refl _ _ | (with_reducible first | assumption | exact Nat.le_refl _ | refine Below.alloc ?_ ?_ _ | refine Below.setCell ?_ ?_ _ | refine Below.drew ?_ | refine below_drewN ?_ _) | refine Below.trans ?_ (Below.mono (by assumption) ?_) | exact Below.size (by assumption) | omega | go_size | (simp at *; omega)))⟩
set_option maxHeartbeats 400000 in
theorem specStarSync_any (A : Option Addr) (n c : Nat) (p : List Beat) (w : World) (hn : n ≤ 1099511627776) (hA : A = none → c = 0) (hr : Rd w w.heap.size 4 A n (bts p)) :
    Calls Tryz.prog 115 #[.slice A n c] w fun e w' => SyRes w.heap.size (rStarSync p) e w' ∧ Below w.heap.size w w' := by
  have hlen := hr.bt_len
  have hL := l05List_any A n c p w hn hr
  cases hp : beatsOk p with
  | true =>
    rw [hp] at hL
    have hL := hid hL
    have h6 := (beatsOk_iff.1 hp).2.2
    rw [hlen] at h6
    have hM := hid (fun (w1 : World) (b : Below w.heap.size w w1) => l05Mirror_any A n c p w1 hn ((hr.below b (Nat.le_refl _)).more b.size))
    have HR := hid (fun (w1 : World) (b : Below w.heap.size w w1) => hr.below b (Nat.le_refl _))
    have hml : Hid ((p ++ mirP p).length = n + n) := by show _ = _; rw [List.length_append, mirP_len, hlen]
    have HO : Hid (rStarSync p = if 6 < 2 * n then ([], 5) else if syOk (p ++ mirP p) then (p ++ mirP p, 0) else ([], 9)) := by show _ = _; rw [rStarSync, hp, hlen]; rfl
    have HLN := hid hlen
    have HA := hid hA
    clear hr hp hlen hA
    by_cases hbig : 6 < n + n
    · have HO : Hid (rStarSync p = ([], 5)) := by show _ = _; rw [HO.out, if_pos (by omega)]
      go_enter Tryz.func115, Tryz.ntmps115
      go_wp2_with fail
      refine hL.out.mono ?_
      rintro e w1 ⟨rfl, hb1⟩
      go_wp2
      go_ret2
      exact ⟨by rw [HO.out]; exact SyRes.none_ _ _ _, (by repeat' (first | exact Below.refl _ _ | (with_reducible first | assumption | exact Nat.le_refl _ | refine Below.alloc ?_ ?_ _ | refine Below.setCell ?_ ?_ _ | refine Below.drew ?_ | refine below_drewN ?_ _) | refine Below.trans ?_ (Below.mono (by assumption) ?_) | exact Below.size (by assumption) | omega | go_size | (simp at *; omega)))⟩
    · have HO : Hid (rStarSync p = if syOk (p ++ mirP p) then (p ++ mirP p, 0) else ([], 9)) := by show _ = _; rw [HO.out, if_neg (by omega)]
      go_enter Tryz.func115, Tryz.ntmps115
      go_wp2_with fail
      refine hL.out.mono ?_
      rintro e w1 ⟨rfl, hb1⟩
      have hz1 := hb1.size
      have ho0 : (w1.alloc (Obj.cells #[] 95)).ownsRow w.heap.size 95 4 (.slice (some ⟨w1.heap.size, 0, none⟩) 0 0) 0 [] := World.ownsRow_lit (base := w.heap.size) w1 #[] (e := 95) (size := 4) 0 hz1 (by simp [maxLen]) rfl
      have hba : Below w.heap.size w (w1.alloc (Obj.cells #[] 95)) := (by repeat' (first | exact Below.refl _ _ | (with_reducible first | assumption | exact Nat.le_refl _ | refine Below.alloc ?_ ?_ _ | refine Below.setCell ?_ ?_ _ | refine Below.drew ?_ | refine below_drewN ?_ _) | refine Below.trans ?_ (Below.mono (by assumption) ?_) | exact Below.size (by assumption) | omega | go_size | (simp at *; omega)))
      have HO0 := hid ho0
      clear ho0
      go_wp2_with (at_builtin; refine app_own HO0.out A n c (bts p) (HR.out _ hba) HA.out (bts_one p) Tryz.underlying28 inf_bt rfl (by omega) rfl (.tmp 12) (.tmp 13) rfl rfl rfl (by omega) (by omega) (by simp; omega) ?_; intro v2 w2 ho2 hb2 hg2)
      have hb2 := hba.trans hb2
      have hz2 := hb2.size
      go_wp2_with fail
      refine (hM.out w2 hb2).mono ?_
      rintro e w3 ⟨v3, rfl, ho3, hb3⟩
      obtain ⟨A3, c3, rfl, hA3⟩ := own_form3 ho3
      have HA3 := hid hA3
      have HR3 := hid (Rd.of_own ho3)
      have ho2 := own_below ho2 hb3
      have hb3' := bchain hb2 hb3
      have hz3 := hb3'.size
      have HO2 := hid ho2
      clear hA3 ho2 ho3
      go_wp2_with (at_builtin; refine app_own HO2.out A3 n c3 (bts (mirP p)) HR3.out HA3.out (bts_one _) Tryz.underlying28 inf_bt rfl (by omega) rfl (.tmp 15) (.tmp 17) rfl rfl rfl (by omega) (by omega) (by omega) ?_; intro v4 w4 ho4 hb4 hg4; rw [List.nil_append, bts_append] at ho4; have ho4 : w4.ownsRow w.heap.size 95 4 v4 (n + n) (bts (p ++ mirP p)) := (by rw [Nat.zero_add] at ho4; exact ho4); obtain ⟨A4, c4, rfl, hA4⟩ := own_form3 ho4)
      have hV := l05Ok_any A4 (n + n) c4 (p ++ mirP p) w4 (by omega) (Rd.of_own ho4)
      have hb4' := hb3'.trans hb4
      cases hok : syOk (p ++ mirP p) with
      | true =>
        rw [hok] at hV HO
        have hV := hid hV
        have HO := hid HO.out
        clear hok hA4
        go_wp2_with fail
        refine hV.out.mono ?_
        rintro e w5 ⟨rfl, hb5⟩
        go_wp2
        go_ret2
        exact ⟨by rw [HO.out]; exact SyRes.mk hml.out (own_below ho4 hb5), (by repeat' (first | exact Below.refl _ _ | (with_reducible first | assumption | exact Nat.le_refl _ | refine Below.alloc ?_ ?_ _ | refine Below.setCell ?_ ?_ _ | refine Below.drew ?_ | refine below_drewN ?_ _) | refine Below.trans ?_ (Below.mono (by assumption) ?_) | exact Below.size (by assumption) | omega | go_size | (simp at *; omega)))⟩
      | false =>
        rw [hok] at hV HO
        have hV := hid hV
        have HO := hid HO.out
        clear hok hA4
        go_wp2_with fail
        refine hV.out.mono ?_
        rintro e w5 ⟨rfl, hb5⟩
        go_wp2
        go_ret2
        exact ⟨by rw [HO.out]; exact SyRes.none_ _ _ _, (by repeat' (first | exact Below.refl _ _ | (with_reducible first | assumption | exact Nat.le_refl _ | refine Below.alloc ?_ ?_ _ | refine Below.setCell ?_ ?_ _ | refine Below.drew ?_ | refine below_drewN ?_ _) | refine Below.trans ?_ (Below.mono (by assumption) ?_) | exact Below.size (by assumption) | omega | go_size | (simp at *; omega)))⟩
  | false =>
    rw [hp] at hL
    have hL := hid hL
    have HO : Hid (rStarSync p = ([], 1)) := by show _ = _; simp [rStarSync, hp]
    clear hr hp hlen hA
    go_enter Tryz.func115, Tryz.ntmps115
    go_wp2_with fail
    refine hL.out.mono ?_
    rintro e w1 ⟨rfl, hb1⟩
    go_wp2
    go_ret2
    exact ⟨by rw [HO.out]; exact SyRes.none_ _ _ _, (by repeat' (first | exact Below.refl _ _ | (with_reducible first | assumption | exact Nat.le_refl _ | refine Below.alloc ?_ ?_ _ | refine Below.setCell ?_ ?_ _ | refine Below.drew ?_ | refine below_drewN ?_ _) | refine Below.trans ?_ (Below.mono (by assumption) ?_) | exact Below.size (by assumption) | omega | go_size | (simp at *; omega)))⟩
end Go.Proofs.YtgphkfnobmponaaGreat

/- Contracts of NoteName, FaultName, impl's and the reference's. -/
namespace Go.Proofs.YtgphkfnobmponaaGreat
open Go.RowKit
set_option linter.unusedVariables false

def rNoteName (k : Int) : ByteArray := if k = 1 then ⟨#[112, 97, 116, 116, 101, 114, 110]⟩ else if k = 2 then ⟨#[109, 117, 108, 116, 105]⟩ else if k = 3 then ⟨#[115, 121, 110, 99]⟩ else if k = 4 then ⟨#[112, 97, 115, 115, 105, 110, 103]⟩ else ⟨#[]⟩
def rFaultName (k : Int) : ByteArray := if k = 0 then ⟨#[110, 111, 110, 101]⟩ else if k = 1 then ⟨#[101, 109, 112, 116, 121]⟩ else if k = 2 then ⟨#[108, 111, 110, 103]⟩ else if k = 3 then ⟨#[99, 104, 97, 114, 97, 99, 116, 101, 114]⟩ else if k = 4 then ⟨#[102, 111, 114, 109]⟩ else if k = 5 then ⟨#[99, 111, 108, 108, 105, 115, 105, 111, 110]⟩ else ⟨#[]⟩
theorem NoteName_any (k : Int) (w : World) : Calls Tryz.prog 18 #[.int .i64 k] w fun e w' => e = .returned (.string (rNoteName k)) ∧ Below w.heap.size w w' := by
  by_cases h1 : k = 1
  · subst h1
    go_enter Tryz.func18, Tryz.ntmps18
    go_wp2
    go_ret
    exact ⟨rfl, (by repeat' (first | exact Below.refl _ _ | (with_reducible first | assumption | exact Nat.le_refl _ | refine Below.alloc ?_ ?_ _ | refine Below.setCell ?_ ?_ _ | refine Below.drew ?_ | refine below_drewN ?_ _) | refine Below.trans ?_ (Below.mono (by assumption) ?_) | exact Below.size (by assumption) | omega | go_size | (simp at *; omega)))⟩
  · by_cases h2 : k = 2
    · subst h2
      go_enter Tryz.func18, Tryz.ntmps18
      go_wp2
      go_ret
      exact ⟨rfl, (by repeat' (first | exact Below.refl _ _ | (with_reducible first | assumption | exact Nat.le_refl _ | refine Below.alloc ?_ ?_ _ | refine Below.setCell ?_ ?_ _ | refine Below.drew ?_ | refine below_drewN ?_ _) | refine Below.trans ?_ (Below.mono (by assumption) ?_) | exact Below.size (by assumption) | omega | go_size | (simp at *; omega)))⟩
    · by_cases h3 : k = 3
      · subst h3
        go_enter Tryz.func18, Tryz.ntmps18
        go_wp2
        go_ret
        exact ⟨rfl, (by repeat' (first | exact Below.refl _ _ | (with_reducible first | assumption | exact Nat.le_refl _ | refine Below.alloc ?_ ?_ _ | refine Below.setCell ?_ ?_ _ | refine Below.drew ?_ | refine below_drewN ?_ _) | refine Below.trans ?_ (Below.mono (by assumption) ?_) | exact Below.size (by assumption) | omega | go_size | (simp at *; omega)))⟩
      · by_cases h4 : k = 4
        · subst h4
          go_enter Tryz.func18, Tryz.ntmps18
          go_wp2
          go_ret
          exact ⟨rfl, (by repeat' (first | exact Below.refl _ _ | (with_reducible first | assumption | exact Nat.le_refl _ | refine Below.alloc ?_ ?_ _ | refine Below.setCell ?_ ?_ _ | refine Below.drew ?_ | refine below_drewN ?_ _) | refine Below.trans ?_ (Below.mono (by assumption) ?_) | exact Below.size (by assumption) | omega | go_size | (simp at *; omega)))⟩
        · have HN : Hid (rNoteName k = ⟨#[]⟩) := by show _ = _; rw [rNoteName, if_neg h1, if_neg h2, if_neg h3, if_neg h4]
          have q1 : (k == 1) = false := by simpa using h1
          have q2 : (k == 2) = false := by simpa using h2
          have q3 : (k == 3) = false := by simpa using h3
          have q4 : (k == 4) = false := by simpa using h4
          go_enter Tryz.func18, Tryz.ntmps18
          go_wp2
          go_ret
          exact ⟨ret_str HN.out.symm, (by repeat' (first | exact Below.refl _ _ | (with_reducible first | assumption | exact Nat.le_refl _ | refine Below.alloc ?_ ?_ _ | refine Below.setCell ?_ ?_ _ | refine Below.drew ?_ | refine below_drewN ?_ _) | refine Below.trans ?_ (Below.mono (by assumption) ?_) | exact Below.size (by assumption) | omega | go_size | (simp at *; omega)))⟩
set_option maxRecDepth 100000 in
set_option maxHeartbeats 1000000 in
theorem specNoteName_any (k : Int) (w : World) : Calls Tryz.prog 19 #[.int .i64 k] w fun e w' => e = .returned (.string (rNoteName k)) ∧ Below w.heap.size w w' := by
  cases hq : betweenB k 1 4 with
  | false =>
    have HN : Hid (rNoteName k = ⟨#[]⟩) := by
      show _ = _
      have h : ¬ (1 ≤ k ∧ k ≤ 4) := fun h => by rw [(betweenB_iff k 1 4).2 h] at hq; cases hq
      rw [rNoteName, if_neg (by omega), if_neg (by omega), if_neg (by omega), if_neg (by omega)]
    go_enter Tryz.func19, Tryz.ntmps19
    go_wp2_with (go_at_call 54; refine (l00In_any k 1 4 _).mono ?_; rw [hq]; rintro e w' ⟨rfl, rfl⟩)
    go_ret
    exact ⟨ret_str HN.out.symm, (by repeat' (first | exact Below.refl _ _ | (with_reducible first | assumption | exact Nat.le_refl _ | refine Below.alloc ?_ ?_ _ | refine Below.setCell ?_ ?_ _ | refine Below.drew ?_ | refine below_drewN ?_ _) | refine Below.trans ?_ (Below.mono (by assumption) ?_) | exact Below.size (by assumption) | omega | go_size | (simp at *; omega)))⟩
  | true =>
    obtain ⟨h1, h4⟩ := (betweenB_iff _ _ _).1 hq
    rcases (show k = 1 ∨ k = 2 ∨ k = 3 ∨ k = 4 by omega) with rfl | rfl | rfl | rfl
    all_goals
      go_enter Tryz.func19, Tryz.ntmps19
      go_wp2_with (go_at_call 54; refine (l00In_any _ 1 4 _).mono ?_; rw [hq]; rintro e w' ⟨rfl, rfl⟩)
      go_ret
      exact ⟨rfl, (by repeat' (first | exact Below.refl _ _ | (with_reducible first | assumption | exact Nat.le_refl _ | refine Below.alloc ?_ ?_ _ | refine Below.setCell ?_ ?_ _ | refine Below.drew ?_ | refine below_drewN ?_ _) | refine Below.trans ?_ (Below.mono (by assumption) ?_) | exact Below.size (by assumption) | omega | go_size | (simp at *; omega)))⟩
set_option maxRecDepth 100000 in
set_option maxHeartbeats 1000000 in
theorem FaultName_any (k : Int) (w : World) : Calls Tryz.prog 20 #[.int .i64 k] w fun e w' => e = .returned (.string (rFaultName k)) ∧ Below w.heap.size w w' := by
  cases hq : betweenB k 0 5 with
  | false =>
    have HN : Hid (rFaultName k = ⟨#[]⟩) := by
      show _ = _
      have h : ¬ (0 ≤ k ∧ k ≤ 5) := fun h => by rw [(betweenB_iff k 0 5).2 h] at hq; cases hq
      rw [rFaultName, if_neg (by omega), if_neg (by omega), if_neg (by omega), if_neg (by omega), if_neg (by omega), if_neg (by omega)]
    go_enter Tryz.func20, Tryz.ntmps20
    go_wp2_with (go_at_call 55; refine (between_any k 0 5 _).mono ?_; rw [hq]; rintro e w' ⟨rfl, rfl⟩)
    go_ret
    exact ⟨ret_str HN.out.symm, (by repeat' (first | exact Below.refl _ _ | (with_reducible first | assumption | exact Nat.le_refl _ | refine Below.alloc ?_ ?_ _ | refine Below.setCell ?_ ?_ _ | refine Below.drew ?_ | refine below_drewN ?_ _) | refine Below.trans ?_ (Below.mono (by assumption) ?_) | exact Below.size (by assumption) | omega | go_size | (simp at *; omega)))⟩
  | true =>
    obtain ⟨h1, h4⟩ := (betweenB_iff _ _ _).1 hq
    rcases (show k = 0 ∨ k = 1 ∨ k = 2 ∨ k = 3 ∨ k = 4 ∨ k = 5 by omega) with rfl | rfl | rfl | rfl | rfl | rfl
    all_goals
      go_enter Tryz.func20, Tryz.ntmps20
      go_wp2_with (go_at_call 55; refine (between_any _ 0 5 _).mono ?_; rw [hq]; rintro e w' ⟨rfl, rfl⟩)
      go_ret
      exact ⟨rfl, (by repeat' (first | exact Below.refl _ _ | (with_reducible first | assumption | exact Nat.le_refl _ | refine Below.alloc ?_ ?_ _ | refine Below.setCell ?_ ?_ _ | refine Below.drew ?_ | refine below_drewN ?_ _) | refine Below.trans ?_ (Below.mono (by assumption) ?_) | exact Below.size (by assumption) | omega | go_size | (simp at *; omega)))⟩
set_option maxRecDepth 100000 in
set_option maxHeartbeats 1000000 in
theorem specFaultName_any (k : Int) (w : World) : Calls Tryz.prog 21 #[.int .i64 k] w fun e w' => e = .returned (.string (rFaultName k)) ∧ Below w.heap.size w w' := by
  cases hq : betweenB k 0 5 with
  | false =>
    have HN : Hid (rFaultName k = ⟨#[]⟩) := by
      show _ = _
      have h : ¬ (0 ≤ k ∧ k ≤ 5) := fun h => by rw [(betweenB_iff k 0 5).2 h] at hq; cases hq
      rw [rFaultName, if_neg (by omega), if_neg (by omega), if_neg (by omega), if_neg (by omega), if_neg (by omega), if_neg (by omega)]
    go_enter Tryz.func21, Tryz.ntmps21
    go_wp2_with (go_at_call 54; refine (l00In_any k 0 5 _).mono ?_; rw [hq]; rintro e w' ⟨rfl, rfl⟩)
    go_ret
    exact ⟨ret_str HN.out.symm, (by repeat' (first | exact Below.refl _ _ | (with_reducible first | assumption | exact Nat.le_refl _ | refine Below.alloc ?_ ?_ _ | refine Below.setCell ?_ ?_ _ | refine Below.drew ?_ | refine below_drewN ?_ _) | refine Below.trans ?_ (Below.mono (by assumption) ?_) | exact Below.size (by assumption) | omega | go_size | (simp at *; omega)))⟩
  | true =>
    obtain ⟨h1, h4⟩ := (betweenB_iff _ _ _).1 hq
    rcases (show k = 0 ∨ k = 1 ∨ k = 2 ∨ k = 3 ∨ k = 4 ∨ k = 5 by omega) with rfl | rfl | rfl | rfl | rfl | rfl
    all_goals
      go_enter Tryz.func21, Tryz.ntmps21
      go_wp2_with (go_at_call 54; refine (l00In_any _ 0 5 _).mono ?_; rw [hq]; rintro e w' ⟨rfl, rfl⟩)
      go_ret
      exact ⟨rfl, (by repeat' (first | exact Below.refl _ _ | (with_reducible first | assumption | exact Nat.le_refl _ | refine Below.alloc ?_ ?_ _ | refine Below.setCell ?_ ?_ _ | refine Below.drew ?_ | refine below_drewN ?_ _) | refine Below.trans ?_ (Below.mono (by assumption) ?_) | exact Below.size (by assumption) | omega | go_size | (simp at *; omega)))⟩
end Go.Proofs.YtgphkfnobmponaaGreat
