/- The text: Vc. -/
import Derived.Test.YtgphkfnobmponaaGreatZx
import Derived.Test.YtgphkfnobmponaaGreatG43
import Derived.Test.YtgphkfnobmponaaGreatG28
import Derived.Deep.DeepAppendRoom
import Derived.ArgAppend
/- Contract of l07Bent: a drawn notation, seldom not valid. -/
namespace Go.Proofs.YtgphkfnobmponaaGreat
open Go.RowKit
set_option linter.unusedVariables false

theorem RdP.grown {w w' : World} {C B n g : Nat} {A : Option Addr} {us : List Value} (h : RdP w C B A n us) (hg : w.grownBy w' (some g)) (hC : g < C) (hB : B ≤ w.heap.size) : RdP w' C B A n us :=
  h.keep fun p h0 hp => World.cell?_of_block (hg.block p.block (by omega) (by intro e; injection e with e; omega))
/-- 'append(p.A, t)', where p.B may lie in the same block, and is no longer. -/
theorem push_pt {w : World} {ops : Array Oper} {rest : List Oper} {o : Oper} {a : Act} {Q : Exit → Act → World → Prop}
    {base gm c4 c5 : Nat} {A4 A5 : Option Addr} {q1 q2 : List PT} (h1 : w.ownsRow base 83 2 (.slice A4 q1.length c4) q1.length (ths q1)) (h2 : w.ownsRow base 83 2 (.slice A5 q2.length c5) q2.length (ths q2)) (h3 : RdP w base gm A5 q2.length (ths q2)) (hgm : gm ≤ w.heap.size)
    (hle : q2.length ≤ q1.length) (x : Int) (b : Bool) (e2 : TypeId)
    (hgd : o.guard = none) (s z : Operand) (ho : o.op = .call { callee := .builtin .append, args := #[s, z], argTypes := #[29, 29] }) (hs : a.eval s = .slice A4 q1.length c4) (hx : a.eval z = .slice (some ⟨w.heap.size, 0, none⟩) 1 1)
    (hn : q1.length ≤ 1000000) (hbase : base ≤ w.heap.size)
    (h : ∀ v' w', w'.ownsRow base 83 2 v' (q1 ++ [(x, b)]).length (ths (q1 ++ [(x, b)])) → RdP w' base gm A5 q2.length (ths q2) → Below base w w' → w.grownBy w' (Value.slice A4 q1.length c4).ownBlock → wpList Tryz.prog ops Q rest (a.put o.dst v') w') :
    wpList Tryz.prog ops Q (o :: rest) a (w.alloc (.cells #[.int .i64 x, .bool b] e2)) := by
  have hnews : ∀ (j : Nat) (u : Value), (#[Value.int .i64 x, Value.bool b] : Array Value).toList[j]? = some u → (w.alloc (.cells #[.int .i64 x, .bool b] e2)).cell? ((⟨w.heap.size, 0, none⟩ : Addr).add j) = some u := by
    intro j u hj
    have e1 : (⟨w.heap.size, 0, none⟩ : Addr).add j = ⟨w.heap.size, j, none⟩ := by unfold Addr.add; split <;> simp_all
    rw [e1, World.cell?_alloc_at _ _ _ _ rfl]
    simpa using hj
  have hlen : (q1 ++ [(x, b)]).length = q1.length + 1 := by simp
  have hth : ths (q1 ++ [(x, b)]) = ths q1 ++ (#[Value.int .i64 x, Value.bool b] : Array Value).toList := (ths_snoc q1 (x, b)).symm
  have hcap : q1.length ≤ c4 := by
    obtain ⟨_, _, e, _, h⟩ := own_form2 h1
    injection e with _ _ e
    omega
  have hnone : A4 = none → q1.length = 0 ∧ c4 = 0 := by
    intro e
    subst e
    rcases h1.2 with ⟨e, h0⟩ | ⟨g, cap, cur, e, _⟩
    · injection e with _ _ e; exact ⟨h0, e⟩
    · cases e
  obtain ⟨i0, hi, hz0, hz1, hz2⟩ := info_parts inf_pt
  have hal : Below w.heap.size w (w.alloc (.cells #[.int .i64 x, .bool b] e2)) := (Below.refl _ w).alloc (Nat.le_refl _) _
  by_cases hfull : c4 < q1.length + 1
  · refine wpList_append_grows _ hgd s z 29 ho 83 i0 (.agg #[.int .i64 0, .bool false]) 2 16 Tryz.underlying29 hi hz0 hz1 hz2 rfl (by omega) A4 q1.length c4 (ths q1) hs hnone h1.1 ?_ ⟨w.heap.size, 0, none⟩ 1 1 (#[Value.int .i64 x, Value.bool b] : Array Value).toList hx rfl hnews (th_one x b) hfull (by unfold maxLen; omega) (by omega) ?_
    · intro ad hA j u hj
      have h1a := h1.alloc (.cells #[.int .i64 x, .bool b] e2)
      rcases h1.2 with ⟨e, h0⟩ | ⟨g, cap, cur, e, _⟩
      · exact absurd (hA.symm.trans (Value.slice.inj e).1) (by simp)
      · have e3 : ad = ⟨g, 0, none⟩ := Option.some.inj (hA.symm.trans (Value.slice.inj e).1)
        rw [hA] at h1a
        subst e3
        exact h1a.cells (g := g) rfl j u hj
    · intro v' w' o' g'
      have hb' : Below w.heap.size w w' := by
        refine ⟨g'.os.trans hal.os, g'.tape.trans hal.tape, g'.output.trans hal.output, Nat.le_trans hal.size g'.size, fun k hk => ?_⟩
        exact (g'.block k (by have := hal.size; omega) (by simp)).trans (hal.block k hk)
      refine h v' w' (by rw [hlen, hth]; exact own_more o' (by simp; omega)) (h3.keep fun p _ hp => hb'.cell (by omega)) (hb'.mono hbase) ⟨hb'.os, hb'.tape, hb'.output, hb'.size, fun k hk _ => hb'.block k hk⟩
  · have hA : ∃ g, A4 = some ⟨g, 0, none⟩ := by
      rcases h1.2 with ⟨e, h0⟩ | ⟨g, cap, cur, e, _⟩
      · injection e with _ _ e; omega
      · injection e with e _ _; exact ⟨g, e⟩
    obtain ⟨g, rfl⟩ := hA
    have hgl := h1.lt g rfl
    refine wpList_append_own_spare _ hgd s z 29 ho base 83 i0 2 Tryz.underlying29 hi hz1 g q1.length c4 (ths q1) hs (h1.alloc _) ⟨w.heap.size, 0, none⟩ 1 1 (#[Value.int .i64 x, Value.bool b] : Array Value).toList hx rfl hnews (th_one x b) (by omega) ?_
    intro w' o' g'
    have hg2 : w.grownBy w' (some g) := ⟨g'.os.trans hal.os, g'.tape.trans hal.tape, g'.output.trans hal.output, Nat.le_trans hal.size g'.size, fun k hk hne => (g'.block k (by have := hal.size; omega) hne).trans (hal.block k hk)⟩
    refine h _ w' (by rw [hlen, hth]; exact o') ?_ ((Below.refl base w).grown hg2 hbase (fun k hk => by injection hk with hk; omega)) hg2
    refine ⟨h3.1, fun h0 => ?_⟩
    obtain ⟨b5, off, e5, l5, u5, c5'⟩ := h3.2 h0
    refine ⟨b5, off, e5, l5, u5, fun j u hj => ?_⟩
    by_cases hbg : b5 = g
    · subst hbg
      have hoff : off = 0 := by
        obtain ⟨g5, c6, e6, _, _⟩ := own_block h2 h0
        exact (Addr.mk.inj (Option.some.inj (e5.symm.trans (Value.slice.inj e6).1))).2.1
      subst hoff
      have hjl : j < (ths q1).length := by
        have h8 := (List.getElem?_eq_some_iff.1 hj).1
        rw [ths_len] at h8 ⊢; omega
      have hc1 := h1.cells (g := b5) rfl j _ (List.getElem?_eq_getElem hjl)
      have e1 : (⟨b5, 0, none⟩ : Addr).add j = ⟨b5, 0 + j, none⟩ := by unfold Addr.add; split <;> simp_all
      rw [e1, c5' j u hj] at hc1
      have hc2 := o'.cells (g := b5) rfl j ((ths q1)[j]) (by rw [List.getElem?_append_left hjl]; exact List.getElem?_eq_getElem hjl)
      rw [e1] at hc2
      rw [hc2]; exact hc1.symm
    · exact (World.cell?_of_block (hg2.block b5 (by omega) (by intro e; injection e with e; exact hbg e))).trans (c5' j u hj)
/-- The drawn notation lies in the box gm; its lists are the call's own. -/
def NbE (w0 : World) (g : Nat) (A : Option Addr) (n c : Nat) (xs : List Int) (K gm : Nat) (x : Note) (s : Six) (w : World) : Prop :=
  Src w g A n c xs K ∧ w0.grownBy w (some g) ∧ Bx w w0.heap.size 33 #[.int .i64 0, .slice none 0 0, .slice none 0 0, .slice none 0 0, .slice none 0 0, .slice none 0 0] ∧
  Bx w gm 33 #[.int .i64 x.1, .slice s.A x.2.1.length s.c, .slice s.A2 x.2.2.1.length s.c2, .slice s.A3 x.2.2.2.1.length s.c3, .slice s.A4 x.2.2.2.2.1.length s.c4, .slice s.A5 x.2.2.2.2.2.length s.c5] ∧ NtSm x ∧
  w.ownsRow (w0.heap.size + 1) 2 1 (.slice s.A x.2.1.length s.c) x.2.1.length (ints x.2.1) ∧ Grid w (w0.heap.size + 1) w.heap.size (.slice s.A2 x.2.2.1.length s.c2) x.2.2.1 ∧
  w.ownsRow (w0.heap.size + 1) 95 4 (.slice s.A3 x.2.2.2.1.length s.c3) x.2.2.2.1.length (bts x.2.2.2.1) ∧
  w.ownsRow (w0.heap.size + 1) 83 2 (.slice s.A4 x.2.2.2.2.1.length s.c4) x.2.2.2.2.1.length (ths x.2.2.2.2.1) ∧
  RdP w (w0.heap.size + 1) gm s.A5 x.2.2.2.2.2.length (ths x.2.2.2.2.2)
/-- Lists that lie from B on. -/
def NbLow (B : Nat) (w : World) (x : Note) (s : Six) : Prop :=
  w.ownsRow B 2 1 (.slice s.A x.2.1.length s.c) x.2.1.length (ints x.2.1) ∧ Grid w B w.heap.size (.slice s.A2 x.2.2.1.length s.c2) x.2.2.1 ∧
  w.ownsRow B 95 4 (.slice s.A3 x.2.2.2.1.length s.c3) x.2.2.2.1.length (bts x.2.2.2.1) ∧
  w.ownsRow B 83 2 (.slice s.A4 x.2.2.2.2.1.length s.c4) x.2.2.2.2.1.length (ths x.2.2.2.2.1) ∧
  RdP w B w.heap.size s.A5 x.2.2.2.2.2.length (ths x.2.2.2.2.2)
theorem NbLow.put {B : Nat} {w : World} {x : Note} {s : Six} (h : NbLow B w x s) {p : Addr} (hp : p.block < B) (u : Value) : NbLow B (w.setCell p u) x s := by
  obtain ⟨h1, h2, h3, h4, h5⟩ := h
  exact ⟨own_put0 h1 hp u, (h2.setk hp u).size, own_put0 h3 hp u, own_put0 h4 hp u, by have := h5.setCell hp u; simpa using this⟩
theorem NbLow.six {B : Nat} {w : World} {x : Note} {s : Six} (h : NbLow B w x s) (b : Nat) (hp : b < B) (v0 v1 v2 v3 v4 v5 : Value) : NbLow B ((((((w.setCell ⟨b, 0, none⟩ v0).setCell ⟨b, 1, none⟩ v1).setCell ⟨b, 2, none⟩ v2).setCell ⟨b, 3, none⟩ v3).setCell ⟨b, 4, none⟩ v4).setCell ⟨b, 5, none⟩ v5) x s :=
  (((((h.put (p := ⟨b, 0, none⟩) hp v0).put (p := ⟨b, 1, none⟩) hp v1).put (p := ⟨b, 2, none⟩) hp v2).put (p := ⟨b, 3, none⟩) hp v3).put (p := ⟨b, 4, none⟩) hp v4).put (p := ⟨b, 5, none⟩) hp v5
theorem NbLow.more {B B' : Nat} {w : World} {x : Note} {s : Six} (h : NbLow B w x s) (hb : B' ≤ B) : NbLow B' w x s := by
  obtain ⟨h1, h2, h3, h4, h5⟩ := h
  exact ⟨own_more h1 hb, h2.more hb, own_more h3 hb, own_more h4 hb, h5.more hb (Nat.le_refl _)⟩
theorem NbLow.rd {B : Nat} {w : World} {x : Note} {s : Six} (h : NbLow B w x s) : NtRd x s w := by
  obtain ⟨h1, h2, h3, h4, h5⟩ := h
  exact ⟨Rd.of_own h1, h2.read, Rd.of_own h3, Rd.of_own h4, h5.rd⟩
section
variable {w0 w w5 : World} {g n c K gm : Nat} {A : Option Addr} {xs : List Int} {x : Note} {s : Six}
theorem NbE.ask (h : NbE w0 g A n c xs K gm x s w) (hgl : g < w0.heap.size) (hgm : w0.heap.size < gm) {K' : Nat} (hs : Src w5 g A n c xs K') (hg : w.grownBy w5 (some g)) : NbE w0 g A n c xs K' gm x s w5 := by
  obtain ⟨h1, h2, h3, h4, h5, h6, h7, h8, h9, h10⟩ := h
  exact ⟨hs, grown_trans h2 hg, h3.grown hg (by intro e; injection e with e; omega), h4.grown hg (by intro e; injection e with e; omega), h5, own_ask h6 h1 hg, (h7.ask h1 hg).up hg.size, own_ask' h8 h1 hg, own_askP h9 h1 hg, h10.grown hg (by omega) (by have := h4.lt; omega)⟩
theorem RdP.renew {C B m : Nat} {A : Option Addr} {us : List Value} {base c : Nat} {e : TypeId} (h : RdP w C B A m us) (o : w5.ownsRow base e 2 (.slice A m c) m us) : RdP w5 C B A m us := by
  refine ⟨h.1, fun h0 => ?_⟩
  obtain ⟨b, off, e1, l1, u1, _⟩ := h.2 h0
  obtain ⟨b2, off2, e2, _, c2⟩ := (Rd.of_own o).2 h0
  rw [e1] at e2
  injection e2 with e2
  injection e2 with e2 e3 _
  subst e2 e3
  exact ⟨b, off, e1, l1, u1, c2⟩
/-- A field of the box is stored. -/
theorem nb_frame {A2 : Option Addr} {m c2 l : Nat} {rows : List (List Int)} {A5 : Option Addr} {us : List Value} {cs : Array Value} (hgl : g < w0.heap.size) (hgm : w0.heap.size < gm) (h1 : Src w g A n c xs K) (h2 : w0.grownBy w (some g)) (h3 : Bx w w0.heap.size 33 #[.int .i64 0, .slice none 0 0, .slice none 0 0, .slice none 0 0, .slice none 0 0, .slice none 0 0]) (h4 : Bx w gm 33 cs)
    (h7 : Grid w (w0.heap.size + 1) w.heap.size (.slice A2 m c2) rows) (h10 : RdP w (w0.heap.size + 1) gm A5 l us) (i : Nat) (u : Value) : Src (w.setCell ⟨gm, i, none⟩ u) g A n c xs K ∧ w0.grownBy (w.setCell ⟨gm, i, none⟩ u) (some g) ∧ Bx (w.setCell ⟨gm, i, none⟩ u) w0.heap.size 33 #[.int .i64 0, .slice none 0 0, .slice none 0 0, .slice none 0 0, .slice none 0 0, .slice none 0 0] ∧
    (∀ {v : Value} {m : Nat} {us : List Value}, w.ownsRow (w0.heap.size + 1) 2 1 v m us → (w.setCell ⟨gm, i, none⟩ u).ownsRow (w0.heap.size + 1) 2 1 v m us) ∧
    Grid (w.setCell ⟨gm, i, none⟩ u) (w0.heap.size + 1) (w.setCell ⟨gm, i, none⟩ u).heap.size (.slice A2 m c2) rows ∧
    (∀ {v : Value} {m : Nat} {us : List Value}, w.ownsRow (w0.heap.size + 1) 95 4 v m us → (w.setCell ⟨gm, i, none⟩ u).ownsRow (w0.heap.size + 1) 95 4 v m us) ∧
    (∀ {v : Value} {m : Nat} {us : List Value}, w.ownsRow (w0.heap.size + 1) 83 2 v m us → (w.setCell ⟨gm, i, none⟩ u).ownsRow (w0.heap.size + 1) 83 2 v m us) ∧
    RdP (w.setCell ⟨gm, i, none⟩ u) (w0.heap.size + 1) gm A5 l us := by
  have hb : Below w0.heap.size w (w.setCell ⟨gm, i, none⟩ u) := Below.setCell (Below.refl _ _) (by show w0.heap.size ≤ gm; omega) _
  have hg := grown_set w gm i u
  refine ⟨h1.below hb hgl, grown_bl h2 hb (Nat.le_refl _), h3.far (by show w0.heap.size ≠ gm; omega) _, fun ho => ho.kept hg (.inr (own_bne ho h4 (by decide))), (h7.setb h4 (by decide) (by decide)).up (by simp), fun ho => ho.kept hg (.inr (own_bne ho h4 (by decide))), fun ho => ho.kept hg (.inr (own_bne ho h4 (by decide))), h10.keep fun p _ hp => ?_⟩
  unfold World.cell?
  rw [Below.heap_setCell w ⟨gm, i, none⟩ u p.block (by show p.block ≠ gm; omega)]
theorem NbE.kind (h : NbE w0 g A n c xs K gm x s w) (hgl : g < w0.heap.size) (hgm : w0.heap.size < gm) (k : Int) : NbE w0 g A n c xs K gm (k, x.2) s (w.setCell ⟨gm, 0, none⟩ (.int .i64 k)) := by
  obtain ⟨h1, h2, h3, h4, h5, h6, h7, h8, h9, h10⟩ := h
  obtain ⟨f1, f2, f3, f6, f7, f8, f9, f10⟩ := nb_frame hgl hgm h1 h2 h3 h4 h7 h10 0 (.int .i64 k)
  exact ⟨f1, f2, f3, h4.set_ 0 _, h5, f6 h6, f7, f8 h8, f9 h9, f10⟩
theorem NbE.nosync (h : NbE w0 g A n c xs K gm x s w) (hgl : g < w0.heap.size) (hgm : w0.heap.size < gm) : NbE w0 g A n c xs K gm (x.1, x.2.1, x.2.2.1, [], x.2.2.2.2) ⟨s.A, s.c, s.A2, s.c2, none, 0, s.A4, s.c4, s.A5, s.c5⟩ (w.setCell ⟨gm, 3, none⟩ (.slice none 0 0)) := by
  obtain ⟨h1, h2, h3, h4, ⟨a1, a2, a3, a4, a5⟩, h6, h7, h8, h9, h10⟩ := h
  obtain ⟨f1, f2, f3, f6, f7, f8, f9, f10⟩ := nb_frame hgl hgm h1 h2 h3 h4 h7 h10 3 (.slice none 0 0)
  exact ⟨f1, f2, f3, h4.set_ 3 _, ⟨a1, a2, by simp, a4, a5⟩, f6 h6, f7, World.ownsRow_nil _ _ _ _, f9 h9, f10⟩
/-- The pattern has grown. -/
theorem NbE.addp (h : NbE w0 g A n c xs K gm x s w) (hgl : g < w0.heap.size) (hgm : w0.heap.size < gm) (hl : x.2.1.length ≤ 1000) (hq : w.ownsRow (w0.heap.size + 1) 83 2 (.slice s.A5 x.2.2.2.2.2.length s.c5) x.2.2.2.2.2.length (ths x.2.2.2.2.2)) {v5 : Value} (ho : w5.ownsRow (w0.heap.size + 1) 2 1 v5 (x.2.1 ++ [3]).length (ints (x.2.1 ++ [3]))) (hb : Below (w0.heap.size + 1) w w5) (hg : w.grownBy w5 (Value.slice s.A x.2.1.length s.c).ownBlock) (hmm : x.2.2.1 = [] ∧ s.A2 = none ∧ s.c2 = 0 ∨ x.2.1 = [] ∧ s.A = none ∧ s.c = 0) :
    ∃ A5 c5, v5 = .slice A5 (x.2.1 ++ [3]).length c5 ∧ Bx w5 gm 33 #[.int .i64 x.1, .slice s.A x.2.1.length s.c, .slice s.A2 x.2.2.1.length s.c2, .slice s.A3 x.2.2.2.1.length s.c3, .slice s.A4 x.2.2.2.2.1.length s.c4, .slice s.A5 x.2.2.2.2.2.length s.c5] ∧
      NbE w0 g A n c xs K gm (x.1, x.2.1 ++ [3], x.2.2) ⟨A5, c5, s.A2, s.c2, s.A3, s.c3, s.A4, s.c4, s.A5, s.c5⟩ (w5.setCell ⟨gm, 1, none⟩ (.slice A5 (x.2.1 ++ [3]).length c5)) := by
  obtain ⟨h1, h2, h3, h4, ⟨a1, a2, a3, a4, a5⟩, h6, h7, h8, h9, h10⟩ := h
  obtain ⟨A5, c5, rfl⟩ := own_form ho
  have x3 := h3.grown hg (fun e => own_bne h6 h3 (by decide) e.symm)
  have x4 := h4.grown hg (fun e => own_bne h6 h4 (by decide) e.symm)
  have hb0 : Below w0.heap.size w w5 := hb.mono (Nat.le_succ _)
  have g7 : Grid w5 (w0.heap.size + 1) w5.heap.size (.slice s.A2 x.2.2.1.length s.c2) x.2.2.1 := by
    rcases hmm with ⟨e1, e2, e3⟩ | ⟨e1, e2, e3⟩
    · rw [e1, e2, e3]; exact Grid.nil _ _ _
    · rw [e2] at hg
      exact (h7.below ⟨hg.os, hg.tape, hg.output, hg.size, fun k hk => hg.block k hk (by simp [Value.ownBlock])⟩).up hg.size
  obtain ⟨f1, f2, f3, f6, f7, f8, f9, f10⟩ := nb_frame hgl hgm (h1.below hb0 hgl) (grown_bl h2 hb0 (Nat.le_refl _)) x3 x4 g7 (h10.renew (own_types hq h6 (by decide) hg)) 1 (.slice A5 (x.2.1 ++ [3]).length c5)
  exact ⟨A5, c5, rfl, x4, f1, f2, f3, x4.set_ 1 _, ⟨by show (x.2.1 ++ [3]).length ≤ _; rw [List.length_append, List.length_singleton]; omega, a2, a3, a4, a5⟩, f6 ho, f7, f8 (own_types h8 h6 (by decide) hg), f9 (own_types h9 h6 (by decide) hg), f10⟩
/-- The passing pattern's first row has grown. -/
theorem NbE.addq (h : NbE w0 g A n c xs K gm x s w) (hgl : g < w0.heap.size) (hgm : w0.heap.size < gm) (hl : x.2.2.2.2.1.length ≤ 1000) {v5 : Value} (ho : w5.ownsRow (w0.heap.size + 1) 83 2 v5 (x.2.2.2.2.1 ++ [(3, false)]).length (ths (x.2.2.2.2.1 ++ [(3, false)]))) (hp : RdP w5 (w0.heap.size + 1) gm s.A5 x.2.2.2.2.2.length (ths x.2.2.2.2.2)) (hb : Below (w0.heap.size + 1) w w5) (hg : w.grownBy w5 (Value.slice s.A4 x.2.2.2.2.1.length s.c4).ownBlock) :
    ∃ A5 c5, v5 = .slice A5 (x.2.2.2.2.1 ++ [(3, false)]).length c5 ∧ Bx w5 gm 33 #[.int .i64 x.1, .slice s.A x.2.1.length s.c, .slice s.A2 x.2.2.1.length s.c2, .slice s.A3 x.2.2.2.1.length s.c3, .slice s.A4 x.2.2.2.2.1.length s.c4, .slice s.A5 x.2.2.2.2.2.length s.c5] ∧
      NbE w0 g A n c xs K gm (x.1, x.2.1, x.2.2.1, x.2.2.2.1, (x.2.2.2.2.1 ++ [(3, false)], x.2.2.2.2.2)) ⟨s.A, s.c, s.A2, s.c2, s.A3, s.c3, A5, c5, s.A5, s.c5⟩ (w5.setCell ⟨gm, 4, none⟩ (.slice A5 (x.2.2.2.2.1 ++ [(3, false)]).length c5)) := by
  obtain ⟨h1, h2, h3, h4, ⟨a1, a2, a3, a4, a5⟩, h6, h7, h8, h9, h10⟩ := h
  obtain ⟨A5, c5, rfl⟩ := own_form ho
  have x3 := h3.grown hg (fun e => own_bne h9 h3 (by decide) e.symm)
  have x4 := h4.grown hg (fun e => own_bne h9 h4 (by decide) e.symm)
  have hb0 : Below w0.heap.size w w5 := hb.mono (Nat.le_succ _)
  obtain ⟨f1, f2, f3, f6, f7, f8, f9, f10⟩ := nb_frame hgl hgm (h1.below hb0 hgl) (grown_bl h2 hb0 (Nat.le_refl _)) x3 x4 ((h7.types h9 (by decide) (by decide) hg).up hg.size) hp 4 (.slice A5 (x.2.2.2.2.1 ++ [(3, false)]).length c5)
  exact ⟨A5, c5, rfl, x4, f1, f2, f3, x4.set_ 4 _, ⟨a1, a2, a3, by show (x.2.2.2.2.1 ++ [(3, false)]).length ≤ _; rw [List.length_append, List.length_singleton]; omega, a5⟩, f6 (own_types h6 h9 (by decide) hg), f7, f8 (own_types h8 h9 (by decide) hg), f9 ho, f10⟩
/-- The end: the notation is stored into the result's box. -/
theorem NbE.fin (h : NbE w0 g A n c xs K gm x s w) (hgl : g < w0.heap.size) {K' : Nat} (hK : K ≤ K') (v0 v1 v2 v3 v4 v5 : Value) :
    NbLow w0.heap.size ((((((w.setCell ⟨w0.heap.size, 0, none⟩ v0).setCell ⟨w0.heap.size, 1, none⟩ v1).setCell ⟨w0.heap.size, 2, none⟩ v2).setCell ⟨w0.heap.size, 3, none⟩ v3).setCell ⟨w0.heap.size, 4, none⟩ v4).setCell ⟨w0.heap.size, 5, none⟩ v5) x s ∧
    Src ((((((w.setCell ⟨w0.heap.size, 0, none⟩ v0).setCell ⟨w0.heap.size, 1, none⟩ v1).setCell ⟨w0.heap.size, 2, none⟩ v2).setCell ⟨w0.heap.size, 3, none⟩ v3).setCell ⟨w0.heap.size, 4, none⟩ v4).setCell ⟨w0.heap.size, 5, none⟩ v5) g A n c xs K' ∧
    w0.grownBy ((((((w.setCell ⟨w0.heap.size, 0, none⟩ v0).setCell ⟨w0.heap.size, 1, none⟩ v1).setCell ⟨w0.heap.size, 2, none⟩ v2).setCell ⟨w0.heap.size, 3, none⟩ v3).setCell ⟨w0.heap.size, 4, none⟩ v4).setCell ⟨w0.heap.size, 5, none⟩ v5) (some g) := by
  obtain ⟨h1, h2, h3, h4, h5, h6, h7, h8, h9, h10⟩ := h
  have hgz := h4.lt
  have hB : Below w0.heap.size w ((((((w.setCell ⟨w0.heap.size, 0, none⟩ v0).setCell ⟨w0.heap.size, 1, none⟩ v1).setCell ⟨w0.heap.size, 2, none⟩ v2).setCell ⟨w0.heap.size, 3, none⟩ v3).setCell ⟨w0.heap.size, 4, none⟩ v4).setCell ⟨w0.heap.size, 5, none⟩ v5) :=
    ((((((Below.refl _ _).setCell (p := ⟨w0.heap.size, 0, none⟩) (Nat.le_refl _) v0).setCell (p := ⟨w0.heap.size, 1, none⟩) (Nat.le_refl _) v1).setCell (p := ⟨w0.heap.size, 2, none⟩) (Nat.le_refl _) v2).setCell (p := ⟨w0.heap.size, 3, none⟩) (Nat.le_refl _) v3).setCell (p := ⟨w0.heap.size, 4, none⟩) (Nat.le_refl _) v4).setCell (p := ⟨w0.heap.size, 5, none⟩) (Nat.le_refl _) v5
  have hL : NbLow (w0.heap.size + 1) w x s := ⟨h6, h7, h8, h9, h10.more (Nat.le_refl _) (by omega)⟩
  exact ⟨(hL.six w0.heap.size (Nat.lt_succ_self _) v0 v1 v2 v3 v4 v5).more (Nat.le_succ _), (h1.below hB hgl).more hK, grown_bl h2 hB (Nat.le_refl _)⟩
end
/-- A notation drawn, its lists read. -/
def NbRes (B : Nat) (w : World) (e : Ending) : Prop := ∃ (x : Note) (s : Six), e = .returned (ntV x s) ∧ NtSm x ∧ NbLow B w x s
set_option maxRecDepth 100000 in
set_option maxHeartbeats 4000000 in
theorem l07Bent_src (g : Nat) (A : Option Addr) (n c K : Nat) (xs : List Int) (w : World) (hK : K ≤ 200) (h : Src w g A n c xs K) :
    Calls Tryz.prog 23 #[.pointer (some ⟨g, 0, none⟩)] w fun e w' => NbRes w.heap.size w' e ∧ Src w' g A n c xs (K + 710) ∧ w.grownBy w' (some g) := by
  have hgl := h.lt
  have hX := Bx.new w 33 (zN 0)
  have hB0 : Below w.heap.size w (w.alloc (Obj.cells (zN 0) 33)) := (by repeat' (first | exact Below.refl _ _ | (with_reducible first | assumption | exact Nat.le_refl _ | refine Below.alloc ?_ ?_ _ | refine Below.setCell ?_ ?_ _ | refine Below.drew ?_ | refine below_drewN ?_ _) | refine Below.trans ?_ (Below.mono (by assumption) ?_) | exact Below.size (by assumption) | omega | go_size | (simp at *; omega)))
  have hs0 := h.below hB0 hgl
  have hg0 : w.grownBy (w.alloc (Obj.cells (zN 0) 33)) (some g) := grown_bl (World.grownBy.refl w (some g)) hB0 (Nat.le_refl _)
  have hz0 : (w.alloc (Obj.cells (zN 0) 33)).heap.size = w.heap.size + 1 := by simp
  unfold zN at hX hs0 hg0 hz0
  have hP := hid (l07Draw_src g A n c K xs _ hK hs0)
  have HZ0 := hid hz0
  clear h hs0 hB0 hz0
  go_enter Tryz.func23, Tryz.ntmps23
  go_wp2_with fail
  refine hP.out.mono ?_
  rintro e w1 ⟨⟨⟨k, p1, m1, y1, q1, q2⟩, s, rfl, hsm, htx, hle, hdr⟩, hs1, hg1⟩
  rw [HZ0.out] at hdr
  simp only [ntV]
  have X1 := hid (hX.grown hg1 (by intro e; injection e with e; omega))
  have hgg1 := grown_trans hg0 hg1
  have hz1 := hgg1.size
  have hx1 := X1.out.lt
  have G1 := hid hgg1
  have S1 := hid hs1
  have D1 := hid hdr
  have M1 := hid hsm
  have L1 := hid hle
  clear hX hg0 hP hgg1 hs1 hg1 hdr hsm hle htx HZ0
  obtain ⟨W, hW⟩ : ∃ W, w1.alloc (Obj.cells #[.int .i64 k, .slice s.A p1.length s.c, .slice s.A2 m1.length s.c2, .slice s.A3 y1.length s.c3, .slice s.A4 q1.length s.c4, .slice s.A5 q2.length s.c5] 33) = W := ⟨_, rfl⟩
  have hbW : Below w1.heap.size w1 W := by rw [← hW]; exact (by repeat' (first | exact Below.refl _ _ | (with_reducible first | assumption | exact Nat.le_refl _ | refine Below.alloc ?_ ?_ _ | refine Below.setCell ?_ ?_ _ | refine Below.drew ?_ | refine below_drewN ?_ _) | refine Below.trans ?_ (Below.mono (by assumption) ?_) | exact Below.size (by assumption) | omega | go_size | (simp at *; omega)))
  have D2 := hid (D1.out.below hbW)
  have HB : Hid (NbE w g A n c xs (K + 700) w1.heap.size (k, p1, m1, y1, (q1, q2)) s W) := by
    obtain ⟨d1, d2, d3, d4, d5, d6⟩ := D2.out
    exact ⟨S1.out.below hbW (by omega), grown_bl G1.out hbW (by omega), X1.out.below hbW X1.out.lt, by rw [← hW]; exact Bx.new _ _ _, M1.out, d1, d2, d3, d4, (RdP.of_own D1.out.2.2.2.2.1).keep fun p _ hp => hbW.cell hp⟩
  rw [← hW] at HB D2
  clear hW hbW D1 S1 G1 X1 M1
  go_wp2_with fail
  refine (pick_src g A n c (K + 700) xs 20 _ (by omega) (by omega) HB.out.1).mono ?_
  rintro e w4 ⟨⟨x, x0, x1, rfl⟩, hs4, hg4⟩
  have HQ := hid (own_askP D2.out.2.2.2.2.1 HB.out.1 hg4)
  have HM := hid D2.out.2.2.2.2.2
  have HB := hid (HB.out.ask hgl hx1 hs4 hg4)
  clear hs4 hg4 D2
  have hz4 := HB.out.2.2.2.1.lt
  obtain ⟨⟨a0, a1, a2, a3, a4, a5⟩, ⟨b0, b1, b2, b3, b4, b5⟩⟩ := zc HB.out.2.2.2.1
  simp only at a0 a1 a2 a3 a4 a5
  go_upto_block 0 with fail
  go_cut [] (fun wx => Hid (∃ (x : Note) (s : Six) (K5 : Nat), K5 ≤ K + 710 ∧ NbE w g A n c xs K5 w1.heap.size x s wx))
  case first =>
    have hl1 : p1.length ≤ 1000 := L1.out.2.1
    have hl2 : q1.length ≤ 1000 := L1.out.2.2
    have O1 : Hid (w4.ownsRow (w.heap.size + 1) 2 1 (.slice s.A p1.length s.c) p1.length (ints p1)) := HB.out.2.2.2.2.2.1
    have O4 : Hid (w4.ownsRow (w.heap.size + 1) 83 2 (.slice s.A4 q1.length s.c4) q1.length (ths q1)) := HB.out.2.2.2.2.2.2.2.2.1
    have O5 : Hid (w4.ownsRow (w.heap.size + 1) 83 2 (.slice s.A5 q2.length s.c5) q2.length (ths q2)) := HQ.out
    have R5 : Hid (RdP w4 (w.heap.size + 1) w1.heap.size s.A5 q2.length (ths q2)) := HB.out.2.2.2.2.2.2.2.2.2
    have hql : q2.length ≤ q1.length := L1.out.1
    by_cases c0 : x = 0
    · subst c0
      go_wp2_with fail
      refine (pick_src g A n c (K + 702) xs 7 w4 (by omega) (by omega) HB.out.1).mono ?_
      rintro e w5 ⟨⟨z, z0, z1, rfl⟩, hs5, hg5⟩
      have HB5 := hid (HB.out.ask hgl hx1 hs5 hg5)
      clear HB hs5 hg5 a0 a1 a2 a3 a4 a5 b0 b1 b2 b3 b4 b5 HQ
      obtain ⟨⟨a0, a1, a2, a3, a4, a5⟩, ⟨b0, b1, b2, b3, b4, b5⟩⟩ := zc HB5.out.2.2.2.1
      have HB6 := hid (HB5.out.kind hgl hx1 (z - 1))
      clear HB5
      go_wp2_with fail
      go_meet
      exact hid ⟨_, _, _, by omega, HB6.out⟩
    · by_cases c1 : x = 1
      · subst c1
        go_wp2_with (at_builtin; refine push_int O1.out 3 _ Tryz.underlying24 inf_int rfl rfl _ _ rfl rfl rfl (by omega) (by omega) ?_; intro v5 w5 ho5 hb5 hg5; obtain ⟨A6, c6, rfl, X6, P6⟩ := HB.out.addp hgl hx1 L1.out.2.1 HQ.out ho5 hb5 hg5 HM.out; obtain ⟨⟨d0, d1, d2, d3, d4, d5⟩, ⟨e0, e1, e2, e3, e4, e5⟩⟩ := zc X6; simp only at d0 d1 d2 d3 d4 d5; have P6 := hid P6; clear ho5 hb5 hg5 X6)
        go_meet
        exact hid ⟨_, _, K + 702, by omega, by have h := P6.out; rw [List.length_append, List.length_singleton] at h; exact h⟩
      · by_cases c2 : x = 2
        · subst c2
          have HB6 := hid (HB.out.nosync hgl hx1)
          go_wp2_with fail
          go_meet
          exact hid ⟨_, _, _, by omega, HB6.out⟩
        · by_cases c3 : x = 3
          · subst c3
            go_wp2_with (at_builtin; refine push_pt O4.out O5.out R5.out (by omega) hql 3 false _ rfl _ _ rfl rfl rfl (by omega) (by omega) ?_; intro v5 w5 ho5 hp5 hb5 hg5; obtain ⟨A6, c6, rfl, X6, P6⟩ := HB.out.addq hgl hx1 L1.out.2.2 ho5 hp5 hb5 hg5; obtain ⟨⟨d0, d1, d2, d3, d4, d5⟩, ⟨e0, e1, e2, e3, e4, e5⟩⟩ := zc X6; simp only at d0 d1 d2 d3 d4 d5; have P6 := hid P6; clear ho5 hp5 hb5 hg5 X6)
            go_meet
            exact hid ⟨_, _, K + 702, by omega, by have h := P6.out; rw [List.length_append, List.length_singleton] at h; exact h⟩
          · have k0 : (x == 0) = false := by simpa using c0
            have k1 : (x == 1) = false := by simpa using c1
            have k2 : (x == 2) = false := by simpa using c2
            have k3 : (x == 3) = false := by simpa using c3
            go_wp2_with fail
            go_meet
            exact hid ⟨_, _, _, by omega, HB.out⟩
  case rest =>
    clear HB HQ HM L1 a0 a1 a2 a3 a4 a5 b0 b1 b2 b3 b4 b5
    obtain ⟨⟨k, p1, m1, y1, q1, q2⟩, s, K5, hK5, HE⟩ := hcut.out
    clear hcut
    obtain ⟨⟨a0, a1, a2, a3, a4, a5⟩, ⟨b0, b1, b2, b3, b4, b5⟩⟩ := zc HE.2.2.2.1
    obtain ⟨⟨d0, d1, d2, d3, d4, d5⟩, ⟨e0, e1, e2, e3, e4, e5⟩⟩ := zc HE.2.2.1
    simp only at a0 a1 a2 a3 a4 a5
    have M := hid HE.2.2.2.2.1
    have HF := hid (fun v0 v1 v2 v3 v4 v5 => HE.fin hgl hK5 v0 v1 v2 v3 v4 v5)
    clear HE
    go_wp2
    refine bodyPost_ret (v := .agg #[.int .i64 k, .slice s.A p1.length s.c, .slice s.A2 m1.length s.c2, .slice s.A3 y1.length s.c3, .slice s.A4 q1.length s.c4, .slice s.A5 q2.length s.c5]) ?_ rfl ?_
    · simp (maxDischargeDepth := 8) [results, Tryz.results23, go_sem, *]
    obtain ⟨f1, f2, f3⟩ := HF.out _ _ _ _ _ _
    exact ⟨⟨_, s, rfl, M.out, f1⟩, f2, f3⟩
end Go.Proofs.YtgphkfnobmponaaGreat
