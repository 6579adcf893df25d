/- ReadNotation: the law's walk. -/
import Derived.Test.YtkglkpohbckpcaaGreatNo
namespace Go.Proofs.YtkglkpohbckpcaaGreat
open Go.RowKit
set_option linter.unusedVariables false

/-- The lists of a notation are the call's own, their blocks below M. -/
def NtOwn (B M : Nat) (x : Note) (s : Six) (w : World) : Prop :=
  (w.ownsRow B 2 1 (.slice s.A x.2.1.length s.c) x.2.1.length (ints x.2.1) ∧ ∀ g, (Value.slice s.A x.2.1.length s.c).ownBlock = some g → g < M) ∧
  Grid w B M (.slice s.A2 x.2.2.1.length s.c2) x.2.2.1 ∧
  (w.ownsRow B 100 4 (.slice s.A3 x.2.2.2.1.length s.c3) x.2.2.2.1.length (bts x.2.2.2.1) ∧ ∀ g, (Value.slice s.A3 x.2.2.2.1.length s.c3).ownBlock = some g → g < M) ∧
  (w.ownsRow B 105 2 (.slice s.A4 x.2.2.2.2.1.length s.c4) x.2.2.2.2.1.length (ths x.2.2.2.2.1) ∧ ∀ g, (Value.slice s.A4 x.2.2.2.2.1.length s.c4).ownBlock = some g → g < M) ∧
  (w.ownsRow B 105 2 (.slice s.A5 x.2.2.2.2.2.length s.c5) x.2.2.2.2.2.length (ths x.2.2.2.2.2) ∧ ∀ g, (Value.slice s.A5 x.2.2.2.2.2.length s.c5).ownBlock = some g → g < M)
theorem NtOwn.rd {B M : Nat} {x : Note} {s : Six} {w : World} (h : NtOwn B M x s w) : NtRd x s w := by
  obtain ⟨h1, h2, h3, h4, h5⟩ := h
  exact ⟨Rd.of_own h1.1, h2.read, Rd.of_own h3.1, Rd.of_own h4.1, Rd.of_own h5.1⟩
theorem NtOwn.below {B M : Nat} {x : Note} {s : Six} {w w' : World} (h : NtOwn B M x s w) (hb : Below w.heap.size w w') : NtOwn B M x s w' := by
  obtain ⟨h1, h2, h3, h4, h5⟩ := h
  exact ⟨⟨own_below h1.1 hb, h1.2⟩, h2.below hb, ⟨own_below h3.1 hb, h3.2⟩, ⟨own_below h4.1 hb, h4.2⟩, ⟨own_below h5.1 hb, h5.2⟩⟩
theorem NtOwn.setq {B M : Nat} {x : Note} {s : Six} {w : World} (h : NtOwn B M x s w) {p : Addr} (hp : p.block < B) (u : Value) : NtOwn B M x s (w.setCell p u) := by
  obtain ⟨h1, h2, h3, h4, h5⟩ := h
  exact ⟨⟨own_set h1.1 hp u, h1.2⟩, h2.setq hp u, ⟨own_set h3.1 hp u, h3.2⟩, ⟨own_set h4.1 hp u, h4.2⟩, ⟨own_set h5.1 hp u, h5.2⟩⟩
theorem NtOwn.more {B B' M : Nat} {x : Note} {s : Six} {w : World} (h : NtOwn B M x s w) (hB : B' ≤ B) : NtOwn B' M x s w := by
  obtain ⟨h1, h2, h3, h4, h5⟩ := h
  exact ⟨⟨own_more h1.1 hB, h1.2⟩, h2.more hB, ⟨own_more h3.1 hB, h3.2⟩, ⟨own_more h4.1 hB, h4.2⟩, ⟨own_more h5.1 hB, h5.2⟩⟩
/-- The cells of a notation. -/
def Six.cells (s : Six) (x : Note) : Array Value := #[.int .i64 x.1, .slice s.A x.2.1.length s.c, .slice s.A2 x.2.2.1.length s.c2, .slice s.A3 x.2.2.2.1.length s.c3, .slice s.A4 x.2.2.2.2.1.length s.c4, .slice s.A5 x.2.2.2.2.2.length s.c5]
theorem NtRes.six {B : Nat} {r : Note × Bool} {e : Ending} {w : World} (h : NtRes B r e w) : ∃ s : Six, e = .returned (.tuple #[.agg (s.cells r.1), .bool r.2]) ∧ NtOwn B w.heap.size r.1 s w ∧ NtOne r.1 s := by
  obtain ⟨A, c, A2, c2, A3, c3, A4, c4, A5, c5, he, h1, h2, h3, h4, h5, h6⟩ := h
  exact ⟨⟨A, c, A2, c2, A3, c3, A4, c4, A5, c5⟩, he, ⟨⟨h1, fun g h => (h1.lt g h).2⟩, h2, ⟨h3, fun g h => (h3.lt g h).2⟩, ⟨h4, fun g h => (h4.lt g h).2⟩, ⟨h5, fun g h => (h5.lt g h).2⟩⟩, h6⟩
theorem tot_le4 : ∀ (rows : List (List Int)), (∀ r ∈ rows, r.length ≤ 4) → tot rows ≤ 4 * rows.length := by
  intro rows
  induction rows with
  | nil => intro _; simp [tot]
  | cons r rs ih =>
    intro h
    have h1 := h r (by simp)
    have h2 := ih (fun x hx => h x (by simp [hx]))
    rw [tot, List.length_cons]; omega
theorem sm_no : NtSm noNote := ⟨by simp [noNote], ⟨by simp [noNote], fun r h => by simp [noNote] at h, by simp [noNote, tot]⟩, by simp [noNote], by simp [noNote], by simp [noNote]⟩
theorem rsync_len (l : List UInt8) : (rReadSync l).1.length ≤ 6 := by
  unfold rReadSync
  split
  · split
    · rename_i p _
      unfold rStarSync
      split
      · split
        · simp
        · split
          · simp [mirP_len]; omega
          · simp
      · simp
    · simp
  · split
    · rename_i p _
      split
      · rename_i h; exact (syOk_bd h).2
      · simp
    · simp
theorem rmulti_len (l : List UInt8) : (rReadMulti l).1.length ≤ 12 ∧ ∀ r ∈ (rReadMulti l).1, r.length ≤ 4 := by
  unfold rReadMulti
  cases rdM l with
  | none => exact ⟨by simp [mElse], fun r h => by simp [mElse] at h⟩
  | some q =>
    unfold mElse
    simp only
    split
    · rename_i h
      have h2 := msSh_iff.1 (mOk_iff.1 h).1
      exact ⟨h2.1.2, fun r hr => (mstOk_iff.1 (h2.2 r hr)).1.2⟩
    · exact ⟨by simp, fun r h => by simp at h⟩
theorem rpass_len (l : List UInt8) : (rReadPassing l).1.1.length ≤ 8 ∧ (rReadPassing l).1.2.length ≤ 8 := by
  unfold rReadPassing
  cases rdPa l with
  | none => simp [psElse]
  | some p =>
    unfold psElse
    simp only
    split
    · rename_i h
      have h2 := psSh_iff.1 (psOk_iff.1 h).1
      show p.1.length ≤ 8 ∧ p.2.length ≤ 8
      exact ⟨h2.1.2, by have := h2.2.1; have := h2.1.2; omega⟩
    · simp
theorem rpl_len (l : List UInt8) : (rPl l).length ≤ 12 := by
  unfold rPl
  split
  · rename_i h; exact (thOk_iff (okP_th h)).2.2
  · simp
theorem sm_part (l : List UInt8) : NtSm (partN l) := by
  have h1 := rpl_len l
  have h2 := rmulti_len l
  have h3 := rsync_len l
  have h4 := rpass_len l
  have h5 := tot_le4 _ h2.2
  unfold partN
  split
  · exact ⟨by simp only; omega, ⟨by simp, (fun r h => by simp at h), by simp [tot]⟩, by simp, by simp, by simp⟩
  · split
    · exact ⟨by simp, ⟨by simp only; omega, (fun r h => by have := h2.2 r h; omega), by simp only; omega⟩, by simp, by simp, by simp⟩
    · split
      · exact ⟨by simp, ⟨by simp, (fun r h => by simp at h), by simp [tot]⟩, by simp only; omega, by simp, by simp⟩
      · exact ⟨by simp, ⟨by simp, (fun r h => by simp at h), by simp [tot]⟩, by simp, by simp only; omega, by simp only; omega⟩
theorem sm_read (l : List UInt8) : NtSm (rReadNotation l).1 := by
  unfold rReadNotation
  split
  · exact sm_no
  · split
    · exact sm_part l
    · exact sm_no
theorem markNotation_any (B M : Nat) (k : Int) (p : List Int) (m : List (List Int)) (y : List Beat) (q1 q2 : List PT) (s : Six) (w : World) (hs : NtSm (k, p, m, y, (q1, q2))) (hB : B ≤ w.heap.size) (hM : M ≤ w.heap.size) (h : NtOwn B M (k, p, m, y, (q1, q2)) s w) (one : NtOne (k, p, m, y, (q1, q2)) s) :
    Calls Tryz.prog 8 #[.agg (s.cells (k, p, m, y, (q1, q2))), .int .i64 1] w fun e w' => e = .returned (.int .i64 ((ntK (k, p, m, y, (q1, q2)) : Nat) : Int)) ∧ NtMk (k, p, m, y, (q1, q2)) s w' ∧ Below B w w' ∧ (∀ q, M ≤ q → q < w.heap.size → w'.heap[q]? = w.heap[q]?) := by
  obtain ⟨A, c, A2, c2, A3, c3, A4, c4, A5, c5⟩ := s
  obtain ⟨l1, ⟨l2, l3, l7⟩, l4, l5, l6⟩ := hs
  obtain ⟨h1, h2, h3, h4, h5⟩ := h
  rcases one with ⟨e, r1, r2, r3, r4, r5, r6, r7, r8⟩ | ⟨e, e2, r1, r2, r3, r4, r5, r6, r7, r8⟩ | ⟨e, e2, e3, r1, r2, r3, r4, r5, r6, r7, r8⟩ | ⟨e, e2, e3, r1, r2, r3, r4, r5, r6, hr⟩
  · simp only [Prod.mk.injEq] at e r1 r2 r3 r4 r5 r6 r7 r8
    obtain ⟨rfl, rfl, rfl, rfl⟩ := e
    subst r1 r2 r3 r4 r5 r6 r7 r8
    exact markNotation_1 B M k p A c w l1 hB hM h1.1 h1.2
  · simp only [Prod.mk.injEq] at e e2 r1 r2 r3 r4 r5 r6 r7 r8
    obtain ⟨rfl, rfl, rfl⟩ := e2
    subst e r1 r2 r3 r4 r5 r6 r7 r8
    exact markNotation_2 B M k m A2 c2 w l2 l7 hB hM h2
  · simp only [Prod.mk.injEq] at e e2 e3 r1 r2 r3 r4 r5 r6 r7 r8
    obtain ⟨rfl, rfl⟩ := e3
    subst e e2 r1 r2 r3 r4 r5 r6 r7 r8
    exact markNotation_3 B M k y A3 c3 w l4 hB hM h3.1 h3.2
  · simp only at e e2 e3 r1 r2 r3 r4 r5 r6 hr
    subst e e2 e3 r1 r2 r3 r4 r5 r6
    exact markNotation_4 B M k q1 q2 A4 c4 A5 c5 w l5 l6 hB hM h4.1 h5.1 hr h4.2 h5.2
set_option maxRecDepth 100000 in
set_option maxHeartbeats 2000000 in
theorem specReadNotation_any (s : ByteArray) (w : World) (hs : s.size ≤ 1099511627775) :
    Calls Tryz.prog 5 #[.string s] w fun e w' => (∃ t : Six, e = .returned (.tuple #[.agg (t.cells (rReadNotation (tl s)).1), .bool (rReadNotation (tl s)).2]) ∧ NtRd (rReadNotation (tl s)).1 t w') ∧ Below w.heap.size w w' := by
  have hC := l07Read_any s (w.alloc (Obj.cells (zN 0) 31)) hs
  have hX := Bx.new w 31 (zN 0)
  have hz : (w.alloc (Obj.cells (zN 0) 31)).heap.size = w.heap.size + 1 := by simp
  obtain ⟨ok, hok⟩ : ∃ ok, (noteR (tl s) && decide (s.size ≤ 200)) = ok := ⟨_, rfl⟩
  rw [hok, hz] at hC
  have hR : rReadNotation (tl s) = if ok then (partN (tl s), true) else (noNote, false) := by
    rw [← hok, rReadNotation, tl_len]
    by_cases h : 200 < s.size
    · rw [if_pos h, decide_eq_false (by omega), Bool.and_false]; rfl
    · rw [if_neg h, decide_eq_true (by omega), Bool.and_true]
  rw [hR]
  clear hok hR
  generalize partN (tl s) = x at *
  obtain ⟨k, p, m, y, q1, q2⟩ := x
  unfold zN at hC hX hz
  have hC := hid hC
  go_enter Tryz.func5, Tryz.ntmps5
  go_wp2_with fail
  refine hC.out.mono ?_
  rintro e w1 ⟨hr, hb1⟩
  obtain ⟨⟨A, c, A2, c2, A3, c3, A4, c4, A5, c5⟩, rfl, ho, -⟩ := hr.six
  unfold Six.cells
  simp only
  have hX1 := hX.below hb1 (by omega)
  have z1 := hb1.size
  rw [hz] at z1
  have hB1 : Below w.heap.size w w1 := (Below.alloc (Below.refl _ _) (Nat.le_refl _) _).trans (hb1.mono (by omega))
  have HX := hid (fun (W : World) (b : Below w1.heap.size w1 W) => zc (hX1.below b (by omega)))
  have HO := hid ho
  clear hC hX hX1 hb1 hr hz ho
  have sz : w.heap.size < w1.heap.size := by omega
  cases ok
  · go_wp2_with (refine wl_name (w1 := w1) (O := (Obj.cells #[.int .i64 k, .slice A p.length c, .slice A2 m.length c2, .slice A3 y.length c3, .slice A4 q1.length c4, .slice A5 q2.length c5] 31)) ?_; intro W hW; have hbW : Below w1.heap.size w1 W := (by rw [← hW]; exact Below.alloc (Below.refl _ _) (Nat.le_refl _) _); obtain ⟨⟨a0, a1, a2, a3, a4, a5⟩, ⟨b0, b1, b2, b3, b4, b5⟩⟩ := HX.out W hbW; have hBW : Below w.heap.size w W := hB1.trans (hbW.mono (by omega)); clear hbW hW)
    refine bodyPost_ret (v := .tuple #[.agg #[.int .i64 0, .slice none 0 0, .slice none 0 0, .slice none 0 0, .slice none 0 0, .slice none 0 0], .bool false]) ?_ rfl ?_
    · simp (maxDischargeDepth := 8) [results, Tryz.results5, go_sem, *]
    have hT : ∀ {w' : World}, NtRd noNote ⟨none, 0, none, 0, none, 0, none, 0, none, 0⟩ w' := fun {w'} => ⟨⟨rfl, fun h => absurd h (by simp [noNote])⟩, ⟨rfl, fun h => absurd h (by simp [noNote])⟩, ⟨rfl, fun h => absurd h (by simp [noNote])⟩, ⟨rfl, fun h => absurd h (by simp [noNote])⟩, ⟨rfl, fun h => absurd h (by simp [noNote])⟩⟩
    exact ⟨⟨⟨none, 0, none, 0, none, 0, none, 0, none, 0⟩, rfl, hT⟩, by repeat' (first | (with_reducible exact hBW) | (with_reducible refine Below.setCell ?_ ?_ _) | exact Nat.le_refl _)⟩
  · go_wp2_with (refine wl_name (w1 := w1) (O := (Obj.cells #[.int .i64 k, .slice A p.length c, .slice A2 m.length c2, .slice A3 y.length c3, .slice A4 q1.length c4, .slice A5 q2.length c5] 31)) ?_; intro W hW; have hbW : Below w1.heap.size w1 W := (by rw [← hW]; exact Below.alloc (Below.refl _ _) (Nat.le_refl _) _); obtain ⟨⟨c0, c1, c2', c3', c4', c5'⟩, -⟩ := zc (show Bx W w1.heap.size 31 _ from (by rw [← hW]; exact Bx.new _ _ _)); obtain ⟨⟨a0, a1, a2, a3, a4, a5⟩, ⟨b0, b1, b2, b3, b4, b5⟩⟩ := HX.out W hbW; have HOW := hid (HO.out.below hbW); have hBW : Below w.heap.size w W := hB1.trans (hbW.mono (by omega)); clear hbW hW)
    refine bodyPost_ret (v := .tuple #[.agg #[.int .i64 k, .slice A p.length c, .slice A2 m.length c2, .slice A3 y.length c3, .slice A4 q1.length c4, .slice A5 q2.length c5], .bool true]) ?_ rfl ?_
    · simp (maxDischargeDepth := 8) [results, Tryz.results5, go_sem, *]
    refine ⟨⟨⟨A, c, A2, c2, A3, c3, A4, c4, A5, c5⟩, rfl, NtOwn.rd (B := w.heap.size + 1) (M := w1.heap.size) ?_⟩, by repeat' (first | (with_reducible exact hBW) | (with_reducible refine Below.setCell ?_ ?_ _) | exact Nat.le_refl _)⟩
    repeat' (first | (with_reducible exact HOW.out) | (with_reducible refine NtOwn.setq ?_ ?_ _) | (dsimp only; omega))
set_option maxRecDepth 100000 in
set_option maxHeartbeats 4000000 in
theorem fnExactReadNotation_walk (w : World) (aS : ByteArray) (_ : aS.size ≤ maxLen) :
    Calls Tryz.prog 3 #[.string aS] w fun e w' => e = .returned (.bool true) ∧ Below w.heap.size w w' := by
  by_cases hlong0 : 1048576 < aS.size
  · have hmaS := True.intro
    go_enter Tryz.func3, Tryz.ntmps3
    go_wp2
    go_ret
    exact ⟨rfl, (by repeat' (first | exact Below.refl _ _ | (with_reducible assumption) | (with_reducible refine Below.alloc ?_ ?_ _) | (with_reducible refine Below.setCell ?_ ?_ _) | (with_reducible refine Below.drew ?_) | (with_reducible refine below_drewN ?_ _) | (refine Below.trans ?_ (Below.mono (by assumption) ?_)) | (with_reducible exact Nat.le_refl _) | (with_reducible assumption) | (exact Below.size (by assumption)) | omega | go_size | (simp at *; omega)))⟩
  have hS := fun (w1 : World) => specReadNotation_any aS w1 (by omega)
  have hI := fun (w1 : World) => ReadNotation_any aS w1 (by omega)
  have hs := sm_read (tl aS)
  generalize rReadNotation (tl aS) = r at *
  obtain ⟨⟨k, p, m, y, q1, q2⟩, ok⟩ := r
  simp only at hs hS
  have hS := hid hS
  have hI := hid hI
  have HS := hid hs
  clear hs
  obtain ⟨K, hK⟩ : ∃ K, ntK (k, p, m, y, (q1, q2)) = K := ⟨_, rfl⟩
  have hMk := hid (fun (B M : Nat) (s : Six) (w : World) (hB : B ≤ w.heap.size) (hM : M ≤ w.heap.size) h one => markNotation_any B M k p m y q1 q2 s w HS.out hB hM h one)
  have hHd := hid (fun (s : Six) (w : World) h => heldNotation_any k p m y q1 q2 s w HS.out h)
  rw [hK] at hMk hHd
  have hkn : ¬ (K : Int) < 0 := by omega
  have hkq : ((K : Int) != (K : Int)) = false := by simp
  have hoq : (ok != ok) = false := by simp
  clear hK
  go_enter Tryz.func3, Tryz.ntmps3
  go_wp2_with fail
  refine (hS.out _).mono ?_
  rintro e w1 ⟨⟨⟨A, c, A2, c2, A3, c3, A4, c4, A5, c5⟩, rfl, hr1⟩, hb1⟩
  unfold Six.cells
  simp only
  have HR1 := hid hr1
  have HB1 := hid hb1
  clear hr1 hb1 hS
  go_wp2_with (refine wl_name (w1 := w1) (O := (Obj.cells #[.int .i64 k, .slice A p.length c, .slice A2 m.length c2, .slice A3 y.length c3, .slice A4 q1.length c4, .slice A5 q2.length c5] 31)) ?_; intro W hW; have HBW : Hid (Below w1.heap.size w1 W) := (by show Below _ _ _; rw [← hW]; exact Below.alloc (Below.refl _ _) (Nat.le_refl _) _); have HX3 : Hid (Bx W w1.heap.size 31 #[.int .i64 k, .slice A p.length c, .slice A2 m.length c2, .slice A3 y.length c3, .slice A4 q1.length c4, .slice A5 q2.length c5]) := (by show Bx _ _ _ _; rw [← hW]; exact Bx.new _ _ _); clear hW)
  have HW0 := hid (HB1.out.trans (HBW.out.mono HB1.out.size))
  have HRW := hid (HR1.out.below HBW.out)
  have HL3 := hid HX3.out.lt
  clear HR1 HB1
  refine (hI.out _).mono ?_
  rintro e w2 ⟨hr2, hb2⟩
  obtain ⟨⟨D, d, D2, d2, D3, d3, D4, d4, D5, d5⟩, rfl, ho2, one2⟩ := hr2.six
  unfold Six.cells
  simp only
  have HO2 := hid ho2
  have HON := hid one2
  have HB2 := hid hb2
  clear hr2 ho2 one2 hb2
  go_wp2_with (refine wl_name (w1 := w2) (O := (Obj.cells #[.int .i64 k, .slice D p.length d, .slice D2 m.length d2, .slice D3 y.length d3, .slice D4 q1.length d4, .slice D5 q2.length d5] 31)) ?_; intro V hV; have HBV : Hid (Below w2.heap.size w2 V) := (by show Below _ _ _; rw [← hV]; exact Below.alloc (Below.refl _ _) (Nat.le_refl _) _); have HX5 : Hid (Bx V w2.heap.size 31 #[.int .i64 k, .slice D p.length d, .slice D2 m.length d2, .slice D3 y.length d3, .slice D4 q1.length d4, .slice D5 q2.length d5]) := (by show Bx _ _ _ _; rw [← hV]; exact Bx.new _ _ _); clear hV; have HWV := hid (HB2.out.trans (HBV.out.mono HB2.out.size)); obtain ⟨⟨a0, a1, a2, a3, a4, a5⟩, -⟩ := zc HX5.out; obtain ⟨⟨b0, b1, b2, b3, b4, b5⟩, -⟩ := zc (HX3.out.below HWV.out HL3.out))
  have HOV := hid (HO2.out.below HBV.out)
  have HL5 := hid HX5.out.lt
  clear HO2 a0 a1 a2 a3 a4 a5 b0 b1 b2 b3 b4 b5
  refine (eqNotation_same k p m y q1 q2 ⟨D, d, D2, d2, D3, d3, D4, d4, D5, d5⟩ ⟨A, c, A2, c2, A3, c3, A4, c4, A5, c5⟩ V HS.out HOV.out.rd (HRW.out.below HWV.out)).mono ?_
  rintro e w3 ⟨rfl, hb3⟩
  obtain ⟨⟨a0, a1, a2, a3, a4, a5⟩, -⟩ := zc (HX5.out.below hb3 HL5.out)
  have HX5' := hid (HX5.out.below hb3 HL5.out)
  have HW3 := hid (HWV.out.trans (hb3.mono HWV.out.size))
  have HO3 := hid (HOV.out.below hb3)
  have HZ3 : Hid (w2.heap.size < w3.heap.size) := Nat.lt_of_lt_of_le HL5.out hb3.size
  clear hb3 HOV HX5 HL5
  go_wp2_with fail
  clear a0 a1 a2 a3 a4 a5
  refine (hMk.out W.heap.size w2.heap.size ⟨D, d, D2, d2, D3, d3, D4, d4, D5, d5⟩ w3 HW3.out.size (Nat.le_of_lt HZ3.out) HO3.out HON.out).mono ?_
  rintro e w4 ⟨rfl, hm4, hb4, hf4⟩
  have HX4 := hid (show Bx w4 w2.heap.size 31 #[.int .i64 k, .slice D p.length d, .slice D2 m.length d2, .slice D3 y.length d3, .slice D4 q1.length d4, .slice D5 q2.length d5] from (hf4 w2.heap.size (Nat.le_refl _) HZ3.out).trans HX5'.out)
  have HW4 := hid (HW3.out.trans hb4)
  have HM4 := hid hm4
  have HL4 := hid HX4.out.lt
  obtain ⟨⟨a0, a1, a2, a3, a4, a5⟩, -⟩ := zc HX4.out
  clear hm4 hb4 hf4 HX5' HW3 HO3 HZ3
  go_wp2_with fail
  clear a0 a1 a2 a3 a4 a5
  refine (hHd.out ⟨D, d, D2, d2, D3, d3, D4, d4, D5, d5⟩ w4 HM4.out).mono ?_
  rintro e w5 ⟨rfl, hb5⟩
  have HB5 := hid hb5
  clear hb5
  go_wp2_with fail
  refine (hI.out _).mono ?_
  rintro e w6 ⟨hr6, hb6⟩
  obtain ⟨⟨F, f, F2, f2, F3, f3, F4, f4, F5, f5⟩, rfl, ho6, -⟩ := hr6.six
  unfold Six.cells
  simp only
  have HO6 := hid ho6
  have HB6 := hid (HB5.out.trans (hb6.mono HB5.out.size))
  clear hr6 ho6 hb6 HB5
  go_wp2_with (refine wl_name (w1 := w6) (O := (Obj.cells #[.int .i64 k, .slice F p.length f, .slice F2 m.length f2, .slice F3 y.length f3, .slice F4 q1.length f4, .slice F5 q2.length f5] 31)) ?_; intro U hU; have HBU : Hid (Below w6.heap.size w6 U) := (by show Below _ _ _; rw [← hU]; exact Below.alloc (Below.refl _ _) (Nat.le_refl _) _); have HX9 : Hid (Bx U w6.heap.size 31 #[.int .i64 k, .slice F p.length f, .slice F2 m.length f2, .slice F3 y.length f3, .slice F4 q1.length f4, .slice F5 q2.length f5]) := (by show Bx _ _ _ _; rw [← hU]; exact Bx.new _ _ _); clear hU; have HB4U := hid (HB6.out.trans (HBU.out.mono HB6.out.size)); have HWU := hid (HW4.out.trans (HB4U.out.mono HW4.out.size)); obtain ⟨⟨a0, a1, a2, a3, a4, a5⟩, -⟩ := zc HX9.out; obtain ⟨⟨b0, b1, b2, b3, b4, b5⟩, -⟩ := zc (HX3.out.below HWU.out HL3.out))
  have HOU := hid (HO6.out.below HBU.out)
  clear HO6 a0 a1 a2 a3 a4 a5 b0 b1 b2 b3 b4 b5 HX9
  refine (eqNotation_same k p m y q1 q2 ⟨F, f, F2, f2, F3, f3, F4, f4, F5, f5⟩ ⟨A, c, A2, c2, A3, c3, A4, c4, A5, c5⟩ U HS.out HOU.out.rd (HRW.out.below HWU.out)).mono ?_
  rintro e w7 ⟨rfl, hb7⟩
  have HB7 := hid (HB4U.out.trans (hb7.mono HB4U.out.size))
  obtain ⟨⟨a0, a1, a2, a3, a4, a5⟩, -⟩ := zc (HX4.out.below HB7.out HL4.out)
  have HM7 := hid (HM4.out.below HB7.out)
  clear hb7 HOU HM4
  go_wp2_with fail
  clear a0 a1 a2 a3 a4 a5
  refine (hHd.out ⟨D, d, D2, d2, D3, d3, D4, d4, D5, d5⟩ w7 HM7.out).mono ?_
  rintro e w8 ⟨rfl, hb8⟩
  have HB8 := HB7.out.trans (hb8.mono HB7.out.size)
  have HW8 := HW4.out.trans (HB8.mono HW4.out.size)
  have HF := HW0.out.trans (HW8.mono HW0.out.size)
  clear hb8 HB8 HW8
  go_wp2
  go_ret
  exact ⟨rfl, HF⟩
end Go.Proofs.YtkglkpohbckpcaaGreat
