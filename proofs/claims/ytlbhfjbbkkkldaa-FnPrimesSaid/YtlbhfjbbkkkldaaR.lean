/- Contracts of the source of drawn numbers (spec/l00_source.go): what is drawn lies in its range; nothing but the source's own block is written. -/
import Derived.Test.YtlbhfjbbkkkldaaProg
import Derived.Test.YtlbhfjbbkkkldaaKit
import Derived.Deep.QuietTactic
import Derived.BigQuiet
namespace Go.Proofs.Ytlbhfjbbkkkldaa
open Go.RowKit
set_option linter.unusedVariables false

/-- Block g is a source over the bytes xs that has been asked at most K times. -/
def Src (w : World) (g : Nat) (A : Option Addr) (n c : Nat) (xs : List Int) (K : Nat) : Prop :=
  ∃ (at_ seed : Int), Bx w g 122 #[.slice A n c, .int .i64 at_, .int .u64 seed] ∧ 0 ≤ at_ ∧ at_ ≤ (K : Int) ∧ 0 ≤ seed ∧ seed ≤ 18446744073709551615 ∧
    (∀ x ∈ xs, 0 ≤ x ∧ x ≤ 255) ∧ Rd w g 1 A n (xs.map (Value.int .u8)) ∧ n ≤ 1099511627776
theorem Src.lt {w : World} {g : Nat} {A : Option Addr} {n c : Nat} {xs : List Int} {K : Nat} (h : Src w g A n c xs K) : g < w.heap.size := by
  obtain ⟨_, _, h, _⟩ := h; exact h.lt
theorem Src.below {w w' : World} {g B : Nat} {A : Option Addr} {n c : Nat} {xs : List Int} {K : Nat} (h : Src w g A n c xs K) (hb : Below B w w') (hg : g < B) : Src w' g A n c xs K := by
  obtain ⟨a, s, h1, h2, h3, h4, h5, h6, h7, h8⟩ := h
  exact ⟨a, s, h1.below hb hg, h2, h3, h4, h5, h6, h7.keep fun p hp => hb.cell (Nat.lt_trans hp hg), h8⟩
theorem Src.more {w : World} {g : Nat} {A : Option Addr} {n c : Nat} {xs : List Int} {K K' : Nat} (h : Src w g A n c xs K) (hk : K ≤ K') : Src w g A n c xs K' := by
  obtain ⟨a, s, h1, h2, h3, r⟩ := h
  exact ⟨a, s, h1, h2, by omega, r⟩

theorem grown_set (w : World) (g i : Nat) (u : Value) : w.grownBy (w.setCell ⟨g, i, none⟩ u) (some g) :=
  ⟨rfl, rfl, rfl, by simp, fun k _ hk => Below.heap_setCell w ⟨g, i, none⟩ u k (fun e => hk (by simp [e]))⟩
theorem grown_trans {a b c : World} {row : Option Nat} (h : a.grownBy b row) (k : b.grownBy c row) : a.grownBy c row :=
  ⟨k.os.trans h.os, k.tape.trans h.tape, k.output.trans h.output, Nat.le_trans h.size k.size, fun j hj hne => (k.block j (Nat.lt_of_lt_of_le hj h.size) hne).trans (h.block j hj hne)⟩
theorem grown_drewN (w : World) (n : Nat) (row : Option Nat) : w.grownBy (w.drewN n) row := ⟨rfl, rfl, rfl, Nat.le_refl _, fun _ _ _ => rfl⟩
theorem grown_drew (w : World) (row : Option Nat) : w.grownBy w.drew row := ⟨rfl, rfl, rfl, Nat.le_refl _, fun _ _ _ => rfl⟩
theorem Rd.grown {w w' : World} {B sz n : Nat} {A : Option Addr} {us : List Value} {g : Nat} (h : Rd w B sz A n us) (hg : w.grownBy w' (some g)) (hB : B ≤ g) (hs : g < w.heap.size) : Rd w' B sz A n us :=
  h.keep fun p hp => World.cell?_of_block (hg.block p.block (by omega) (by simp; omega))
theorem and_255 (x : Int) (h0 : 0 ≤ x) (h1 : x ≤ 18446744073709551615) : 0 ≤ bits BinOp.and IntKind.u64 x 255 ∧ bits BinOp.and IntKind.u64 x 255 ≤ 255 := by
  have h := bits_and_u64_nat x.toNat 255 (by omega) (by omega)
  rw [Int.toNat_of_nonneg h0] at h
  have e : ((255 : Nat) : Int) = 255 := rfl
  rw [e] at h
  have := Nat.and_le_right (n := x.toNat) (m := 255)
  omega

theorem u64_range (y : Int) : 0 ≤ IntKind.u64.wrap y ∧ IntKind.u64.wrap y ≤ 18446744073709551615 := by
  rw [IntKind.wrap_u64]; omega
theorem src_end {w : World} {g n c K k m : Nat} {A : Option Addr} {xs : List Int} {a s : Int} (y : Int) (h1 : Bx w g 122 #[.slice A n c, .int .i64 a, .int .u64 s]) (h2 : 0 ≤ a) (h3 : a ≤ (K : Int))
    (h6 : ∀ x ∈ xs, 0 ≤ x ∧ x ≤ 255) (h7 : Rd w g 1 A n (xs.map (Value.int .u8))) (h8 : n ≤ 1099511627776) :
    Src ((((w.drewN k).setCell ⟨g, 1, none⟩ (.int .i64 (a + 1))).setCell ⟨g, 2, none⟩ (.int .u64 (IntKind.u64.wrap y))).drewN m) g A n c xs (K + 1) ∧
      w.grownBy ((((w.drewN k).setCell ⟨g, 1, none⟩ (.int .i64 (a + 1))).setCell ⟨g, 2, none⟩ (.int .u64 (IntKind.u64.wrap y))).drewN m) (some g) := by
  have hg : w.grownBy ((((w.drewN k).setCell ⟨g, 1, none⟩ (.int .i64 (a + 1))).setCell ⟨g, 2, none⟩ (.int .u64 (IntKind.u64.wrap y))).drewN m) (some g) :=
    grown_trans (grown_trans (grown_trans (grown_drewN _ _ _) (grown_set _ _ _ _)) (grown_set _ _ _ _)) (grown_drewN _ _ _)
  have hr := u64_range y
  exact ⟨⟨a + 1, IntKind.u64.wrap y, (((h1.drewN k).set_ 1 _).set_ 2 _).drewN m, by omega, by omega, hr.1, hr.2, h6, h7.grown hg (Nat.le_refl _) h1.lt, h8⟩, hg⟩

set_option maxHeartbeats 400000 in
theorem next_src (g : Nat) (A : Option Addr) (n c K : Nat) (xs : List Int) (w : World) (hK : K ≤ 1099511627776) (h : Src w g A n c xs K) :
    Calls Try.prog 143 #[.pointer (some ⟨g, 0, none⟩)] w fun e w' => (∃ x : Int, 0 ≤ x ∧ x ≤ 255 ∧ e = .returned (.int .i64 x)) ∧ Src w' g A n c xs (K + 1) ∧ w.grownBy w' (some g) := by
  obtain ⟨a, s, h1, h2, h3, h4, h5, h6, h7, h8⟩ := h
  have c0 : w.cell? ⟨g, 0, none⟩ = some (.slice A n c) := h1.cell 0
  have c1 : w.cell? ⟨g, 1, none⟩ = some (.int .i64 a) := h1.cell 1
  have c2 : w.cell? ⟨g, 2, none⟩ = some (.int .u64 s) := h1.cell 2
  have f1 := h1.frozen 1
  have f2 := h1.frozen 2
  go_enter Try.func143, Try.ntmps143
  go_wp2
  by_cases hlt : a < (n : Int)
  · obtain ⟨j, rfl⟩ := Int.eq_ofNat_of_zero_le h2
    obtain ⟨b, off, x, rfl, hb, hx, _, hc⟩ := h7.at_ (show j < n by omega)
    obtain ⟨x0, x1⟩ := h6 x (List.mem_of_getElem? hx)
    have H6 := hid h6
    have H1 := hid h1
    have H7 := hid h7
    clear h6 h1 h7 hx hb
    go_quiet (fail)
    go_wp2
    go_quiet (fail)
    go_wp2
    go_quiet (fail)
    go_wp2
    go_ret
    exact ⟨⟨x, x0, x1, rfl⟩, src_end _ H1.out h2 h3 H6.out H7.out h8⟩
  · have H6 := hid h6
    have H1 := hid h1
    have H7 := hid h7
    clear h6 h1 h7
    go_quiet (fail)
    go_wp2
    go_quiet (fail)
    go_wp2
    go_ret
    have hb : ∀ y : Int, 0 ≤ wrap64 (bits BinOp.and IntKind.u64 (IntKind.u64.wrap y / 1099511627776) 255) ∧ wrap64 (bits BinOp.and IntKind.u64 (IntKind.u64.wrap y / 1099511627776) 255) ≤ 255 := by
      intro y
      have h9 := u64_range y
      have h10 := and_255 (IntKind.u64.wrap y / 1099511627776) (by omega) (by omega)
      rw [IntWalk.wrap64_in _ (by omega)]; exact h10
    exact ⟨⟨_, (hb _).1, (hb _).2, rfl⟩, src_end _ H1.out h2 h3 H6.out H7.out h8⟩
theorem pick_src (g : Nat) (A : Option Addr) (n c K : Nat) (xs : List Int) (k : Int) (w : World) (hK : K ≤ 549755813888) (hk : k ≤ 65536) (h : Src w g A n c xs K) :
    Calls Try.prog 87 #[.pointer (some ⟨g, 0, none⟩), .int .i64 k] w fun e w' => (∃ x : Int, 0 ≤ x ∧ (x < k ∨ x = 0) ∧ e = .returned (.int .i64 x)) ∧ Src w' g A n c xs (K + 2) ∧ w.grownBy w' (some g) := by
  by_cases h1 : k ≤ 1
  · go_enter Try.func87, Try.ntmps87
    go_wp2
    go_ret
    exact ⟨⟨0, by omega, .inr rfl, rfl⟩, h.more (by omega), World.grownBy.refl _ _⟩
  · have hlt := h.lt
    by_cases h2 : 200 < k
    · have hN := hid (fun (K : Nat) (w : World) (hK : K ≤ 1099511627776) (h : Src w g A n c xs K) => next_src g A n c K xs w hK h)
      have H := hid h
      clear h
      go_enter Try.func87, Try.ntmps87
      go_wp2_with fail
      refine (hN.out K _ (by omega) H.out).mono ?_
      rintro e w1 ⟨⟨x, x0, x1, rfl⟩, hs1, hg1⟩
      go_wp2_with fail
      refine (hN.out (K + 1) _ (by omega) hs1).mono ?_
      rintro e w2 ⟨⟨y, y0, y1, rfl⟩, hs2, hg2⟩
      have hm0 : 0 ≤ (x * 256 + y) % k := Int.emod_nonneg _ (by omega)
      have hm1 : (x * 256 + y) % k < k := Int.emod_lt_of_pos _ (by omega)
      go_wp2
      go_ret
      exact ⟨⟨_, hm0, .inl hm1, rfl⟩, hs2, grown_trans hg1 hg2⟩
    · have hN := hid (next_src g A n c K xs w (by omega) h)
      clear h
      go_enter Try.func87, Try.ntmps87
      go_wp2_with fail
      refine hN.out.mono ?_
      rintro e w1 ⟨⟨x, x0, x1, rfl⟩, hs1, hg1⟩
      have hm0 : 0 ≤ x % k := Int.emod_nonneg _ (by omega)
      have hm1 : x % k < k := Int.emod_lt_of_pos _ (by omega)
      go_wp2
      go_ret
      exact ⟨⟨_, hm0, .inl hm1, rfl⟩, hs1.more (by omega), hg1⟩
theorem l00From_any (A : Option Addr) (n c : Nat) (xs : List Int) (w : World) (hn : n ≤ 1099511627776) (hx : ∀ x ∈ xs, 0 ≤ x ∧ x ≤ 255) (hr : Rd w w.heap.size 1 A n (xs.map (Value.int .u8))) :
    Calls Try.prog 72 #[.slice A n c] w fun e w' => e = .returned (.pointer (some ⟨w.heap.size, 0, none⟩)) ∧ Src w' w.heap.size A n c xs 0 ∧ Below w.heap.size w w' := by
  have HR := hid hr
  have HX := hid hx
  clear hr hx
  go_enter Try.func72, Try.ntmps72
  go_wp2
  go_ret
  exact ⟨rfl, ⟨0, 0, Bx.new _ _ _, by omega, by omega, by omega, by omega, HX.out, HR.out.alloc (Nat.le_refl _) _, hn⟩, (by repeat' (first | exact Below.refl _ _ | (with_reducible assumption) | (with_reducible refine Below.alloc ?_ ?_ _) | (with_reducible refine Below.setCell ?_ ?_ _) | (with_reducible refine Below.drew ?_) | (with_reducible refine below_drewN ?_ _) | (refine Below.trans ?_ (Below.mono (by assumption) ?_)) | (with_reducible exact Nat.le_refl _) | (with_reducible assumption) | (exact Below.size (by assumption)) | omega | go_size | (simp at *; omega)))⟩
end Go.Proofs.Ytlbhfjbbkkkldaa
