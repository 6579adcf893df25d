/- The contract of DrawReadSync. -/
import Derived.Test.YtjagejalchfhlaaSp
import Derived.Test.YtjagejalchfhlaaZr
import Derived.Test.YtjagejalchfhlaaYh
namespace Go.Proofs.Ytjagejalchfhlaa
open Go.RowKit
set_option linter.unusedVariables false

theorem eleven_any (w : World) (b : Nat) (hb : b = w.heap.size) (t : TypeId) : ∀ i, i < 11 → ∃ y : ByteArray, y.size ≤ 12 ∧ (w.alloc (Obj.cells #[.string ⟨#[40, 52, 44, 50, 120, 41, 42]⟩, .string ⟨#[40, 54, 120, 44, 52, 41, 42]⟩, .string ⟨#[40, 52, 44, 52]⟩, .string ⟨#[40, 41]⟩, .string ⟨#[40, 52, 120, 44, 50, 41]⟩, .string ⟨#[40, 48, 120, 44, 52, 41]⟩, .string ⟨#[40, 53, 44, 52, 41]⟩, .string ⟨#[42]⟩, .string ⟨#[]⟩, .string ⟨#[40, 52, 32, 44, 52, 41]⟩, .string ⟨#[40, 101, 120, 44, 101, 120, 41]⟩] t)).cell? ⟨b, 0 + i, none⟩ = some (.string y) := by
  intro i hi
  subst hb
  rw [World.cell?_alloc_at _ _ _ _ rfl]
  match i, hi with
  | 0, _ => refine ⟨_, ?_, rfl⟩; decide
  | 1, _ => refine ⟨_, ?_, rfl⟩; decide
  | 2, _ => refine ⟨_, ?_, rfl⟩; decide
  | 3, _ => refine ⟨_, ?_, rfl⟩; decide
  | 4, _ => refine ⟨_, ?_, rfl⟩; decide
  | 5, _ => refine ⟨_, ?_, rfl⟩; decide
  | 6, _ => refine ⟨_, ?_, rfl⟩; decide
  | 7, _ => refine ⟨_, ?_, rfl⟩; decide
  | 8, _ => refine ⟨_, ?_, rfl⟩; decide
  | 9, _ => refine ⟨_, ?_, rfl⟩; decide
  | 10, _ => refine ⟨_, ?_, rfl⟩; decide
set_option maxHeartbeats 1000000 in
theorem DrawReadSync_any (A : Option Addr) (n c : Nat) (xs : List Int) (w : World) (hn : n ≤ 1099511627776) (hx : ∀ x ∈ xs, 0 ≤ x ∧ x ≤ 255) (hr : Rd w w.heap.size 1 A n (xs.map (Value.int .u8))) :
    Calls Try.prog 47 #[.slice A n c] w fun e w' => StrRes e ∧ Below w.heap.size w w' := by
  have h0 := hid (l00From_any A n c xs w hn hx hr)
  clear hx hr
  go_enter Try.func47, Try.ntmps47
  go_wp2_with fail
  refine h0.out.mono ?_
  rintro e w1 ⟨rfl, hs1, hb1⟩
  have z1 := hb1.size
  have l1 := hs1.lt
  clear h0
  go_wp2_with fail
  refine (l05Bent_src _ A n c 0 xs w1 (by omega) hs1).mono ?_
  rintro e w2 ⟨v2, rfl, ⟨p, hp, ho2⟩, hs2, hg2⟩
  have hB2 : Below w.heap.size w w2 := hb1.grown hg2 z1 (fun g h => by simp at h; omega)
  have z2 := hg2.size
  obtain ⟨A2, c2, rfl⟩ := own_form ho2
  have hL := l05List_any A2 p.length c2 p w2 (by omega) (Rd.of_own ho2)
  clear hg2 hs1 hb1
  cases hbo : beatsOk p with
  | true =>
    rw [hbo] at hL
    have hL := hid hL
    have hpl6 := (beatsOk_iff.1 hbo).2.2
    have HBO := hid hbo
    clear hbo
    go_wp2_with fail
    refine hL.out.mono ?_
    rintro e w3 ⟨rfl, hb3⟩
    replace ho2 := own_below ho2 hb3
    replace hB2 := bchain hB2 hb3
    replace hs2 := hs2.below hb3 (by omega)
    have z3 := hb3.size
    have hT := l05Text_any A2 p.length c2 p w3 HBO.out (Rd.of_own ho2)
    have hTs : (st (syT p)).size ≤ 50 := by rw [st_size]; have := syT_len p; omega
    obtain ⟨T, hTe⟩ : ∃ T, st (syT p) = T := ⟨_, rfl⟩
    rw [hTe] at hT hTs
    have hT := hid hT
    clear hTe hL hb3 ho2
    go_wp2_with fail
    refine hT.out.mono ?_
    rintro e w4 ⟨rfl, hb4⟩
    replace hB2 := bchain hB2 hb4
    replace hs2 := hs2.below hb4 (by omega)
    have z4 := hb4.size
    clear hT hb4
    go_wp2_with fail
    refine (pick_src _ A n c (0 + 100) xs 4 w4 (by omega) (by omega) hs2).mono ?_
    rintro e w5 ⟨⟨x, x0, x1, rfl⟩, hs5, hg5⟩
    have hB5 : Below w.heap.size w w5 := hB2.grown hg5 (by omega) (fun g h => by simp at h; omega)
    have z5 := hg5.size
    clear hg5 x1
    by_cases q0 : x = 0
    · subst q0
      go_wp2_with fail
      refine (l01Spoil_src _ A n c (0 + 100 + 2) xs T w5 (by omega) (by omega) hs5).mono ?_
      rintro e w6 ⟨⟨S, hS, rfl⟩, hs6, hg6⟩
      have hB6 : Below w.heap.size w w6 := hB5.grown hg6 (by omega) (fun g h => by simp at h; omega)
      go_wp2
      go_ret
      exact ⟨⟨S, hS, rfl⟩, hB6⟩
    · by_cases q1 : x = 1
      · subst q1
        go_wp2
        go_ret
        exact ⟨⟨_, by first | decide | (rw [ByteArray.size_append]; simp only [ByteArray.size]; simp; omega), rfl⟩, hB5⟩
      · by_cases q2 : x = 2
        · subst q2
          go_wp2_with fail
          refine (text_src _ A n c (0 + 100 + 2) xs w5.heap.size 0 11 11 _ (by omega) (by omega) (by simp) (by omega) (by omega) (eleven_any w5 _ rfl _) (hs5.below (B := w5.heap.size) (by repeat' (first | exact Below.refl _ _ | (with_reducible assumption) | (with_reducible refine Below.alloc ?_ ?_ _) | (with_reducible refine Below.setCell ?_ ?_ _) | (with_reducible refine Below.drew ?_) | (with_reducible refine below_drewN ?_ _) | (refine Below.trans ?_ (Below.mono (by assumption) ?_)) | (with_reducible exact Nat.le_refl _) | (with_reducible assumption) | (exact Below.size (by assumption)) | omega | go_size | (simp at *; omega))) (by omega))).mono ?_
          rintro e w6 ⟨⟨y, hy, rfl⟩, hs6, hg6⟩
          have hb5 : Below w.heap.size w (w5.alloc (Obj.cells #[.string ⟨#[40, 52, 44, 50, 120, 41, 42]⟩, .string ⟨#[40, 54, 120, 44, 52, 41, 42]⟩, .string ⟨#[40, 52, 44, 52]⟩, .string ⟨#[40, 41]⟩, .string ⟨#[40, 52, 120, 44, 50, 41]⟩, .string ⟨#[40, 48, 120, 44, 52, 41]⟩, .string ⟨#[40, 53, 44, 52, 41]⟩, .string ⟨#[42]⟩, .string ⟨#[]⟩, .string ⟨#[40, 52, 32, 44, 52, 41]⟩, .string ⟨#[40, 101, 120, 44, 101, 120, 41]⟩] 9)) := (by repeat' (first | exact Below.refl _ _ | (with_reducible assumption) | (with_reducible refine Below.alloc ?_ ?_ _) | (with_reducible refine Below.setCell ?_ ?_ _) | (with_reducible refine Below.drew ?_) | (with_reducible refine below_drewN ?_ _) | (refine Below.trans ?_ (Below.mono (by assumption) ?_)) | (with_reducible exact Nat.le_refl _) | (with_reducible assumption) | (exact Below.size (by assumption)) | omega | go_size | (simp at *; omega)))
          have hB6 : Below w.heap.size w w6 := hb5.grown hg6 hb5.size (fun g h => by simp at h; omega)
          go_wp2
          go_ret
          exact ⟨⟨y, by omega, rfl⟩, hB6⟩
        · go_wp2
          go_ret
          exact ⟨⟨T, by omega, rfl⟩, hB5⟩
  | false =>
    rw [hbo] at hL
    have hL := hid hL
    clear hbo ho2
    go_wp2_with fail
    refine hL.out.mono ?_
    rintro e w4 ⟨rfl, hb4⟩
    replace hB2 := bchain hB2 hb4
    replace hs2 := hs2.below hb4 (by omega)
    have z4 := hb4.size
    have hTs : (⟨#[40, 52, 44, 50, 120, 41, 42]⟩ : ByteArray).size ≤ 50 := by decide
    clear hL hb4
    go_wp2_with fail
    refine (pick_src _ A n c (0 + 100) xs 4 w4 (by omega) (by omega) hs2).mono ?_
    rintro e w5 ⟨⟨x, x0, x1, rfl⟩, hs5, hg5⟩
    have hB5 : Below w.heap.size w w5 := hB2.grown hg5 (by omega) (fun g h => by simp at h; omega)
    have z5 := hg5.size
    clear hg5 x1
    by_cases q0 : x = 0
    · subst q0
      go_wp2_with fail
      refine (l01Spoil_src _ A n c (0 + 100 + 2) xs ⟨#[40, 52, 44, 50, 120, 41, 42]⟩ w5 (by omega) (by omega) hs5).mono ?_
      rintro e w6 ⟨⟨S, hS, rfl⟩, hs6, hg6⟩
      have hB6 : Below w.heap.size w w6 := hB5.grown hg6 (by omega) (fun g h => by simp at h; omega)
      go_wp2
      go_ret
      exact ⟨⟨S, hS, rfl⟩, hB6⟩
    · by_cases q1 : x = 1
      · subst q1
        go_wp2
        go_ret
        exact ⟨⟨_, by first | decide | (rw [ByteArray.size_append]; simp only [ByteArray.size]; simp; omega), rfl⟩, hB5⟩
      · by_cases q2 : x = 2
        · subst q2
          go_wp2_with fail
          refine (text_src _ A n c (0 + 100 + 2) xs w5.heap.size 0 11 11 _ (by omega) (by omega) (by simp) (by omega) (by omega) (eleven_any w5 _ rfl _) (hs5.below (B := w5.heap.size) (by repeat' (first | exact Below.refl _ _ | (with_reducible assumption) | (with_reducible refine Below.alloc ?_ ?_ _) | (with_reducible refine Below.setCell ?_ ?_ _) | (with_reducible refine Below.drew ?_) | (with_reducible refine below_drewN ?_ _) | (refine Below.trans ?_ (Below.mono (by assumption) ?_)) | (with_reducible exact Nat.le_refl _) | (with_reducible assumption) | (exact Below.size (by assumption)) | omega | go_size | (simp at *; omega))) (by omega))).mono ?_
          rintro e w6 ⟨⟨y, hy, rfl⟩, hs6, hg6⟩
          have hb5 : Below w.heap.size w (w5.alloc (Obj.cells #[.string ⟨#[40, 52, 44, 50, 120, 41, 42]⟩, .string ⟨#[40, 54, 120, 44, 52, 41, 42]⟩, .string ⟨#[40, 52, 44, 52]⟩, .string ⟨#[40, 41]⟩, .string ⟨#[40, 52, 120, 44, 50, 41]⟩, .string ⟨#[40, 48, 120, 44, 52, 41]⟩, .string ⟨#[40, 53, 44, 52, 41]⟩, .string ⟨#[42]⟩, .string ⟨#[]⟩, .string ⟨#[40, 52, 32, 44, 52, 41]⟩, .string ⟨#[40, 101, 120, 44, 101, 120, 41]⟩] 9)) := (by repeat' (first | exact Below.refl _ _ | (with_reducible assumption) | (with_reducible refine Below.alloc ?_ ?_ _) | (with_reducible refine Below.setCell ?_ ?_ _) | (with_reducible refine Below.drew ?_) | (with_reducible refine below_drewN ?_ _) | (refine Below.trans ?_ (Below.mono (by assumption) ?_)) | (with_reducible exact Nat.le_refl _) | (with_reducible assumption) | (exact Below.size (by assumption)) | omega | go_size | (simp at *; omega)))
          have hB6 : Below w.heap.size w w6 := hb5.grown hg6 hb5.size (fun g h => by simp at h; omega)
          go_wp2
          go_ret
          exact ⟨⟨y, by omega, rfl⟩, hB6⟩
        · go_wp2
          go_ret
          exact ⟨⟨⟨#[40, 52, 44, 50, 120, 41, 42]⟩, by omega, rfl⟩, hB5⟩
end Go.Proofs.Ytjagejalchfhlaa
