/- Contracts of the laws' own helpers that count and copy arguments: notations. -/
import Derived.Test.YtkglkpohbckpcaaNr
import Derived.Test.YtkglkpohbckpcaaNqb
import Derived.Test.YtkglkpohbckpcaaNt
namespace Go.Proofs.Ytkglkpohbckpcaa
open Go.RowKit
set_option linter.unusedVariables false

set_option maxRecDepth 100000 in
set_option maxHeartbeats 2000000 in
theorem szNotation_any (k : Int) (A A2 A3 A4 A5 : Option Addr) (n1 n2 n3 n4 n5 c c2 c3 c4 c5 L : Nat) (rows : List (List Int)) (w : World) (h1 : n1 ≤ maxLen) (h2 : n2 ≤ maxLen) (hlr : ∀ r ∈ rows, r.length ≤ maxLen) (h3 : n3 ≤ maxLen) (h4 : n4 ≤ maxLen) (h5 : n5 ≤ maxLen) (hL : L ≤ 1099511627776) (h : RdG w w.heap.size A2 n2 rows) :
    Calls Try.prog 13 #[.agg #[.int .i64 k, .slice A n1 c, .slice A2 n2 c2, .slice A3 n3 c3, .slice A4 n4 c4, .slice A5 n5 c5], .int .i64 (L : Int)] w fun e w' => (∃ r, e = .returned (.int .i64 r) ∧ Left L (n1 + (n2 + tot rows) + n3 + (n4 + n5)) r) ∧ Below w.heap.size w w' := by
  have hX := Bx.new w 31 #[.int .i64 k, .slice A n1 c, .slice A2 n2 c2, .slice A3 n3 c3, .slice A4 n4 c4, .slice A5 n5 c5]
  have hZ : (w.alloc (Obj.cells #[.int .i64 k, .slice A n1 c, .slice A2 n2 c2, .slice A3 n3 c3, .slice A4 n4 c4, .slice A5 n5 c5] 31)).heap.size = w.heap.size + 1 := by simp
  have hB0 : Below w.heap.size w (w.alloc (Obj.cells #[.int .i64 k, .slice A n1 c, .slice A2 n2 c2, .slice A3 n3 c3, .slice A4 n4 c4, .slice A5 n5 c5] 31)) := Below.alloc (Below.refl _ _) (Nat.le_refl _) _
  have hC1 := hid (szInt64S_any A n1 c L (w.alloc (Obj.cells #[.int .i64 k, .slice A n1 c, .slice A2 n2 c2, .slice A3 n3 c3, .slice A4 n4 c4, .slice A5 n5 c5] 31)) h1 hL)
  have hC2 := hid (fun (x : Nat) (hx : x ≤ 1099511627776) => szMulti_any A2 n2 c2 x rows _ h2 hlr hx ((h.below hB0 (Nat.le_refl _)).more hB0.size))
  have hC3 := hid (fun (x : Nat) (hx : x ≤ 1099511627776) (w1 : World) => szSyncBeatS_any A3 n3 c3 x w1 h3 hx)
  have hC4 := hid (fun (x : Nat) (hx : x ≤ 1099511627776) (w1 : World) => szPassing_any A4 A5 n4 c4 n5 c5 x w1 h4 h5 hx)
  have HM : Hid (Left L (n1 + (n2 + tot rows) + n3 + (n4 + n5)) (-1)) := .inl rfl
  have HB0 := hid hB0
  have HX := hid hX
  have HZ := hid hZ
  clear h hB0 hX hZ hlr
  go_enter Try.func13, Try.ntmps13
  go_wp2_with fail
  refine hC1.out.mono ?_
  rintro e w1 ⟨⟨r, rfl, hr⟩, rfl⟩
  have HR := hid hr
  rcases hr with rfl | ⟨r0, hr⟩
  · have hB := HB0.out
    clear hC1 hC2 hC3 hC4 HX
    go_wp2
    go_ret
    exact ⟨⟨_, rfl, HM.out⟩, hB⟩
  · obtain ⟨x, rfl⟩ := Int.eq_ofNat_of_zero_le r0
    have hq : ¬ (x : Int) < 0 := by omega
    have hx : x ≤ 1099511627776 := by omega
    clear hC1 hr
    go_wp2_with fail
    refine (hC2.out x hx).mono ?_
    rintro e w2 ⟨⟨r, rfl, hr⟩, hb2⟩
    have HR2 := hid (HR.out.two hr)
    have hB2 := HB0.out.trans (hb2.mono HB0.out.size)
    have hX2 := HX.out.below hb2 HX.out.lt
    obtain ⟨⟨a0, a1, a2, a3, a4, a5⟩, -⟩ := zc hX2
    have hl2 := hX2.lt
    rcases hr with rfl | ⟨r1, hr⟩
    · clear hC2 hC3 hC4 HX hX2 hb2
      go_wp2
      go_ret
      exact ⟨⟨_, rfl, HM.out⟩, hB2⟩
    · obtain ⟨y, rfl⟩ := Int.eq_ofNat_of_zero_le r1
      have hq2 : ¬ (y : Int) < 0 := by omega
      have hy : y ≤ 1099511627776 := by omega
      clear hC2 hr HX hX2 hb2
      go_wp2_with fail
      refine (hC3.out y hy _).mono ?_
      rintro e w3 ⟨⟨r, rfl, hr⟩, rfl⟩
      have HR3 := hid (HR2.out.two hr)
      rcases hr with rfl | ⟨r2, hr⟩
      · clear hC3 hC4
        go_wp2
        go_ret
        exact ⟨⟨_, rfl, HM.out⟩, hB2⟩
      · obtain ⟨z, rfl⟩ := Int.eq_ofNat_of_zero_le r2
        have hq3 : ¬ (z : Int) < 0 := by omega
        have hz : z ≤ 1099511627776 := by omega
        clear hC3 hr
        go_wp2_with fail
        refine (hC4.out z hz _).mono ?_
        rintro e w4 ⟨⟨r, rfl, hr⟩, hb4⟩
        have HR4 := hid (HR3.out.two hr)
        have hB4 := bchain hB2 hb4
        clear a0 a1 a2 a3 a4 a5 hb4
        rcases hr with rfl | ⟨r3, hr⟩
        · clear hC4
          go_wp2
          go_ret
          exact ⟨⟨_, rfl, HM.out⟩, hB4⟩
        · have hq4 : ¬ r < 0 := by omega
          clear hC4 hr
          go_wp2
          go_ret
          exact ⟨⟨_, rfl, HR4.out⟩, hB4⟩
end Go.Proofs.Ytkglkpohbckpcaa
