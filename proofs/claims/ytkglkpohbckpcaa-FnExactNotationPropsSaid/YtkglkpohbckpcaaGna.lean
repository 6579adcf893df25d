/- Several texts in one: Nr, Nu, Nv, Nw. -/
import Derived.Test.YtkglkpohbckpcaaNm
import Derived.StillTailTactics
import Derived.Test.YtkglkpohbckpcaaNqb
import Derived.Test.YtkglkpohbckpcaaNt
import Derived.Test.YtkglkpohbckpcaaYm
/- Contracts of the laws' own helpers that count and copy arguments: sizes, and copies of multiplex, synchronous and passing patterns. -/
namespace Go.Proofs.Ytkglkpohbckpcaa
open Go.RowKit
set_option linter.unusedVariables false

/-- 'make([]T, n)', elements of sz cells. -/
theorem make_us {P : Program} {w : World} {ops : Array Oper} {rest : List Oper} {o : Oper} {a : Act} {Q : Exit → Act → World → Prop}
    (base : Nat) {e by_ sz : Nat} {t : TypeId} {z : Value} (ht : P.underlying t = some (.slice e)) (inf : (P.info? e).map (fun i => (i.zero, i.size, i.bytes)) = some (some z, sz, by_))
    (hgd : o.guard = none) (l c : Operand) (hop : o.op = Op.makeSlice t l c) (kl kc : IntKind) (n : Nat) (hl : a.eval l = .int kl (n : Int)) (hc : a.eval c = .int kc (n : Int))
    (hn : n ≤ 1099511627776) (hby : by_ ≤ 64) (hbase : base ≤ w.heap.size)
    (hK : ∀ us w', w'.ownsRow base e sz (.slice (some ⟨w.heap.size, 0, none⟩) n n) n us → Below w.heap.size w w' → wpList P ops Q rest (a.put o.dst (.slice (some ⟨w.heap.size, 0, none⟩) n n)) w') :
    wpList P ops Q (o :: rest) a w := by
  obtain ⟨i0, hi, hz0, hz1, hz2⟩ := info_parts inf
  refine wpList_make_full _ hgd l c t hop base e i0 z sz ht hi hz0 hz1 kl kc _ _ n hl hc rfl rfl ?_ (by unfold maxLen; omega) hbase ?_
  · rw [hz2]
    have := Nat.mul_le_mul hby hn
    omega
  · intro w' h1 h2
    exact hK _ w' h1 ⟨h2.os, h2.tape, h2.output, h2.size, fun k hk => h2.block k hk (by simp)⟩

/-- What is left of a purse: nothing, or no more than was there, and n things less. -/
def Left (L : Nat) (n : Nat) (r : Int) : Prop := r = -1 ∨ (0 ≤ r ∧ r + n ≤ L)
theorem szInt64S_any (A : Option Addr) (n c L : Nat) (w : World) (hn : n ≤ maxLen) (hL : L ≤ 1099511627776) :
    Calls Try.prog 80 #[.slice A n c, .int .i64 (L : Int)] w fun e w' => (∃ r, e = .returned (.int .i64 r) ∧ Left L n r) ∧ w = w' := by
  have hn2 : n ≤ 9223372036854775807 := hn
  by_cases h : n ≤ L
  · have hq : ¬ (L : Int) - (n : Int) < 0 := by omega
    have HZ : Hid (Left L n ((L : Int) - (n : Int))) := .inr (by omega)
    have hw : IntKind.i64.wrap ((L : Int) - (n : Int)) = (L : Int) - (n : Int) := IntWalk.i64_in _ (by omega)
    go_enter Try.func80, Try.ntmps80
    go_wp2
    go_ret
    exact ⟨⟨_, rfl, HZ.out⟩, rfl⟩
  · have hq : (L : Int) - (n : Int) < 0 := by omega
    have HZ : Hid (Left L n (-1)) := .inl rfl
    have hw : IntKind.i64.wrap ((L : Int) - (n : Int)) = (L : Int) - (n : Int) := IntWalk.i64_in _ (by omega)
    go_enter Try.func80, Try.ntmps80
    go_wp2
    go_ret
    exact ⟨⟨_, rfl, HZ.out⟩, rfl⟩
theorem szSyncBeatS_any (A : Option Addr) (n c L : Nat) (w : World) (hn : n ≤ maxLen) (hL : L ≤ 1099511627776) :
    Calls Try.prog 82 #[.slice A n c, .int .i64 (L : Int)] w fun e w' => (∃ r, e = .returned (.int .i64 r) ∧ Left L n r) ∧ w = w' := by
  have hn2 : n ≤ 9223372036854775807 := hn
  by_cases h : n ≤ L
  · have hq : ¬ (L : Int) - (n : Int) < 0 := by omega
    have HZ : Hid (Left L n ((L : Int) - (n : Int))) := .inr (by omega)
    have hw : IntKind.i64.wrap ((L : Int) - (n : Int)) = (L : Int) - (n : Int) := IntWalk.i64_in _ (by omega)
    go_enter Try.func82, Try.ntmps82
    go_wp2
    go_ret
    exact ⟨⟨_, rfl, HZ.out⟩, rfl⟩
  · have hq : (L : Int) - (n : Int) < 0 := by omega
    have HZ : Hid (Left L n (-1)) := .inl rfl
    have hw : IntKind.i64.wrap ((L : Int) - (n : Int)) = (L : Int) - (n : Int) := IntWalk.i64_in _ (by omega)
    go_enter Try.func82, Try.ntmps82
    go_wp2
    go_ret
    exact ⟨⟨_, rfl, HZ.out⟩, rfl⟩
theorem szPassThrowS_any (A : Option Addr) (n c L : Nat) (w : World) (hn : n ≤ maxLen) (hL : L ≤ 1099511627776) :
    Calls Try.prog 170 #[.slice A n c, .int .i64 (L : Int)] w fun e w' => (∃ r, e = .returned (.int .i64 r) ∧ Left L n r) ∧ w = w' := by
  have hn2 : n ≤ 9223372036854775807 := hn
  by_cases h : n ≤ L
  · have hq : ¬ (L : Int) - (n : Int) < 0 := by omega
    have HZ : Hid (Left L n ((L : Int) - (n : Int))) := .inr (by omega)
    have hw : IntKind.i64.wrap ((L : Int) - (n : Int)) = (L : Int) - (n : Int) := IntWalk.i64_in _ (by omega)
    go_enter Try.func170, Try.ntmps170
    go_wp2
    go_ret
    exact ⟨⟨_, rfl, HZ.out⟩, rfl⟩
  · have hq : (L : Int) - (n : Int) < 0 := by omega
    have HZ : Hid (Left L n (-1)) := .inl rfl
    have hw : IntKind.i64.wrap ((L : Int) - (n : Int)) = (L : Int) - (n : Int) := IntWalk.i64_in _ (by omega)
    go_enter Try.func170, Try.ntmps170
    go_wp2
    go_ret
    exact ⟨⟨_, rfl, HZ.out⟩, rfl⟩
theorem szInt64SS_any (A : Option Addr) (n c L : Nat) (rows : List (List Int)) (w : World) (hn : n ≤ maxLen) (hlr : ∀ r ∈ rows, r.length ≤ maxLen) (hL : L ≤ 1099511627776) (h : RdG w w.heap.size A n rows) :
    Calls Try.prog 169 #[.slice A n c, .int .i64 (L : Int)] w fun e w' => (∃ r, e = .returned (.int .i64 r) ∧ Left L (n + tot rows) r) ∧ w = w' := by
  have hn2 : n ≤ 9223372036854775807 := hn
  by_cases hc : n ≤ L
  · have hq : ¬ (L : Int) - (n : Int) < 0 := by omega
    have hw : IntKind.i64.wrap ((L : Int) - (n : Int)) = (L : Int) - (n : Int) := IntWalk.i64_in _ (by omega)
    obtain ⟨X, hX⟩ : ∃ X : Nat, (L : Int) - (n : Int) = (X : Int) := ⟨L - n, by omega⟩
    have HX0 : Hid (X + n + tot (rows.take 0) ≤ L) := by show _ ≤ _; rw [List.take_zero, tot]; omega
    have HR := hid h
    have HLR := hid hlr
    have hlen := hid h.len
    have HE := hid (fun (k x : Nat) (hk : ¬ k < n) (hx : x + n + tot (rows.take k) ≤ L) => show Left L (n + tot rows) (x : Int) from .inr (by rw [List.take_of_length_le (by rw [hlen.out]; omega)] at hx; omega))
    have HM : Hid (Left L (n + tot rows) (-1)) := .inl rfl
    clear h hlr
    go_enter Try.func169, Try.ntmps169
    go_wp2
    clear hq hw hX
    go_loopw [1, 5] (fun m i wr => Hid (∃ (k x : Nat), k ≤ n ∧ i = .int .i64 k ∧ m = .int .i64 (x : Int) ∧ x + n + tot (rows.take k) ≤ L ∧ wr = w)) (fun _ i _ => n - (intOf i).toNat)
    case atStart => exact hid ⟨0, X, Nat.zero_le _, rfl, by first | rfl | trivial, HX0.out, rfl⟩
    case round =>
      obtain ⟨k, x, hk, rfl, rfl, hx, rfl⟩ := hrel.out
      clear hrel
      by_cases hlt : k < n
      · obtain ⟨b, off, row, Ai, ci, rfl, hb, hxr, hd, hcl, hrow⟩ := HR.out.at_ hlt
        have hC := hid (szInt64S_any Ai row.length ci x wr (HLR.out row (List.mem_of_getElem? hxr)) (by omega))
        have HT := hid (tot_step rows k row hxr)
        have HXX := hid hx
        clear hxr hd hrow hx
        go_wp2_with fail
        refine hC.out.mono ?_
        rintro e w1 ⟨⟨r, rfl, hr⟩, rfl⟩
        rcases hr with rfl | ⟨r0, hr⟩
        · clear hC
          go_wp2
          go_ret
          exact ⟨⟨_, rfl, HM.out⟩, by first | rfl | trivial⟩
        · obtain ⟨y, rfl⟩ := Int.eq_ofNat_of_zero_le r0
          have HY : Hid (y + n + tot (rows.take (k + 1)) ≤ L) := by show _ ≤ _; rw [HT.out]; have := HXX.out; omega
          have hq : ¬ (y : Int) < 0 := by omega
          clear hC hr
          go_wp2
          go_roundw
          case rel => exact hid ⟨k + 1, y, by omega, by go_num, rfl, HY.out, by first | rfl | trivial⟩
          case measure => simp [intOf]; omega
      · have HZ := hid (HE.out k x hlt hx)
        clear hx
        go_wp2
        go_ret
        exact ⟨⟨_, rfl, HZ.out⟩, by first | rfl | trivial⟩
  · have hq : (L : Int) - (n : Int) < 0 := by omega
    have HZ : Hid (Left L (n + tot rows) (-1)) := .inl rfl
    have hw : IntKind.i64.wrap ((L : Int) - (n : Int)) = (L : Int) - (n : Int) := IntWalk.i64_in _ (by omega)
    clear h hlr
    go_enter Try.func169, Try.ntmps169
    go_wp2
    go_ret
    exact ⟨⟨_, rfl, HZ.out⟩, rfl⟩
theorem szMulti_any (A : Option Addr) (n c L : Nat) (rows : List (List Int)) (w : World) (hn : n ≤ maxLen) (hlr : ∀ r ∈ rows, r.length ≤ maxLen) (hL : L ≤ 1099511627776) (h : RdG w w.heap.size A n rows) :
    Calls Try.prog 81 #[.agg #[.slice A n c], .int .i64 (L : Int)] w fun e w' => (∃ r, e = .returned (.int .i64 r) ∧ Left L (n + tot rows) r) ∧ Below w.heap.size w w' := by
  have hbW : Below w.heap.size w (w.alloc (Obj.cells #[.slice A n c] 25)) := (by repeat' (first | exact Below.refl _ _ | (with_reducible assumption) | (with_reducible refine Below.alloc ?_ ?_ _) | (with_reducible refine Below.setCell ?_ ?_ _) | (with_reducible refine Below.drew ?_) | (with_reducible refine below_drewN ?_ _) | (refine Below.trans ?_ (Below.mono (by assumption) ?_)) | (with_reducible exact Nat.le_refl _) | (with_reducible assumption) | (exact Below.size (by assumption)) | omega | go_size | (simp at *; omega)))
  have hC := hid (szInt64SS_any A n c L rows (w.alloc (Obj.cells #[.slice A n c] 25)) hn hlr hL ((h.below hbW (Nat.le_refl _)).more hbW.size))
  have HB := hid hbW
  have HM : Hid (Left L (n + tot rows) (-1)) := .inl rfl
  clear h hbW hlr
  go_enter Try.func81, Try.ntmps81
  go_wp2_with fail
  refine hC.out.mono ?_
  rintro e w1 ⟨⟨r, rfl, hr⟩, rfl⟩
  have HR := hid hr
  rcases hr with rfl | ⟨r0, hr⟩
  · clear hC
    go_wp2
    go_ret
    exact ⟨⟨_, rfl, HM.out⟩, HB.out⟩
  · have hq : ¬ r < 0 := by omega
    clear hC hr
    go_wp2
    go_ret
    exact ⟨⟨_, rfl, HR.out⟩, HB.out⟩
theorem Left.two {L n m : Nat} {x : Nat} {r : Int} (h : Left L n (x : Int)) (k : Left x m r) : Left L (n + m) r := by
  rcases h with h | h
  · omega
  · rcases k with k | k
    · exact .inl k
    · exact .inr (by omega)
theorem szPassing_any (A B : Option Addr) (n c m d L : Nat) (w : World) (hn : n ≤ maxLen) (hm : m ≤ maxLen) (hL : L ≤ 1099511627776) :
    Calls Try.prog 83 #[.agg #[.slice A n c, .slice B m d], .int .i64 (L : Int)] w fun e w' => (∃ r, e = .returned (.int .i64 r) ∧ Left L (n + m) r) ∧ Below w.heap.size w w' := by
  have hC := hid (fun w1 => szPassThrowS_any A n c L w1 hn hL)
  have hD := hid (fun (x : Nat) (hx : x ≤ 1099511627776) w1 => szPassThrowS_any B m d x w1 hm hx)
  have HM : Hid (Left L (n + m) (-1)) := .inl rfl
  go_enter Try.func83, Try.ntmps83
  go_wp2_with fail
  refine (hC.out _).mono ?_
  rintro e w1 ⟨⟨r, rfl, hr⟩, rfl⟩
  have HR := hid hr
  rcases hr with rfl | ⟨r0, hr⟩
  · clear hC hD
    go_wp2
    go_ret
    exact ⟨⟨_, rfl, HM.out⟩, (by repeat' (first | exact Below.refl _ _ | (with_reducible assumption) | (with_reducible refine Below.alloc ?_ ?_ _) | (with_reducible refine Below.setCell ?_ ?_ _) | (with_reducible refine Below.drew ?_) | (with_reducible refine below_drewN ?_ _) | (refine Below.trans ?_ (Below.mono (by assumption) ?_)) | (with_reducible exact Nat.le_refl _) | (with_reducible assumption) | (exact Below.size (by assumption)) | omega | go_size | (simp at *; omega)))⟩
  · obtain ⟨x, rfl⟩ := Int.eq_ofNat_of_zero_le r0
    have hq : ¬ (x : Int) < 0 := by omega
    have hx : x ≤ 1099511627776 := by omega
    clear hC hr
    go_wp2_with fail
    refine (hD.out x hx _).mono ?_
    rintro e w1 ⟨⟨r, rfl, hr⟩, rfl⟩
    have HR2 := hid (HR.out.two hr)
    rcases hr with rfl | ⟨r1, hr⟩
    · clear hD
      go_wp2
      go_ret
      exact ⟨⟨_, rfl, HM.out⟩, (by repeat' (first | exact Below.refl _ _ | (with_reducible assumption) | (with_reducible refine Below.alloc ?_ ?_ _) | (with_reducible refine Below.setCell ?_ ?_ _) | (with_reducible refine Below.drew ?_) | (with_reducible refine below_drewN ?_ _) | (refine Below.trans ?_ (Below.mono (by assumption) ?_)) | (with_reducible exact Nat.le_refl _) | (with_reducible assumption) | (exact Below.size (by assumption)) | omega | go_size | (simp at *; omega)))⟩
    · have hq2 : ¬ r < 0 := by omega
      clear hD hr
      go_wp2
      go_ret
      exact ⟨⟨_, rfl, HR2.out⟩, (by repeat' (first | exact Below.refl _ _ | (with_reducible assumption) | (with_reducible refine Below.alloc ?_ ?_ _) | (with_reducible refine Below.setCell ?_ ?_ _) | (with_reducible refine Below.drew ?_) | (with_reducible refine below_drewN ?_ _) | (refine Below.trans ?_ (Below.mono (by assumption) ?_)) | (with_reducible exact Nat.le_refl _) | (with_reducible assumption) | (exact Below.size (by assumption)) | omega | go_size | (simp at *; omega)))⟩
end Go.Proofs.Ytkglkpohbckpcaa

/- Contracts of the laws' own helpers that count and copy arguments: notations. -/
namespace Go.Proofs.Ytkglkpohbckpcaa
open Go.RowKit
set_option linter.unusedVariables false

set_option maxRecDepth 100000 in
set_option maxHeartbeats 2000000 in
theorem szNotation_any (k : Int) (A A2 A3 A4 A5 : Option Addr) (n1 n2 n3 n4 n5 c c2 c3 c4 c5 L : Nat) (rows : List (List Int)) (w : World) (h1 : n1 ≤ maxLen) (h2 : n2 ≤ maxLen) (hlr : ∀ r ∈ rows, r.length ≤ maxLen) (h3 : n3 ≤ maxLen) (h4 : n4 ≤ maxLen) (h5 : n5 ≤ maxLen) (hL : L ≤ 1099511627776) (h : RdG w w.heap.size A2 n2 rows) :
    Calls Try.prog 13 #[.agg #[.int .i64 k, .slice A n1 c, .slice A2 n2 c2, .slice A3 n3 c3, .slice A4 n4 c4, .slice A5 n5 c5], .int .i64 (L : Int)] w fun e w' => (∃ r, e = .returned (.int .i64 r) ∧ Left L (n1 + (n2 + tot rows) + n3 + (n4 + n5)) r) ∧ Below w.heap.size w w' := by
  have hX := Bx.new w 31 #[.int .i64 k, .slice A n1 c, .slice A2 n2 c2, .slice A3 n3 c3, .slice A4 n4 c4, .slice A5 n5 c5]
  have hZ : (w.alloc (Obj.cells #[.int .i64 k, .slice A n1 c, .slice A2 n2 c2, .slice A3 n3 c3, .slice A4 n4 c4, .slice A5 n5 c5] 31)).heap.size = w.heap.size + 1 := by simp
  have hB0 : Below w.heap.size w (w.alloc (Obj.cells #[.int .i64 k, .slice A n1 c, .slice A2 n2 c2, .slice A3 n3 c3, .slice A4 n4 c4, .slice A5 n5 c5] 31)) := Below.alloc (Below.refl _ _) (Nat.le_refl _) _
  have hC1 := hid (szInt64S_any A n1 c L (w.alloc (Obj.cells #[.int .i64 k, .slice A n1 c, .slice A2 n2 c2, .slice A3 n3 c3, .slice A4 n4 c4, .slice A5 n5 c5] 31)) h1 hL)
  have hC2 := hid (fun (x : Nat) (hx : x ≤ 1099511627776) => szMulti_any A2 n2 c2 x rows _ h2 hlr hx ((h.below hB0 (Nat.le_refl _)).more hB0.size))
  have hC3 := hid (fun (x : Nat) (hx : x ≤ 1099511627776) (w1 : World) => szSyncBeatS_any A3 n3 c3 x w1 h3 hx)
  have hC4 := hid (fun (x : Nat) (hx : x ≤ 1099511627776) (w1 : World) => szPassing_any A4 A5 n4 c4 n5 c5 x w1 h4 h5 hx)
  have HM : Hid (Left L (n1 + (n2 + tot rows) + n3 + (n4 + n5)) (-1)) := .inl rfl
  have HB0 := hid hB0
  have HX := hid hX
  have HZ := hid hZ
  clear h hB0 hX hZ hlr
  go_enter Try.func13, Try.ntmps13
  go_wp2_with fail
  refine hC1.out.mono ?_
  rintro e w1 ⟨⟨r, rfl, hr⟩, rfl⟩
  have HR := hid hr
  rcases hr with rfl | ⟨r0, hr⟩
  · have hB := HB0.out
    clear hC1 hC2 hC3 hC4 HX
    go_wp2
    go_ret
    exact ⟨⟨_, rfl, HM.out⟩, hB⟩
  · obtain ⟨x, rfl⟩ := Int.eq_ofNat_of_zero_le r0
    have hq : ¬ (x : Int) < 0 := by omega
    have hx : x ≤ 1099511627776 := by omega
    clear hC1 hr
    go_wp2_with fail
    refine (hC2.out x hx).mono ?_
    rintro e w2 ⟨⟨r, rfl, hr⟩, hb2⟩
    have HR2 := hid (HR.out.two hr)
    have hB2 := HB0.out.trans (hb2.mono HB0.out.size)
    have hX2 := HX.out.below hb2 HX.out.lt
    obtain ⟨⟨a0, a1, a2, a3, a4, a5⟩, -⟩ := zc hX2
    have hl2 := hX2.lt
    rcases hr with rfl | ⟨r1, hr⟩
    · clear hC2 hC3 hC4 HX hX2 hb2
      go_wp2
      go_ret
      exact ⟨⟨_, rfl, HM.out⟩, hB2⟩
    · obtain ⟨y, rfl⟩ := Int.eq_ofNat_of_zero_le r1
      have hq2 : ¬ (y : Int) < 0 := by omega
      have hy : y ≤ 1099511627776 := by omega
      clear hC2 hr HX hX2 hb2
      go_wp2_with fail
      refine (hC3.out y hy _).mono ?_
      rintro e w3 ⟨⟨r, rfl, hr⟩, rfl⟩
      have HR3 := hid (HR2.out.two hr)
      rcases hr with rfl | ⟨r2, hr⟩
      · clear hC3 hC4
        go_wp2
        go_ret
        exact ⟨⟨_, rfl, HM.out⟩, hB2⟩
      · obtain ⟨z, rfl⟩ := Int.eq_ofNat_of_zero_le r2
        have hq3 : ¬ (z : Int) < 0 := by omega
        have hz : z ≤ 1099511627776 := by omega
        clear hC3 hr
        go_wp2_with fail
        refine (hC4.out z hz _).mono ?_
        rintro e w4 ⟨⟨r, rfl, hr⟩, hb4⟩
        have HR4 := hid (HR3.out.two hr)
        have hB4 := bchain hB2 hb4
        clear a0 a1 a2 a3 a4 a5 hb4
        rcases hr with rfl | ⟨r3, hr⟩
        · clear hC4
          go_wp2
          go_ret
          exact ⟨⟨_, rfl, HM.out⟩, hB4⟩
        · have hq4 : ¬ r < 0 := by omega
          clear hC4 hr
          go_wp2
          go_ret
          exact ⟨⟨_, rfl, HR4.out⟩, hB4⟩
end Go.Proofs.Ytkglkpohbckpcaa

/- Contracts of the laws' own helpers that copy arguments: multiplex, synchronous and passing patterns, notations. -/
namespace Go.Proofs.Ytkglkpohbckpcaa
open Go.RowKit
set_option linter.unusedVariables false

/-- A slice of slices that is being filled. -/
def GW (w : World) (base : Nat) (v : Value) (n : Nat) (rows : List (List Int)) : Prop :=
  ∃ vs, w.ownsRow base 22 1 v n vs ∧ ∀ (j : Nat) (row : List Int), rows[j]? = some row → ∃ Aj cj, vs[j]? = some (.slice Aj row.length cj) ∧ w.ownsRow base 2 1 (.slice Aj row.length cj) row.length (ints row)
theorem GW.start {w : World} {base n : Nat} {v : Value} {us : List Value} (h : w.ownsRow base 22 1 v n us) (rows : List (List Int)) : GW w base v n (rows.take 0) := ⟨us, h, fun j row h => by simp at h⟩
theorem GW.below {w w' : World} {base n : Nat} {v : Value} {rows : List (List Int)} (h : GW w base v n rows) (hb : Below w.heap.size w w') : GW w' base v n rows := by
  obtain ⟨vs, h1, h2⟩ := h
  refine ⟨vs, own_below h1 hb, fun j row hj => ?_⟩
  obtain ⟨Aj, cj, h3, h4⟩ := h2 j row hj
  exact ⟨Aj, cj, h3, own_below h4 hb⟩
theorem GW.put {w : World} {base n c g k ci : Nat} {Ai : Option Addr} {rows : List (List Int)} {row : List Int} (h : GW w base (.slice (some ⟨g, 0, none⟩) n c) n (rows.take k)) (hk : k < n) (hrow : rows[k]? = some row) (hr : w.ownsRow base 2 1 (.slice Ai row.length ci) row.length (ints row)) :
    (∃ u, w.cell? ⟨g, k, none⟩ = some u) ∧ w.frozen? ⟨g, k, none⟩ = false ∧ GW (w.setCell ⟨g, k, none⟩ (.slice Ai row.length ci)) base (.slice (some ⟨g, 0, none⟩) n c) n (rows.take (k + 1)) := by
  obtain ⟨vs, h1, h2⟩ := h
  have hl := h1.1
  refine ⟨⟨_, (h1.cellAt k (by omega)).trans (List.getElem?_eq_getElem (by omega))⟩, h1.frozenAt k, ?_⟩
  obtain ⟨h3, h4⟩ := h1.stored k (.slice Ai row.length ci)
  refine ⟨_, h3, fun j r hj => ?_⟩
  rw [List.getElem?_take] at hj
  split at hj
  · rename_i hjk
    by_cases hjk2 : j = k
    · subst hjk2
      rw [hrow] at hj
      obtain rfl := Option.some.inj hj
      exact ⟨Ai, ci, by rw [List.getElem?_set_self (by omega)], own_types hr h1 (by decide) h4⟩
    · obtain ⟨Aj, cj, h5, h6⟩ := h2 j r (by rw [List.getElem?_take, if_pos (by omega)]; exact hj)
      exact ⟨Aj, cj, by rw [List.getElem?_set_ne (fun e => hjk2 e.symm)]; exact h5, own_types h6 h1 (by decide) h4⟩
  · cases hj
theorem GW.setq {w : World} {base n : Nat} {v : Value} {rows : List (List Int)} (h : GW w base v n rows) {p : Addr} (hp : p.block < base) (u : Value) : GW (w.setCell p u) base v n rows := by
  obtain ⟨vs, h1, h2⟩ := h
  refine ⟨vs, own_put0 h1 hp u, fun j row hj => ?_⟩
  obtain ⟨Aj, cj, h3, h4⟩ := h2 j row hj
  exact ⟨Aj, cj, h3, own_put0 h4 hp u⟩
theorem GW.more {w : World} {base base' n : Nat} {v : Value} {rows : List (List Int)} (h : GW w base v n rows) (hb : base' ≤ base) : GW w base' v n rows := by
  obtain ⟨vs, h1, h2⟩ := h
  refine ⟨vs, own_more h1 hb, fun j row hj => ?_⟩
  obtain ⟨Aj, cj, h3, h4⟩ := h2 j row hj
  exact ⟨Aj, cj, h3, own_more h4 hb⟩
theorem GW.read {w : World} {base n c : Nat} {A : Option Addr} {rows : List (List Int)} (h : GW w base (.slice A n c) n rows) (hl : rows.length = n) : RdG w w.heap.size A n rows := by
  obtain ⟨vs, h1, h2⟩ := h
  refine ⟨hl, fun h0 => ?_⟩
  obtain ⟨b, off, e, hb, hc⟩ := (Rd.of_own h1).2 h0
  refine ⟨b, off, e, hb, fun j row hj => ?_⟩
  obtain ⟨Aj, cj, h3, h4⟩ := h2 j row hj
  exact ⟨Aj, cj, hc j _ h3, Rd.of_own h4⟩
set_option maxHeartbeats 1000000 in
theorem toInt64SS_any (A : Option Addr) (n c : Nat) (rows : List (List Int)) (w : World) (hn : n ≤ 1099511627776) (hlr : ∀ r ∈ rows, r.length ≤ 1099511627776) (h : RdG w w.heap.size A n rows) :
    Calls Try.prog 172 #[.slice A n c] w fun e w' => (∃ A' c', e = .returned (.slice A' n c') ∧ GW w' w.heap.size (.slice A' n c') n rows) ∧ Below w.heap.size w w' := by
  have HR := hid h
  have HLR := hid hlr
  have hlen := hid h.len
  clear h hlr
  go_enter Try.func172, Try.ntmps172
  go_wp2_with (at_make; refine make_us w.heap.size Try.underlying23 inf_row rfl _ _ rfl .i64 .i64 n rfl rfl hn (by omega) (Nat.le_refl _) ?_; intro us w1 ho1 hb1)
  have hG0 := hid (GW.start ho1 rows)
  clear ho1
  go_loopw [4] (fun i wr => Hid (∃ k : Nat, k ≤ n ∧ i = .int .i64 k ∧ GW wr w.heap.size (.slice (some ⟨w.heap.size, 0, none⟩) n n) n (rows.take k) ∧ Below w.heap.size w wr)) (fun i _ => n - (intOf i).toNat)
  case atStart => exact hid ⟨0, Nat.zero_le _, rfl, hG0.out, hb1⟩
  case round =>
    obtain ⟨k, hk, rfl, hG, hb0⟩ := hrel.out
    clear hrel hG0 hb1
    have hz := hb0.size
    by_cases hlt : k < n
    · obtain ⟨b, off, row, Ai, ci, rfl, hb, hx, hd, hcl, hrow⟩ := HR.out.at_ hlt
      have hcr : wr.cell? ⟨b, off + k, none⟩ = some (.slice Ai row.length ci) := (hb0.cell (p := ⟨b, off + k, none⟩) hb).trans hcl
      have hbw : b < wr.heap.size := by omega
      have hC := hid (toInt64S_any Ai row.length ci row wr (HLR.out row (List.mem_of_getElem? hx)) ((hrow.below hb0 (Nat.le_refl _)).more hz))
      have HX := hid hx
      have HG := hid hG
      clear hx hd hcl hrow hb hG
      go_wp2_with fail
      refine hC.out.mono ?_
      rintro e w2 ⟨v, rfl, ho2, hb2⟩
      obtain ⟨Aj, cj, rfl⟩ := own_form ho2
      obtain ⟨⟨u, hcu⟩, hfu, hG2⟩ := (HG.out.below hb2).put hlt HX.out (own_more ho2 hz)
      have HG2 := hid hG2
      have hz2 := Nat.le_trans hz hb2.size
      have hb3 : Below w.heap.size w w2 := bchain hb0 hb2
      clear hC HG hG2 ho2 hb2 hcr
      go_wp2
      go_roundw
      case rel => exact hid ⟨k + 1, by omega, by go_num, HG2.out, (by repeat' (first | exact Below.refl _ _ | (with_reducible assumption) | (with_reducible refine Below.alloc ?_ ?_ _) | (with_reducible refine Below.setCell ?_ ?_ _) | (with_reducible refine Below.drew ?_) | (with_reducible refine below_drewN ?_ _) | (refine Below.trans ?_ (Below.mono (by assumption) ?_)) | (with_reducible exact Nat.le_refl _) | (with_reducible assumption) | (exact Below.size (by assumption)) | omega | go_size | (simp at *; omega)))⟩
      case measure => simp [intOf]; omega
    · have hkn : k = n := by omega
      rw [List.take_of_length_le (by rw [hlen.out]; omega)] at hG
      have HRD := hid hG
      clear hG hkn
      go_wp2
      go_ret
      exact ⟨⟨_, _, rfl, HRD.out⟩, hb0⟩
set_option maxHeartbeats 1000000 in
theorem toMulti_any (A : Option Addr) (n c : Nat) (rows : List (List Int)) (w : World) (hn : n ≤ 1099511627776) (hlr : ∀ r ∈ rows, r.length ≤ 1099511627776) (h : RdG w w.heap.size A n rows) :
    Calls Try.prog 86 #[.agg #[.slice A n c]] w fun e w' => (∃ A' c', e = .returned (.agg #[.slice A' n c']) ∧ GW w' w.heap.size (.slice A' n c') n rows) ∧ Below w.heap.size w w' := by
  obtain ⟨W, hW⟩ : ∃ W, ((w.alloc (Obj.cells #[.slice A n c] 25)).alloc (Obj.cells #[.slice none 0 0] 34)).alloc (Obj.cells #[.slice none 0 0] 34) = W := ⟨_, rfl⟩
  have hbW : Below w.heap.size w W := by rw [← hW]; exact (by repeat' (first | exact Below.refl _ _ | (with_reducible assumption) | (with_reducible refine Below.alloc ?_ ?_ _) | (with_reducible refine Below.setCell ?_ ?_ _) | (with_reducible refine Below.drew ?_) | (with_reducible refine below_drewN ?_ _) | (refine Below.trans ?_ (Below.mono (by assumption) ?_)) | (with_reducible exact Nat.le_refl _) | (with_reducible assumption) | (exact Below.size (by assumption)) | omega | go_size | (simp at *; omega)))
  have hC := toInt64SS_any A n c rows W hn hlr ((h.below hbW (Nat.le_refl _)).more hbW.size)
  have hZ : W.heap.size = w.heap.size + 3 := by rw [← hW]; simp
  have hX : Bx W (w.heap.size + 1) 34 #[.slice none 0 0] := by
    rw [← hW]
    have := Bx.new (w.alloc (Obj.cells #[.slice A n c] 25)) 34 #[.slice none 0 0]
    rw [show (w.alloc (Obj.cells #[.slice A n c] 25)).heap.size = w.heap.size + 1 by simp] at this
    exact this.alloc _
  have hY : Bx W (w.heap.size + 2) 34 #[.slice none 0 0] := by
    rw [← hW]
    have := Bx.new ((w.alloc (Obj.cells #[.slice A n c] 25)).alloc (Obj.cells #[.slice none 0 0] 34)) 34 #[.slice none 0 0]
    rw [show ((w.alloc (Obj.cells #[.slice A n c] 25)).alloc (Obj.cells #[.slice none 0 0] 34)).heap.size = w.heap.size + 2 by simp] at this
    exact this
  rw [← hW] at hC
  have HC := hid hC
  have HBW := hid hbW
  have HX := hid hX
  have HY := hid hY
  have HZ := hid hZ
  have HW := hid hW
  clear hC hbW hX hY hZ hW h hlr
  go_enter Try.func86, Try.ntmps86
  go_wp2_with fail
  refine HC.out.mono ?_
  rw [HW.out]
  rintro e w1 ⟨⟨A', c', rfl, hrd⟩, hb1⟩
  rw [HZ.out] at hrd
  have HRD := hid hrd
  have z1 := hb1.size
  rw [HZ.out] at z1
  have hX1 := HX.out.below hb1 (by rw [HZ.out]; omega)
  have hY1 := HY.out.below hb1 (by rw [HZ.out]; omega)
  have hB1 := HBW.out.trans (hb1.mono HBW.out.size)
  have a0 : w1.cell? ⟨w.heap.size + 1, 0, none⟩ = some (.slice none 0 0) := hX1.cell 0
  have b0 : w1.cell? ⟨w.heap.size + 2, 0, none⟩ = some (.slice none 0 0) := hY1.cell 0
  have f0 := hX1.frozen 0
  have g0 := hY1.frozen 0
  have l1 : w.heap.size + 1 < w1.heap.size := by omega
  have l2 : w.heap.size + 2 < w1.heap.size := by omega
  clear hrd hb1 HC HBW HX HY HZ HW hX1 hY1
  go_wp2
  refine bodyPost_ret (v := .agg #[.slice A' n c']) ?_ rfl ?_
  · simp (maxDischargeDepth := 8) [results, Try.results86, go_sem, *]
  refine ⟨⟨A', c', rfl, ?_⟩, (by repeat' (first | exact Below.refl _ _ | (with_reducible assumption) | (with_reducible refine Below.alloc ?_ ?_ _) | (with_reducible refine Below.setCell ?_ ?_ _) | (with_reducible refine Below.drew ?_) | (with_reducible refine below_drewN ?_ _) | (refine Below.trans ?_ (Below.mono (by assumption) ?_)) | (with_reducible exact Nat.le_refl _) | (with_reducible assumption) | (exact Below.size (by assumption)) | omega | go_size | (simp at *; omega)))⟩
  refine GW.more (base := w.heap.size + 3) ?_ (by omega)
  repeat' (first | (with_reducible exact HRD.out) | (with_reducible refine GW.setq ?_ ?_ _) | (show w.heap.size + 1 < _; omega) | (show w.heap.size + 2 < _; omega))
end Go.Proofs.Ytkglkpohbckpcaa

/- Contracts of the laws' own helpers that copy arguments: throws, beats, passing patterns. -/
namespace Go.Proofs.Ytkglkpohbckpcaa
open Go.RowKit
set_option linter.unusedVariables false

theorem toSyncThrow_any (x : Int) (b : Bool) (w : World) :
    Calls Try.prog 216 #[.agg #[.int .i64 x, .bool b]] w fun e w' => e = .returned (.agg #[.int .i64 x, .bool b]) ∧ Below w.heap.size w w' := by
  go_enter Try.func216, Try.ntmps216
  go_wp2
  refine bodyPost_ret (v := .agg #[.int .i64 x, .bool b]) ?_ rfl ?_
  · simp (maxDischargeDepth := 8) [results, Try.results216, go_sem, *]
  exact ⟨rfl, (by repeat' (first | exact Below.refl _ _ | (with_reducible assumption) | (with_reducible refine Below.alloc ?_ ?_ _) | (with_reducible refine Below.setCell ?_ ?_ _) | (with_reducible refine Below.drew ?_) | (with_reducible refine below_drewN ?_ _) | (refine Below.trans ?_ (Below.mono (by assumption) ?_)) | (with_reducible exact Nat.le_refl _) | (with_reducible assumption) | (exact Below.size (by assumption)) | omega | go_size | (simp at *; omega)))⟩
theorem toPassThrow_any (x : Int) (b : Bool) (w : World) :
    Calls Try.prog 217 #[.agg #[.int .i64 x, .bool b]] w fun e w' => e = .returned (.agg #[.int .i64 x, .bool b]) ∧ Below w.heap.size w w' := by
  go_enter Try.func217, Try.ntmps217
  go_wp2
  refine bodyPost_ret (v := .agg #[.int .i64 x, .bool b]) ?_ rfl ?_
  · simp (maxDischargeDepth := 8) [results, Try.results217, go_sem, *]
  exact ⟨rfl, (by repeat' (first | exact Below.refl _ _ | (with_reducible assumption) | (with_reducible refine Below.alloc ?_ ?_ _) | (with_reducible refine Below.setCell ?_ ?_ _) | (with_reducible refine Below.drew ?_) | (with_reducible refine below_drewN ?_ _) | (refine Below.trans ?_ (Below.mono (by assumption) ?_)) | (with_reducible exact Nat.le_refl _) | (with_reducible assumption) | (exact Below.size (by assumption)) | omega | go_size | (simp at *; omega)))⟩
theorem zc4 {w : World} {g : Nat} {t : TypeId} {v0 v1 v2 v3 : Value} (h : Bx w g t #[v0, v1, v2, v3]) :
    (w.cell? ⟨g, 0, none⟩ = some v0 ∧ w.cell? ⟨g, 1, none⟩ = some v1 ∧ w.cell? ⟨g, 2, none⟩ = some v2 ∧ w.cell? ⟨g, 3, none⟩ = some v3) ∧
    (w.frozen? ⟨g, 0, none⟩ = false ∧ w.frozen? ⟨g, 1, none⟩ = false ∧ w.frozen? ⟨g, 2, none⟩ = false ∧ w.frozen? ⟨g, 3, none⟩ = false) :=
  ⟨⟨h.cell 0, h.cell 1, h.cell 2, h.cell 3⟩, ⟨h.frozen 0, h.frozen 1, h.frozen 2, h.frozen 3⟩⟩
theorem zc2 {w : World} {g : Nat} {t : TypeId} {v0 v1 : Value} (h : Bx w g t #[v0, v1]) :
    (w.cell? ⟨g, 0, none⟩ = some v0 ∧ w.cell? ⟨g, 1, none⟩ = some v1) ∧ (w.frozen? ⟨g, 0, none⟩ = false ∧ w.frozen? ⟨g, 1, none⟩ = false) :=
  ⟨⟨h.cell 0, h.cell 1⟩, ⟨h.frozen 0, h.frozen 1⟩⟩
set_option maxHeartbeats 1000000 in
theorem toSyncBeat_any (x : Int) (b : Bool) (y : Int) (d : Bool) (w : World) :
    Calls Try.prog 173 #[.agg #[.int .i64 x, .bool b, .int .i64 y, .bool d]] w fun e w' => e = .returned (.agg #[.int .i64 x, .bool b, .int .i64 y, .bool d]) ∧ Below w.heap.size w w' := by
  obtain ⟨W, hW⟩ : ∃ W, ((w.alloc (Obj.cells #[.int .i64 x, .bool b, .int .i64 y, .bool d] 166)).alloc (Obj.cells #[.int .i64 0, .bool false, .int .i64 0, .bool false] 162)).alloc (Obj.cells #[.int .i64 0, .bool false, .int .i64 0, .bool false] 162) = W := ⟨_, rfl⟩
  have hbW : Below w.heap.size w W := by rw [← hW]; exact (by repeat' (first | exact Below.refl _ _ | (with_reducible assumption) | (with_reducible refine Below.alloc ?_ ?_ _) | (with_reducible refine Below.setCell ?_ ?_ _) | (with_reducible refine Below.drew ?_) | (with_reducible refine below_drewN ?_ _) | (refine Below.trans ?_ (Below.mono (by assumption) ?_)) | (with_reducible exact Nat.le_refl _) | (with_reducible assumption) | (exact Below.size (by assumption)) | omega | go_size | (simp at *; omega)))
  have hZ : W.heap.size = w.heap.size + 3 := by rw [← hW]; simp
  have hA : Bx W w.heap.size 166 #[.int .i64 x, .bool b, .int .i64 y, .bool d] := by rw [← hW]; exact ((Bx.new _ _ _).alloc _).alloc _
  have hX : Bx W (w.heap.size + 1) 162 #[.int .i64 0, .bool false, .int .i64 0, .bool false] := by
    rw [← hW]
    have := Bx.new (w.alloc (Obj.cells #[.int .i64 x, .bool b, .int .i64 y, .bool d] 166)) 162 #[.int .i64 0, .bool false, .int .i64 0, .bool false]
    rw [show (w.alloc (Obj.cells #[.int .i64 x, .bool b, .int .i64 y, .bool d] 166)).heap.size = w.heap.size + 1 by simp] at this
    exact this.alloc _
  have hY : Bx W (w.heap.size + 1 + 1) 162 #[.int .i64 0, .bool false, .int .i64 0, .bool false] := by
    rw [← hW]
    have := Bx.new ((w.alloc (Obj.cells #[.int .i64 x, .bool b, .int .i64 y, .bool d] 166)).alloc (Obj.cells #[.int .i64 0, .bool false, .int .i64 0, .bool false] 162)) 162 #[.int .i64 0, .bool false, .int .i64 0, .bool false]
    rw [show ((w.alloc (Obj.cells #[.int .i64 x, .bool b, .int .i64 y, .bool d] 166)).alloc (Obj.cells #[.int .i64 0, .bool false, .int .i64 0, .bool false] 162)).heap.size = w.heap.size + 1 + 1 by simp] at this
    exact this
  have hC := hid (toSyncThrow_any x b)
  have hD := hid (toSyncThrow_any y d)
  have HBW := hid hbW
  have HA := hid hA
  have HX := hid hX
  have HY := hid hY
  have HZ := hid hZ
  have HW := hid hW
  clear hbW hX hY hZ hW hA
  go_enter Try.func173, Try.ntmps173
  go_wp2_with fail
  refine (hC.out _).mono ?_
  rw [HW.out]
  rintro e w1 ⟨rfl, hb1⟩
  have z1 := hb1.size
  rw [HZ.out] at z1
  have hA1 := HA.out.below hb1 (by rw [HZ.out]; omega)
  have hX1 := HX.out.below hb1 (by rw [HZ.out]; omega)
  have hY1 := HY.out.below hb1 (by rw [HZ.out]; omega)
  have hB1 := HBW.out.trans (hb1.mono HBW.out.size)
  have hX2 := (hX1.far (p := ⟨w.heap.size + 1 + 1, 0, none⟩) (by show _ ≠ w.heap.size + 1 + 1; omega) (.int .i64 x)).far (p := ⟨w.heap.size + 1 + 1, 1, none⟩) (by show _ ≠ w.heap.size + 1 + 1; omega) (.bool b)
  have hA2 := (hA1.far (p := ⟨w.heap.size + 1 + 1, 0, none⟩) (by show _ ≠ w.heap.size + 1 + 1; omega) (.int .i64 x)).far (p := ⟨w.heap.size + 1 + 1, 1, none⟩) (by show _ ≠ w.heap.size + 1 + 1; omega) (.bool b)
  have hY2 := (hY1.set_ 0 (.int .i64 x)).set_ 1 (.bool b)
  replace hY2 : Bx ((w1.setCell ⟨w.heap.size + 1 + 1, 0, none⟩ (.int .i64 x)).setCell ⟨w.heap.size + 1 + 1, 1, none⟩ (.bool b)) (w.heap.size + 1 + 1) 162 #[.int .i64 x, .bool b, .int .i64 0, .bool false] := hY2
  have hB2 : Below w.heap.size w ((w1.setCell ⟨w.heap.size + 1 + 1, 0, none⟩ (.int .i64 x)).setCell ⟨w.heap.size + 1 + 1, 1, none⟩ (.bool b)) := (by repeat' (first | exact Below.refl _ _ | (with_reducible assumption) | (with_reducible refine Below.alloc ?_ ?_ _) | (with_reducible refine Below.setCell ?_ ?_ _) | (with_reducible refine Below.drew ?_) | (with_reducible refine below_drewN ?_ _) | (refine Below.trans ?_ (Below.mono (by assumption) ?_)) | (with_reducible exact Nat.le_refl _) | (with_reducible assumption) | (exact Below.size (by assumption)) | omega | go_size | (simp at *; omega)))
  have z2 : w.heap.size + 3 ≤ ((w1.setCell ⟨w.heap.size + 1 + 1, 0, none⟩ (.int .i64 x)).setCell ⟨w.heap.size + 1 + 1, 1, none⟩ (.bool b)).heap.size := by simpa using z1
  obtain ⟨⟨y0, y1, y2, y3⟩, ⟨f0, f1, f2, f3⟩⟩ := zc4 hY1
  obtain ⟨⟨a0, a1, a2, a3⟩, -⟩ := zc4 hA2
  have l1 : w.heap.size + 1 + 1 < w1.heap.size := by omega
  have HX2 := hid hX2
  have HY2 := hid hY2
  have HB2 := hid hB2
  have HZ2 := hid z2
  clear hb1 hC HBW HX HY HA HZ HW hX1 hY1 hA1 hX2 hY2 hA2 hB1 hB2 z2
  go_wp2_with fail
  refine (hD.out _).mono ?_
  rintro e w3 ⟨rfl, hb3⟩
  have hX3 := HX2.out.below hb3 (Nat.lt_of_lt_of_le (by omega) HZ2.out)
  have hY3 := HY2.out.below hb3 (Nat.lt_of_lt_of_le (by omega) HZ2.out)
  have hB3 := HB2.out.trans (hb3.mono HB2.out.size)
  have z3 := Nat.le_trans HZ2.out hb3.size
  obtain ⟨⟨p0, p1, p2, p3⟩, ⟨q0, q1, q2, q3⟩⟩ := zc4 hX3
  obtain ⟨⟨r0, r1, r2, r3⟩, ⟨s0, s1, s2, s3⟩⟩ := zc4 hY3
  have l2 : w.heap.size + 1 + 1 < w3.heap.size := by omega
  have l3 : w.heap.size + 1 < w3.heap.size := by omega
  clear hb3 hD HX2 HY2 HB2 HZ2 hX3 hY3 y0 y1 y2 y3 f0 f1 f2 f3 a0 a1 a2 a3 l1 z1
  go_wp2
  refine bodyPost_ret (v := .agg #[.int .i64 x, .bool b, .int .i64 y, .bool d]) ?_ rfl ?_
  · simp (maxDischargeDepth := 8) [results, Try.results173, go_sem, *]
  exact ⟨rfl, by repeat' (first | (with_reducible exact hB3) | (with_reducible refine Below.setCell ?_ ?_ _) | (dsimp only; omega))⟩
set_option maxHeartbeats 1000000 in
theorem toSyncBeatS_any (A : Option Addr) (n c : Nat) (q : List Beat) (w : World) (hn : n ≤ 1099511627776) (h : Rd w w.heap.size 4 A n (bts q)) :
    Calls Try.prog 87 #[.slice A n c] w fun e w' => (∃ A' c', e = .returned (.slice A' n c') ∧ w'.ownsRow w.heap.size 162 4 (.slice A' n c') n (bts q)) ∧ Below w.heap.size w w' := by
  have HR := hid h
  have hlen := hid h.bt_len
  clear h
  go_enter Try.func87, Try.ntmps87
  go_wp2_with (at_make; refine make_us w.heap.size Try.underlying35 inf_bt rfl _ _ rfl .i64 .i64 n rfl rfl hn (by omega) (Nat.le_refl _) ?_; intro us w1 ho1 hb1)
  have HUL := hid ho1.1
  have hst : Hid (w1.ownsRow w.heap.size 162 4 (.slice (some ⟨w.heap.size, 0, none⟩) n n) n (bts (q.take 0) ++ us.drop (0 * 4))) := ho1
  clear ho1
  go_loopw [4] (fun i wr => Hid (∃ k : Nat, k ≤ n ∧ i = .int .i64 k ∧ wr.ownsRow w.heap.size 162 4 (.slice (some ⟨w.heap.size, 0, none⟩) n n) n (bts (q.take k) ++ us.drop (k * 4)) ∧ Below w.heap.size w wr)) (fun i _ => n - (intOf i).toNat)
  case atStart => exact hid ⟨0, Nat.zero_le _, rfl, hst.out, hb1⟩
  case round =>
    obtain ⟨k, hk, rfl, ho, hb0⟩ := hrel.out
    clear hrel hst hb1
    have hz := hb0.size
    by_cases hlt : k < n
    · obtain ⟨b, off, x, rfl, hb, hx, hd, c0, c1, c2, c3⟩ := (HR.out.below hb0 (Nat.le_refl _)).bt_at hlt
      obtain ⟨⟨x1, x2⟩, ⟨x3, x4⟩⟩ := x
      have hbw : b < wr.heap.size := by omega
      have hC := hid (toSyncBeat_any x1 x2 x3 x4 wr)
      have HX := hid hx
      have HO := hid ho
      simp only at c0 c1 c2 c3
      clear hx hd hb ho
      go_wp2_with fail
      refine hC.out.mono ?_
      rintro e w2 ⟨rfl, hb2⟩
      have ho2 := own_below HO.out hb2
      have hPl : (bts (q.take k)).length = k * 4 := by rw [bts_len, List.length_take, Nat.min_eq_left (by rw [hlen.out]; exact hk)]
      have hul : k * 4 + 4 ≤ us.length := by have := HUL.out; omega
      have hcur : (bts (q.take k) ++ us.drop (k * 4)).length = us.length := by rw [List.length_append, hPl, List.length_drop]; omega
      have hcell : ∀ j, j < 4 → ∃ u, w2.cell? ⟨w.heap.size, k * 4 + j, none⟩ = some u := by
        intro j hj
        rw [ho2.cellAt (k * 4 + j) (by omega)]
        exact ⟨_, List.getElem?_eq_getElem (by omega)⟩
      obtain ⟨u0, e0⟩ := hcell 0 (by omega)
      obtain ⟨u1, e1⟩ := hcell 1 (by omega)
      obtain ⟨u2, e2⟩ := hcell 2 (by omega)
      obtain ⟨u3, e3⟩ := hcell 3 (by omega)
      rw [Nat.add_zero] at e0
      have f0 := ho2.frozenAt (k * 4)
      have f1 := ho2.frozenAt (k * 4 + 1)
      have f2 := ho2.frozenAt (k * 4 + 2)
      have f3 := ho2.frozenAt (k * 4 + 3)
      obtain ⟨o1, g1⟩ := ho2.stored (k * 4) (.int .i64 x1)
      obtain ⟨o2, g2⟩ := o1.stored (k * 4 + 1) (.bool x2)
      obtain ⟨o3, g3⟩ := o2.stored (k * 4 + 2) (.int .i64 x3)
      obtain ⟨o4, g4⟩ := o3.stored (k * 4 + 3) (.bool x4)
      have hbn : bts (q.take (k + 1)) = bts (q.take k) ++ [Value.int .i64 x1, .bool x2, .int .i64 x3, .bool x4] := by
        rw [List.take_add_one, HX.out]; exact (bts_snoc _ _).symm
      rw [sets4 hPl hul, ← hbn, show k * 4 + 4 = (k + 1) * 4 by omega] at o4
      have HO4 := hid o4
      have hb3 : Below w.heap.size w w2 := bchain hb0 hb2
      have hz2 := Nat.le_trans hz hb2.size
      clear hC HO o1 o2 o3 o4 g1 g2 g3 g4 hbn ho2 hb2 c0 c1 c2 c3 hPl hul hcur hcell
      go_wp2
      go_roundw
      case rel => exact hid ⟨k + 1, by omega, by go_num, HO4.out, (by repeat' (first | exact Below.refl _ _ | (with_reducible assumption) | (with_reducible refine Below.alloc ?_ ?_ _) | (with_reducible refine Below.setCell ?_ ?_ _) | (with_reducible refine Below.drew ?_) | (with_reducible refine below_drewN ?_ _) | (refine Below.trans ?_ (Below.mono (by assumption) ?_)) | (with_reducible exact Nat.le_refl _) | (with_reducible assumption) | (exact Below.size (by assumption)) | omega | go_size | (simp at *; omega)))⟩
      case measure => simp [intOf]; omega
    · have hkn : k = n := by omega
      rw [List.take_of_length_le (by rw [hlen.out]; omega), List.drop_eq_nil_of_le (by have := HUL.out; omega), List.append_nil] at ho
      clear hkn
      go_wp2
      go_ret
      exact ⟨⟨_, _, rfl, ho⟩, hb0⟩
theorem inf_pt0 : (Try.prog.info? 140).map (fun i => (i.zero, i.size, i.bytes)) = some (some (.agg #[.int .i64 0, .bool false]), 2, 16) := by kernel_rfl
set_option maxHeartbeats 1000000 in
theorem toPassThrowS_any (A : Option Addr) (n c : Nat) (q : List PT) (w : World) (hn : n ≤ 1099511627776) (h : Rd w w.heap.size 2 A n (ths q)) :
    Calls Try.prog 174 #[.slice A n c] w fun e w' => (∃ A' c', e = .returned (.slice A' n c') ∧ w'.ownsRow w.heap.size 140 2 (.slice A' n c') n (ths q)) ∧ Below w.heap.size w w' := by
  have HR := hid h
  have hlen := hid h.th_len
  clear h
  go_enter Try.func174, Try.ntmps174
  go_wp2_with (at_make; refine make_us w.heap.size Try.underlying36 inf_pt0 rfl _ _ rfl .i64 .i64 n rfl rfl hn (by omega) (Nat.le_refl _) ?_; intro us w1 ho1 hb1)
  have HUL := hid ho1.1
  have hst : Hid (w1.ownsRow w.heap.size 140 2 (.slice (some ⟨w.heap.size, 0, none⟩) n n) n (ths (q.take 0) ++ us.drop (0 * 2))) := ho1
  clear ho1
  go_loopw [4] (fun i wr => Hid (∃ k : Nat, k ≤ n ∧ i = .int .i64 k ∧ wr.ownsRow w.heap.size 140 2 (.slice (some ⟨w.heap.size, 0, none⟩) n n) n (ths (q.take k) ++ us.drop (k * 2)) ∧ Below w.heap.size w wr)) (fun i _ => n - (intOf i).toNat)
  case atStart => exact hid ⟨0, Nat.zero_le _, rfl, hst.out, hb1⟩
  case round =>
    obtain ⟨k, hk, rfl, ho, hb0⟩ := hrel.out
    clear hrel hst hb1
    have hz := hb0.size
    by_cases hlt : k < n
    · obtain ⟨b, off, x, rfl, hb, hx, hd, c0, c1⟩ := (HR.out.below hb0 (Nat.le_refl _)).th_at hlt
      obtain ⟨x1, x2⟩ := x
      have hbw : b < wr.heap.size := by omega
      have hC := hid (toPassThrow_any x1 x2 wr)
      have HX := hid hx
      have HO := hid ho
      simp only at c0 c1
      clear hx hd hb ho
      go_wp2_with fail
      refine hC.out.mono ?_
      rintro e w2 ⟨rfl, hb2⟩
      have ho2 := own_below HO.out hb2
      have hPl : (ths (q.take k)).length = k * 2 := by rw [ths_len, List.length_take, Nat.min_eq_left (by rw [hlen.out]; exact hk)]
      have hul : k * 2 + 2 ≤ us.length := by have := HUL.out; omega
      have hcur : (ths (q.take k) ++ us.drop (k * 2)).length = us.length := by rw [List.length_append, hPl, List.length_drop]; omega
      have hcell : ∀ j, j < 2 → ∃ u, w2.cell? ⟨w.heap.size, k * 2 + j, none⟩ = some u := by
        intro j hj
        rw [ho2.cellAt (k * 2 + j) (by omega)]
        exact ⟨_, List.getElem?_eq_getElem (by omega)⟩
      obtain ⟨u0, e0⟩ := hcell 0 (by omega)
      obtain ⟨u1, e1⟩ := hcell 1 (by omega)
      rw [Nat.add_zero] at e0
      have f0 := ho2.frozenAt (k * 2)
      have f1 := ho2.frozenAt (k * 2 + 1)
      obtain ⟨o1, g1⟩ := ho2.stored (k * 2) (.int .i64 x1)
      obtain ⟨o2, g2⟩ := o1.stored (k * 2 + 1) (.bool x2)
      have hbn : ths (q.take (k + 1)) = ths (q.take k) ++ [Value.int .i64 x1, .bool x2] := by
        rw [List.take_add_one, HX.out]; exact (ths_snoc _ _).symm
      rw [sets2 hPl hul, ← hbn, show k * 2 + 2 = (k + 1) * 2 by omega] at o2
      have HO4 := hid o2
      have hb3 : Below w.heap.size w w2 := bchain hb0 hb2
      have hz2 := Nat.le_trans hz hb2.size
      clear hC HO o1 o2 g1 g2 hbn ho2 hb2 c0 c1 hPl hul hcur hcell
      go_wp2
      go_roundw
      case rel => exact hid ⟨k + 1, by omega, by go_num, HO4.out, (by repeat' (first | exact Below.refl _ _ | (with_reducible assumption) | (with_reducible refine Below.alloc ?_ ?_ _) | (with_reducible refine Below.setCell ?_ ?_ _) | (with_reducible refine Below.drew ?_) | (with_reducible refine below_drewN ?_ _) | (refine Below.trans ?_ (Below.mono (by assumption) ?_)) | (with_reducible exact Nat.le_refl _) | (with_reducible assumption) | (exact Below.size (by assumption)) | omega | go_size | (simp at *; omega)))⟩
      case measure => simp [intOf]; omega
    · have hkn : k = n := by omega
      rw [List.take_of_length_le (by rw [hlen.out]; omega), List.drop_eq_nil_of_le (by have := HUL.out; omega), List.append_nil] at ho
      clear hkn
      go_wp2
      go_ret
      exact ⟨⟨_, _, rfl, ho⟩, hb0⟩
end Go.Proofs.Ytkglkpohbckpcaa
