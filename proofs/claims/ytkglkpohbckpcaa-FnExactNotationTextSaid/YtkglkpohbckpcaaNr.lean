/- Contracts of the laws' own helpers that count and copy arguments: sizes, and copies of multiplex, synchronous and passing patterns. -/
import Derived.Test.YtkglkpohbckpcaaNm
import Derived.StillTailTactics
namespace Go.Proofs.Ytkglkpohbckpcaa
open Go.RowKit
set_option linter.unusedVariables false

/-- 'make([]T, n)', elements of sz cells. -/
theorem make_us {P : Program} {w : World} {ops : Array Oper} {rest : List Oper} {o : Oper} {a : Act} {Q : Exit → Act → World → Prop}
    (base : Nat) {e by_ sz : Nat} {t : TypeId} {z : Value} (ht : P.underlying t = some (.slice e)) (inf : (P.info? e).map (fun i => (i.zero, i.size, i.bytes)) = some (some z, sz, by_))
    (hgd : o.guard = none) (l c : Operand) (hop : o.op = Op.makeSlice t l c) (kl kc : IntKind) (n : Nat) (hl : a.eval l = .int kl (n : Int)) (hc : a.eval c = .int kc (n : Int))
    (hn : n ≤ 1099511627776) (hby : by_ ≤ 64) (hbase : base ≤ w.heap.size)
    (hK : ∀ us w', w'.ownsRow base e sz (.slice (some ⟨w.heap.size, 0, none⟩) n n) n us → Below w.heap.size w w' → wpList P ops Q rest (a.put o.dst (.slice (some ⟨w.heap.size, 0, none⟩) n n)) w') :
    wpList P ops Q (o :: rest) a w := by
  obtain ⟨i0, hi, hz0, hz1, hz2⟩ := info_parts inf
  refine wpList_make_full _ hgd l c t hop base e i0 z sz ht hi hz0 hz1 kl kc _ _ n hl hc rfl rfl ?_ (by unfold maxLen; omega) hbase ?_
  · rw [hz2]
    have := Nat.mul_le_mul hby hn
    omega
  · intro w' h1 h2
    exact hK _ w' h1 ⟨h2.os, h2.tape, h2.output, h2.size, fun k hk => h2.block k hk (by simp)⟩

/-- What is left of a purse: nothing, or no more than was there, and n things less. -/
def Left (L : Nat) (n : Nat) (r : Int) : Prop := r = -1 ∨ (0 ≤ r ∧ r + n ≤ L)
theorem szInt64S_any (A : Option Addr) (n c L : Nat) (w : World) (hn : n ≤ maxLen) (hL : L ≤ 1099511627776) :
    Calls Try.prog 80 #[.slice A n c, .int .i64 (L : Int)] w fun e w' => (∃ r, e = .returned (.int .i64 r) ∧ Left L n r) ∧ w = w' := by
  have hn2 : n ≤ 9223372036854775807 := hn
  by_cases h : n ≤ L
  · have hq : ¬ (L : Int) - (n : Int) < 0 := by omega
    have HZ : Hid (Left L n ((L : Int) - (n : Int))) := .inr (by omega)
    have hw : IntKind.i64.wrap ((L : Int) - (n : Int)) = (L : Int) - (n : Int) := IntWalk.i64_in _ (by omega)
    go_enter Try.func80, Try.ntmps80
    go_wp2
    go_ret
    exact ⟨⟨_, rfl, HZ.out⟩, rfl⟩
  · have hq : (L : Int) - (n : Int) < 0 := by omega
    have HZ : Hid (Left L n (-1)) := .inl rfl
    have hw : IntKind.i64.wrap ((L : Int) - (n : Int)) = (L : Int) - (n : Int) := IntWalk.i64_in _ (by omega)
    go_enter Try.func80, Try.ntmps80
    go_wp2
    go_ret
    exact ⟨⟨_, rfl, HZ.out⟩, rfl⟩
theorem szSyncBeatS_any (A : Option Addr) (n c L : Nat) (w : World) (hn : n ≤ maxLen) (hL : L ≤ 1099511627776) :
    Calls Try.prog 82 #[.slice A n c, .int .i64 (L : Int)] w fun e w' => (∃ r, e = .returned (.int .i64 r) ∧ Left L n r) ∧ w = w' := by
  have hn2 : n ≤ 9223372036854775807 := hn
  by_cases h : n ≤ L
  · have hq : ¬ (L : Int) - (n : Int) < 0 := by omega
    have HZ : Hid (Left L n ((L : Int) - (n : Int))) := .inr (by omega)
    have hw : IntKind.i64.wrap ((L : Int) - (n : Int)) = (L : Int) - (n : Int) := IntWalk.i64_in _ (by omega)
    go_enter Try.func82, Try.ntmps82
    go_wp2
    go_ret
    exact ⟨⟨_, rfl, HZ.out⟩, rfl⟩
  · have hq : (L : Int) - (n : Int) < 0 := by omega
    have HZ : Hid (Left L n (-1)) := .inl rfl
    have hw : IntKind.i64.wrap ((L : Int) - (n : Int)) = (L : Int) - (n : Int) := IntWalk.i64_in _ (by omega)
    go_enter Try.func82, Try.ntmps82
    go_wp2
    go_ret
    exact ⟨⟨_, rfl, HZ.out⟩, rfl⟩
theorem szPassThrowS_any (A : Option Addr) (n c L : Nat) (w : World) (hn : n ≤ maxLen) (hL : L ≤ 1099511627776) :
    Calls Try.prog 170 #[.slice A n c, .int .i64 (L : Int)] w fun e w' => (∃ r, e = .returned (.int .i64 r) ∧ Left L n r) ∧ w = w' := by
  have hn2 : n ≤ 9223372036854775807 := hn
  by_cases h : n ≤ L
  · have hq : ¬ (L : Int) - (n : Int) < 0 := by omega
    have HZ : Hid (Left L n ((L : Int) - (n : Int))) := .inr (by omega)
    have hw : IntKind.i64.wrap ((L : Int) - (n : Int)) = (L : Int) - (n : Int) := IntWalk.i64_in _ (by omega)
    go_enter Try.func170, Try.ntmps170
    go_wp2
    go_ret
    exact ⟨⟨_, rfl, HZ.out⟩, rfl⟩
  · have hq : (L : Int) - (n : Int) < 0 := by omega
    have HZ : Hid (Left L n (-1)) := .inl rfl
    have hw : IntKind.i64.wrap ((L : Int) - (n : Int)) = (L : Int) - (n : Int) := IntWalk.i64_in _ (by omega)
    go_enter Try.func170, Try.ntmps170
    go_wp2
    go_ret
    exact ⟨⟨_, rfl, HZ.out⟩, rfl⟩
theorem szInt64SS_any (A : Option Addr) (n c L : Nat) (rows : List (List Int)) (w : World) (hn : n ≤ maxLen) (hlr : ∀ r ∈ rows, r.length ≤ maxLen) (hL : L ≤ 1099511627776) (h : RdG w w.heap.size A n rows) :
    Calls Try.prog 169 #[.slice A n c, .int .i64 (L : Int)] w fun e w' => (∃ r, e = .returned (.int .i64 r) ∧ Left L (n + tot rows) r) ∧ w = w' := by
  have hn2 : n ≤ 9223372036854775807 := hn
  by_cases hc : n ≤ L
  · have hq : ¬ (L : Int) - (n : Int) < 0 := by omega
    have hw : IntKind.i64.wrap ((L : Int) - (n : Int)) = (L : Int) - (n : Int) := IntWalk.i64_in _ (by omega)
    obtain ⟨X, hX⟩ : ∃ X : Nat, (L : Int) - (n : Int) = (X : Int) := ⟨L - n, by omega⟩
    have HX0 : Hid (X + n + tot (rows.take 0) ≤ L) := by show _ ≤ _; rw [List.take_zero, tot]; omega
    have HR := hid h
    have HLR := hid hlr
    have hlen := hid h.len
    have HE := hid (fun (k x : Nat) (hk : ¬ k < n) (hx : x + n + tot (rows.take k) ≤ L) => show Left L (n + tot rows) (x : Int) from .inr (by rw [List.take_of_length_le (by rw [hlen.out]; omega)] at hx; omega))
    have HM : Hid (Left L (n + tot rows) (-1)) := .inl rfl
    clear h hlr
    go_enter Try.func169, Try.ntmps169
    go_wp2
    clear hq hw hX
    go_loopw [1, 5] (fun m i wr => Hid (∃ (k x : Nat), k ≤ n ∧ i = .int .i64 k ∧ m = .int .i64 (x : Int) ∧ x + n + tot (rows.take k) ≤ L ∧ wr = w)) (fun _ i _ => n - (intOf i).toNat)
    case atStart => exact hid ⟨0, X, Nat.zero_le _, rfl, by first | rfl | trivial, HX0.out, rfl⟩
    case round =>
      obtain ⟨k, x, hk, rfl, rfl, hx, rfl⟩ := hrel.out
      clear hrel
      by_cases hlt : k < n
      · obtain ⟨b, off, row, Ai, ci, rfl, hb, hxr, hd, hcl, hrow⟩ := HR.out.at_ hlt
        have hC := hid (szInt64S_any Ai row.length ci x wr (HLR.out row (List.mem_of_getElem? hxr)) (by omega))
        have HT := hid (tot_step rows k row hxr)
        have HXX := hid hx
        clear hxr hd hrow hx
        go_wp2_with fail
        refine hC.out.mono ?_
        rintro e w1 ⟨⟨r, rfl, hr⟩, rfl⟩
        rcases hr with rfl | ⟨r0, hr⟩
        · clear hC
          go_wp2
          go_ret
          exact ⟨⟨_, rfl, HM.out⟩, by first | rfl | trivial⟩
        · obtain ⟨y, rfl⟩ := Int.eq_ofNat_of_zero_le r0
          have HY : Hid (y + n + tot (rows.take (k + 1)) ≤ L) := by show _ ≤ _; rw [HT.out]; have := HXX.out; omega
          have hq : ¬ (y : Int) < 0 := by omega
          clear hC hr
          go_wp2
          go_roundw
          case rel => exact hid ⟨k + 1, y, by omega, by go_num, rfl, HY.out, by first | rfl | trivial⟩
          case measure => simp [intOf]; omega
      · have HZ := hid (HE.out k x hlt hx)
        clear hx
        go_wp2
        go_ret
        exact ⟨⟨_, rfl, HZ.out⟩, by first | rfl | trivial⟩
  · have hq : (L : Int) - (n : Int) < 0 := by omega
    have HZ : Hid (Left L (n + tot rows) (-1)) := .inl rfl
    have hw : IntKind.i64.wrap ((L : Int) - (n : Int)) = (L : Int) - (n : Int) := IntWalk.i64_in _ (by omega)
    clear h hlr
    go_enter Try.func169, Try.ntmps169
    go_wp2
    go_ret
    exact ⟨⟨_, rfl, HZ.out⟩, rfl⟩
theorem szMulti_any (A : Option Addr) (n c L : Nat) (rows : List (List Int)) (w : World) (hn : n ≤ maxLen) (hlr : ∀ r ∈ rows, r.length ≤ maxLen) (hL : L ≤ 1099511627776) (h : RdG w w.heap.size A n rows) :
    Calls Try.prog 81 #[.agg #[.slice A n c], .int .i64 (L : Int)] w fun e w' => (∃ r, e = .returned (.int .i64 r) ∧ Left L (n + tot rows) r) ∧ Below w.heap.size w w' := by
  have hbW : Below w.heap.size w (w.alloc (Obj.cells #[.slice A n c] 25)) := (by repeat' (first | exact Below.refl _ _ | (with_reducible assumption) | (with_reducible refine Below.alloc ?_ ?_ _) | (with_reducible refine Below.setCell ?_ ?_ _) | (with_reducible refine Below.drew ?_) | (with_reducible refine below_drewN ?_ _) | (refine Below.trans ?_ (Below.mono (by assumption) ?_)) | (with_reducible exact Nat.le_refl _) | (with_reducible assumption) | (exact Below.size (by assumption)) | omega | go_size | (simp at *; omega)))
  have hC := hid (szInt64SS_any A n c L rows (w.alloc (Obj.cells #[.slice A n c] 25)) hn hlr hL ((h.below hbW (Nat.le_refl _)).more hbW.size))
  have HB := hid hbW
  have HM : Hid (Left L (n + tot rows) (-1)) := .inl rfl
  clear h hbW hlr
  go_enter Try.func81, Try.ntmps81
  go_wp2_with fail
  refine hC.out.mono ?_
  rintro e w1 ⟨⟨r, rfl, hr⟩, rfl⟩
  have HR := hid hr
  rcases hr with rfl | ⟨r0, hr⟩
  · clear hC
    go_wp2
    go_ret
    exact ⟨⟨_, rfl, HM.out⟩, HB.out⟩
  · have hq : ¬ r < 0 := by omega
    clear hC hr
    go_wp2
    go_ret
    exact ⟨⟨_, rfl, HR.out⟩, HB.out⟩
theorem Left.two {L n m : Nat} {x : Nat} {r : Int} (h : Left L n (x : Int)) (k : Left x m r) : Left L (n + m) r := by
  rcases h with h | h
  · omega
  · rcases k with k | k
    · exact .inl k
    · exact .inr (by omega)
theorem szPassing_any (A B : Option Addr) (n c m d L : Nat) (w : World) (hn : n ≤ maxLen) (hm : m ≤ maxLen) (hL : L ≤ 1099511627776) :
    Calls Try.prog 83 #[.agg #[.slice A n c, .slice B m d], .int .i64 (L : Int)] w fun e w' => (∃ r, e = .returned (.int .i64 r) ∧ Left L (n + m) r) ∧ Below w.heap.size w w' := by
  have hC := hid (fun w1 => szPassThrowS_any A n c L w1 hn hL)
  have hD := hid (fun (x : Nat) (hx : x ≤ 1099511627776) w1 => szPassThrowS_any B m d x w1 hm hx)
  have HM : Hid (Left L (n + m) (-1)) := .inl rfl
  go_enter Try.func83, Try.ntmps83
  go_wp2_with fail
  refine (hC.out _).mono ?_
  rintro e w1 ⟨⟨r, rfl, hr⟩, rfl⟩
  have HR := hid hr
  rcases hr with rfl | ⟨r0, hr⟩
  · clear hC hD
    go_wp2
    go_ret
    exact ⟨⟨_, rfl, HM.out⟩, (by repeat' (first | exact Below.refl _ _ | (with_reducible assumption) | (with_reducible refine Below.alloc ?_ ?_ _) | (with_reducible refine Below.setCell ?_ ?_ _) | (with_reducible refine Below.drew ?_) | (with_reducible refine below_drewN ?_ _) | (refine Below.trans ?_ (Below.mono (by assumption) ?_)) | (with_reducible exact Nat.le_refl _) | (with_reducible assumption) | (exact Below.size (by assumption)) | omega | go_size | (simp at *; omega)))⟩
  · obtain ⟨x, rfl⟩ := Int.eq_ofNat_of_zero_le r0
    have hq : ¬ (x : Int) < 0 := by omega
    have hx : x ≤ 1099511627776 := by omega
    clear hC hr
    go_wp2_with fail
    refine (hD.out x hx _).mono ?_
    rintro e w1 ⟨⟨r, rfl, hr⟩, rfl⟩
    have HR2 := hid (HR.out.two hr)
    rcases hr with rfl | ⟨r1, hr⟩
    · clear hD
      go_wp2
      go_ret
      exact ⟨⟨_, rfl, HM.out⟩, (by repeat' (first | exact Below.refl _ _ | (with_reducible assumption) | (with_reducible refine Below.alloc ?_ ?_ _) | (with_reducible refine Below.setCell ?_ ?_ _) | (with_reducible refine Below.drew ?_) | (with_reducible refine below_drewN ?_ _) | (refine Below.trans ?_ (Below.mono (by assumption) ?_)) | (with_reducible exact Nat.le_refl _) | (with_reducible assumption) | (exact Below.size (by assumption)) | omega | go_size | (simp at *; omega)))⟩
    · have hq2 : ¬ r < 0 := by omega
      clear hD hr
      go_wp2
      go_ret
      exact ⟨⟨_, rfl, HR2.out⟩, (by repeat' (first | exact Below.refl _ _ | (with_reducible assumption) | (with_reducible refine Below.alloc ?_ ?_ _) | (with_reducible refine Below.setCell ?_ ?_ _) | (with_reducible refine Below.drew ?_) | (with_reducible refine below_drewN ?_ _) | (refine Below.trans ?_ (Below.mono (by assumption) ?_)) | (with_reducible exact Nat.le_refl _) | (with_reducible assumption) | (exact Below.size (by assumption)) | omega | go_size | (simp at *; omega)))⟩
end Go.Proofs.Ytkglkpohbckpcaa
