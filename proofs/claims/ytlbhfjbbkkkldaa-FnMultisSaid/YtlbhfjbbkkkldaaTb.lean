/- Several texts in one: Rd, Mp, Rl, Rj, Mi, Mw, Mh, F6, Rk. -/
import Derived.Test.YtlbhfjbbkkkldaaNk
import Derived.Test.YtlbhfjbbkkkldaaMd
import Derived.Test.YtlbhfjbbkkkldaaTa
import Derived.Test.YtlbhfjbbkkkldaaMg
import Derived.Test.YtlbhfjbbkkkldaaGl
import Derived.Test.YtlbhfjbbkkkldaaCo
import Derived.Deep.QuietTactic
import Derived.BigQuiet
import Derived.Test.YtlbhfjbbkkkldaaMt
import Derived.Test.YtlbhfjbbkkkldaaTx
import Derived.Test.YtlbhfjbbkkkldaaSp
import Derived.Test.YtlbhfjbbkkkldaaC
/- Contracts of MultiLandings, impl's and the reference's. -/
namespace Go.Proofs.Ytlbhfjbbkkkldaa
open Go.RowKit
set_option linter.unusedVariables false

def rMultiLandings (rows : List (List Int)) : List Int × Int := if mOk rows then (rLand rows, 0) else ([], 1)
def LnRes (B : Nat) (r : List Int × Int) (e : Ending) (w : World) : Prop := ∃ A c, e = .returned (.tuple #[.slice A r.1.length c, .int .i64 r.2]) ∧ w.ownsRow B 2 1 (.slice A r.1.length c) r.1.length (ints r.1)
theorem LnRes.no (B : Nat) (w : World) (x : Int) : LnRes B ([], x) (.returned (.tuple #[.slice none 0 0, .int .i64 x])) w := ⟨none, 0, rfl, World.ownsRow_nil _ _ _ _⟩
theorem LnRes.mk {B : Nat} {w : World} {A : Option Addr} {c n : Nat} {q : List Int} {x : Int} (hn : q.length = n) (h : w.ownsRow B 2 1 (.slice A n c) n (ints q)) : LnRes B (q, x) (.returned (.tuple #[.slice A n c, .int .i64 x])) w := by subst hn; exact ⟨A, c, rfl, h⟩
set_option maxRecDepth 100000 in
set_option maxHeartbeats 1000000 in
theorem MultiLandings_any (A : Option Addr) (n c : Nat) (rows : List (List Int)) (w : World) (hn : n ≤ 1099511627776) (hl : ∀ r ∈ rows, r.length ≤ 1099511627776) (hr : RdG w w.heap.size A n rows) :
    Calls Try.prog 43 #[.agg #[.slice A n c]] w fun e w' => LnRes w.heap.size (rMultiLandings rows) e w' ∧ Below w.heap.size w w' := by
  have hlen := hr.len
  have hbx : Below w.heap.size w (w.alloc (Obj.cells #[.slice A n c] 26)) := (by repeat' (first | exact Below.refl _ _ | (with_reducible assumption) | (with_reducible refine Below.alloc ?_ ?_ _) | (with_reducible refine Below.setCell ?_ ?_ _) | (with_reducible refine Below.drew ?_) | (with_reducible refine below_drewN ?_ _) | (refine Below.trans ?_ (Below.mono (by assumption) ?_)) | (with_reducible exact Nat.le_refl _) | (with_reducible assumption) | (exact Below.size (by assumption)) | omega | go_size | (simp at *; omega)))
  have hX := Bx.new w 26 #[.slice A n c]
  have hV := ValidMulti_any A n c rows (w.alloc (Obj.cells #[.slice A n c] 26)) hn hl ((hr.below hbx (Nat.le_refl _)).more hbx.size)
  have HR := hid hr
  clear hr
  cases hp : mOk rows with
  | false =>
    have HZ : Hid (rMultiLandings rows = ([], 1)) := by show _ = _; rw [rMultiLandings, hp]; rfl
    rw [hp] at hV
    have hV := hid hV
    clear hp hX hlen hl
    go_enter Try.func43, Try.ntmps43
    go_wp2_with fail
    refine hV.out.mono ?_
    rintro e w1 ⟨rfl, hb1⟩
    go_wp2
    go_ret2
    exact ⟨by rw [HZ.out]; exact LnRes.no _ _ _, (by repeat' (first | exact Below.refl _ _ | (with_reducible assumption) | (with_reducible refine Below.alloc ?_ ?_ _) | (with_reducible refine Below.setCell ?_ ?_ _) | (with_reducible refine Below.drew ?_) | (with_reducible refine below_drewN ?_ _) | (refine Below.trans ?_ (Below.mono (by assumption) ?_)) | (with_reducible exact Nat.le_refl _) | (with_reducible assumption) | (exact Below.size (by assumption)) | omega | go_size | (simp at *; omega)))⟩
  | true =>
    have HZ : Hid (rMultiLandings rows = (rLand rows, 0)) := by show _ = _; rw [rMultiLandings, if_pos hp]
    rw [hp] at hV
    have hV := hid hV
    have HSH := hid (mOk_iff.1 hp).1
    have HLN : Hid ((rLand rows).length = n) := by show _ = _; rw [rLand_len]; exact hlen
    clear hp hlen hl
    go_enter Try.func43, Try.ntmps43
    go_wp2_with fail
    refine hV.out.mono ?_
    rintro e w1 ⟨rfl, hb1⟩
    have hB1 : Below w.heap.size w w1 := (by repeat' (first | exact Below.refl _ _ | (with_reducible assumption) | (with_reducible refine Below.alloc ?_ ?_ _) | (with_reducible refine Below.setCell ?_ ?_ _) | (with_reducible refine Below.drew ?_) | (with_reducible refine below_drewN ?_ _) | (refine Below.trans ?_ (Below.mono (by assumption) ?_)) | (with_reducible exact Nat.le_refl _) | (with_reducible assumption) | (exact Below.size (by assumption)) | omega | go_size | (simp at *; omega)))
    have hX1 := hX.below hb1 hX.lt
    have c0 : w1.cell? ⟨w.heap.size, 0, none⟩ = some (.slice A n c) := bx_c0 hX1
    have hgw : w.heap.size < w1.heap.size := hX1.lt
    have hC := hid (landingCounts_any A n c rows w1 HSH.out ((HR.out.below hB1 (Nat.le_refl _)).more hB1.size))
    clear hX hX1 hV hb1
    go_wp2_with fail
    refine hC.out.mono ?_
    rintro e w2 ⟨A2, c2, rfl, ho2, hb2⟩
    have hB2 := bchain hB1 hb2
    have HO := hid ho2
    clear ho2 hC
    go_wp2
    go_ret2
    refine ⟨?_, hB2⟩
    rw [HZ.out]
    exact LnRes.mk HLN.out (own_more HO.out (Nat.le_of_lt hgw))
set_option maxRecDepth 100000 in
set_option maxHeartbeats 1000000 in
theorem specMultiLandings_any (A : Option Addr) (n c : Nat) (rows : List (List Int)) (w : World) (hn : n ≤ 1099511627776) (hl : ∀ r ∈ rows, r.length ≤ 1099511627776) (hr : RdG w w.heap.size A n rows) :
    Calls Try.prog 44 #[.agg #[.slice A n c]] w fun e w' => LnRes w.heap.size (rMultiLandings rows) e w' ∧ Below w.heap.size w w' := by
  have hlen := hr.len
  have hbx : Below w.heap.size w (w.alloc (Obj.cells #[.slice A n c] 26)) := (by repeat' (first | exact Below.refl _ _ | (with_reducible assumption) | (with_reducible refine Below.alloc ?_ ?_ _) | (with_reducible refine Below.setCell ?_ ?_ _) | (with_reducible refine Below.drew ?_) | (with_reducible refine below_drewN ?_ _) | (refine Below.trans ?_ (Below.mono (by assumption) ?_)) | (with_reducible exact Nat.le_refl _) | (with_reducible assumption) | (exact Below.size (by assumption)) | omega | go_size | (simp at *; omega)))
  have hX := Bx.new w 26 #[.slice A n c]
  have hV := l04Ok_any w.heap.size A n c rows (w.alloc (Obj.cells #[.slice A n c] 26)) hn hl hX (((hr.below hbx (Nat.le_refl _)).more hbx.size))
  have HR := hid hr
  clear hr
  cases hp : mOk rows with
  | false =>
    have HZ : Hid (rMultiLandings rows = ([], 1)) := by show _ = _; rw [rMultiLandings, hp]; rfl
    rw [hp] at hV
    have hV := hid hV
    clear hp hX hlen hl
    go_enter Try.func44, Try.ntmps44
    go_wp2_with fail
    refine hV.out.mono ?_
    rintro e w1 ⟨rfl, hb1⟩
    go_wp2
    go_ret2
    exact ⟨by rw [HZ.out]; exact LnRes.no _ _ _, (by repeat' (first | exact Below.refl _ _ | (with_reducible assumption) | (with_reducible refine Below.alloc ?_ ?_ _) | (with_reducible refine Below.setCell ?_ ?_ _) | (with_reducible refine Below.drew ?_) | (with_reducible refine below_drewN ?_ _) | (refine Below.trans ?_ (Below.mono (by assumption) ?_)) | (with_reducible exact Nat.le_refl _) | (with_reducible assumption) | (exact Below.size (by assumption)) | omega | go_size | (simp at *; omega)))⟩
  | true =>
    have HZ : Hid (rMultiLandings rows = (rLand rows, 0)) := by show _ = _; rw [rMultiLandings, if_pos hp]
    rw [hp] at hV
    have hV := hid hV
    have HSH := hid (mOk_iff.1 hp).1
    have HLN : Hid ((rLand rows).length = n) := by show _ = _; rw [rLand_len]; exact hlen
    clear hp hlen hl
    go_enter Try.func44, Try.ntmps44
    go_wp2_with fail
    refine hV.out.mono ?_
    rintro e w1 ⟨rfl, hb1⟩
    have hB1 : Below w.heap.size w w1 := (by repeat' (first | exact Below.refl _ _ | (with_reducible assumption) | (with_reducible refine Below.alloc ?_ ?_ _) | (with_reducible refine Below.setCell ?_ ?_ _) | (with_reducible refine Below.drew ?_) | (with_reducible refine below_drewN ?_ _) | (refine Below.trans ?_ (Below.mono (by assumption) ?_)) | (with_reducible exact Nat.le_refl _) | (with_reducible assumption) | (exact Below.size (by assumption)) | omega | go_size | (simp at *; omega)))
    have hX1 := hX.below hb1 hX.lt
    have c0 : w1.cell? ⟨w.heap.size, 0, none⟩ = some (.slice A n c) := bx_c0 hX1
    have hgw : w.heap.size < w1.heap.size := hX1.lt
    have hC := hid (l04Landings_any w.heap.size A n c rows w1 HSH.out hX1 ((HR.out.below hB1 (Nat.le_refl _)).more hB1.size))
    clear hX hX1 hV hb1
    go_wp2_with fail
    refine hC.out.mono ?_
    rintro e w2 ⟨A2, c2, rfl, ho2, hb2⟩
    have hB2 := bchain hB1 hb2
    have HO := hid ho2
    clear ho2 hC
    go_wp2
    go_ret2
    refine ⟨?_, hB2⟩
    rw [HZ.out]
    exact LnRes.mk HLN.out (own_more HO.out (Nat.le_of_lt hgw))
end Go.Proofs.Ytlbhfjbbkkkldaa

/- Props of multiplex patterns: contracts. -/
namespace Go.Proofs.Ytlbhfjbbkkkldaa
open Go.RowKit
set_option linter.unusedVariables false

def sI : List Int → Int
  | [] => 0
  | x :: xs => x + sI xs
def sR : List (List Int) → Int
  | [] => 0
  | r :: rs => sI r + sR rs
theorem sI_bd : ∀ {l : List Int}, (∀ x ∈ l, 0 ≤ x ∧ x ≤ 15) → 0 ≤ sI l ∧ sI l ≤ 15 * l.length := by
  intro l
  induction l with
  | nil => intro _; simp [sI]
  | cons a l ih =>
    intro h
    have h1 := h a (by simp)
    have h2 := ih (fun x hx => h x (by simp [hx]))
    rw [sI, List.length_cons]; omega
theorem sR_bd : ∀ {l : List (List Int)}, (∀ r ∈ l, mstOk r = true) → 0 ≤ sR l ∧ sR l ≤ 60 * l.length := by
  intro l
  induction l with
  | nil => intro _; simp [sR]
  | cons a l ih =>
    intro h
    have h0 := h a (by simp)
    have h1 := sI_bd (l := a) (fun x hx => mstOk_bd h0 hx)
    have h3 := (mstOk_iff.1 h0).1.2
    have h2 := ih (fun x hx => h x (by simp [hx]))
    rw [sR, List.length_cons]; omega
def rMultiProps (rows : List (List Int)) : Int × Int := if mOk rows then (sR rows / (rows.length : Int), 0) else (0, 1)
set_option maxHeartbeats 2000000 in
theorem MultiProps_any (A : Option Addr) (n c : Nat) (rows : List (List Int)) (w : World) (hn : n ≤ 1099511627776) (hl : ∀ r ∈ rows, r.length ≤ 1099511627776) (hr : RdG w w.heap.size A n rows) :
    Calls Try.prog 45 #[.agg #[.slice A n c]] w fun e w' => e = .returned (.tuple #[.int .i64 (rMultiProps rows).1, .int .i64 (rMultiProps rows).2]) ∧ Below w.heap.size w w' := by
  have hlen := hr.len
  have hB0 : Below w.heap.size w (w.alloc (Obj.cells #[.slice A n c] 26)) := (by repeat' (first | exact Below.refl _ _ | (with_reducible assumption) | (with_reducible refine Below.alloc ?_ ?_ _) | (with_reducible refine Below.setCell ?_ ?_ _) | (with_reducible refine Below.drew ?_) | (with_reducible refine below_drewN ?_ _) | (refine Below.trans ?_ (Below.mono (by assumption) ?_)) | (with_reducible exact Nat.le_refl _) | (with_reducible assumption) | (exact Below.size (by assumption)) | omega | go_size | (simp at *; omega)))
  have hV := ValidMulti_any A n c rows (w.alloc (Obj.cells #[.slice A n c] 26)) hn hl ((hr.below hB0 (Nat.le_refl _)).more hB0.size)
  have hX := Bx.new w 26 #[.slice A n c]
  cases hp : mOk rows with
  | false =>
    rw [hp] at hV
    have hV := hid hV
    have HO : Hid (rMultiProps rows = (0, 1)) := by show _ = _; rw [rMultiProps, hp]; rfl
    have HB0 := hid hB0
    clear hr hp hlen hX hl hB0
    go_enter Try.func45, Try.ntmps45
    go_wp2_with fail
    refine hV.out.mono ?_
    rintro e w1 ⟨rfl, hb1⟩
    have hB1 := bchain HB0.out hb1
    clear hb1
    go_wp2
    go_ret2
    exact ⟨by rw [HO.out]; first | done | rfl, hB1⟩
  | true =>
    rw [hp] at hV
    have hV := hid hV
    have hs := msSh_iff.1 (mOk_iff.1 hp).1
    obtain ⟨⟨h1, h12⟩, hst⟩ := hs
    rw [hlen] at h1 h12
    have HST := hid hst
    have HBD := hid (fun (k : Nat) => sR_bd (l := rows.take k) (fun r hr => hst r (List.mem_of_mem_take hr)))
    have HO : Hid (rMultiProps rows = (sR rows / (n : Int), 0)) := by show _ = _; rw [rMultiProps, hp, hlen]; rfl
    have hst0 : Hid (0 + sR (rows.drop 0) = sR rows) := by show _ = _; simp
    obtain ⟨S, hS⟩ : ∃ S, sR rows = S := ⟨_, rfl⟩
    rw [hS] at HO hst0
    have HR := hid hr
    have HL := hid hlen
    have HB0 := hid hB0
    have HX := hid hX
    clear hr hp hlen hX hl hB0 hS hst
    go_enter Try.func45, Try.ntmps45
    go_wp2_with fail
    refine hV.out.mono ?_
    rintro e w1 ⟨rfl, hb1⟩
    have hB1 := bchain HB0.out hb1
    have hX1 := HX.out.below hb1 HX.out.lt
    have HXR := hid (fun (w2 : World) (hb : Below w1.heap.size w1 w2) => show w2.cell? ⟨w.heap.size, 0, none⟩ = some (.slice A n c) from (hX1.below hb hX1.lt).cell 0)
    have a0 := HXR.out w1 (Below.refl _ _)
    clear hV HX HB0 hb1 hX1
    go_wp2
    clear a0
    go_loopw [4, 15] (fun s i wr => Hid (∃ (k : Nat) (x : Int), k ≤ n ∧ i = .int .i64 k ∧ s = .int .i64 x ∧ 0 ≤ x ∧ x ≤ 60 * k ∧ Hid (x + sR (rows.drop k) = S) ∧ Below w1.heap.size w1 wr)) (fun _ i _ => n - (intOf i).toNat)
    case atStart => exact hid ⟨0, 0, Nat.zero_le _, rfl, rfl, by omega, by omega, hst0, Below.refl _ _⟩
    case round =>
      obtain ⟨k, x, hk, rfl, rfl, hx0, hx1, he, hb0⟩ := hrel.out
      clear hrel hst0
      have hB2 := bchain hB1 hb0
      by_cases hlt : k < n
      · obtain ⟨b, off, row, Ai, ci, rfl, hb, hx, hd, hc, hrow⟩ := (HR.out.below hB2 (Nat.le_refl _)).at_ hlt
        have hm := HST.out row (List.mem_of_getElem? hx)
        have hl4 := (mstOk_iff.1 hm).1.2
        have HE := hid (fun (x' : Int) (h : x' = x + sI row) => show x' + sR (rows.drop (k + 1)) = S from by
          have h2 := he.out
          rw [hd, show sR (row :: rows.drop (k + 1)) = sI row + sR (rows.drop (k + 1)) from rfl] at h2
          omega)
        have HBR := hid (fun (t : Int) (ht : t ∈ row) => mstOk_bd hm ht)
        have hst1 : Hid (x + sI (row.drop 0) = x + sI row) := by show _ = _; simp
        obtain ⟨X, hX⟩ : ∃ X, x + sI row = X := ⟨_, rfl⟩
        rw [hX] at hst1
        have HX2 := hid hX
        have hsb := sI_bd (l := row) (fun t ht => mstOk_bd hm ht)
        have hXb : 0 ≤ X ∧ X ≤ 60 * k + 60 := by omega
        have hbw : b < wr.heap.size := by have := hB2.size; omega
        have HROW := hid (hrow.more hB2.size)
        obtain ⟨wo, rfl⟩ : ∃ wo : World, wo = wr := ⟨_, rfl⟩
        clear he hx hd hm hrow hX hsb hb
        go_wp2
        go_loopw [4, 21] (fun s i w2 => Hid (∃ (j : Nat) (z : Int), j ≤ row.length ∧ i = .int .i64 j ∧ s = .int .i64 z ∧ 0 ≤ z ∧ z ≤ 60 * k + 15 * j ∧ Hid (z + sI (row.drop j) = X) ∧ Below wo.heap.size wo w2)) (fun _ i _ => row.length - (intOf i).toNat)
        case atStart => exact hid ⟨0, x, Nat.zero_le _, rfl, rfl, hx0, by omega, hst1, Below.refl _ _⟩
        case round =>
          obtain ⟨j, z, hj, rfl, rfl, hz0, hz1, he, hb3⟩ := hrel.out
          clear hrel hst1 hc
          by_cases hjl : j < row.length
          · obtain ⟨bb, ofb, t, rfl, hbb, hxj, hdj, hcj⟩ := (HROW.out.below hb3 (Nat.le_refl _)).at_ hjl
            obtain ⟨t0, t1⟩ := HBR.out t (List.mem_of_getElem? hxj)
            have HZ : Hid (z + t + sI (row.drop (j + 1)) = X) := by
              show _ = _
              have h2 := he.out
              rw [hdj, show sI (t :: row.drop (j + 1)) = t + sI (row.drop (j + 1)) from rfl] at h2
              omega
            have hbbw : bb < wr.heap.size := by have := hb3.size; omega
            clear he hxj hdj hbb
            go_wp2
            go_roundw
            case rel => exact hid ⟨j + 1, z + t, by omega, by go_num, by go_num, by omega, by omega, HZ, (by repeat' (first | exact Below.refl _ _ | (with_reducible assumption) | (with_reducible refine Below.alloc ?_ ?_ _) | (with_reducible refine Below.setCell ?_ ?_ _) | (with_reducible refine Below.drew ?_) | (with_reducible refine below_drewN ?_ _) | (refine Below.trans ?_ (Below.mono (by assumption) ?_)) | (with_reducible exact Nat.le_refl _) | (with_reducible assumption) | (exact Below.size (by assumption)) | omega | go_size | (simp at *; omega)))⟩
            case measure => simp [intOf]; omega
          · have hzX : z = X := by
              have h2 := he.out
              rw [List.drop_eq_nil_of_le (by omega)] at h2
              simp only [sI] at h2; omega
            have HZ := hid (HE.out z (by rw [hzX]; exact HX2.out.symm))
            have hzb : z ≤ 60 * k + 60 := by omega
            have hb4 := bchain hb0 hb3
            clear he hzX
            go_wp2
            go_roundw
            case rel => exact hid ⟨k + 1, z, by omega, by go_num, rfl, hz0, by omega, HZ, hb4⟩
            case measure => simp [intOf]; omega
      · have hxS : x = S := by
          have h2 := he.out
          rw [List.drop_eq_nil_of_le (by rw [HL.out]; omega)] at h2
          simp only [sR] at h2; omega
        have a0 := HXR.out wr hb0
        have HZ : Hid (rMultiProps rows = (x / (n : Int), 0)) := by show _ = _; rw [HO.out, hxS]
        have hl0 : w.heap.size < wr.heap.size := World.block_lt_of_cell? wr (a := ⟨w.heap.size, 0, none⟩) a0
        clear he hxS HO
        go_wp2
        go_ret2
        exact ⟨by rw [HZ.out]; first | done | rfl, hB2⟩
set_option maxHeartbeats 2000000 in
theorem l04Sum_at (g o : Nat) (A : Option Addr) (n c : Nat) (rows : List (List Int)) (w : World) (hp : msSh rows = true) (hx : Bo w g o #[.slice A n c]) (hr : RdG w w.heap.size A n rows) :
    Calls Try.prog 114 #[.pointer (some ⟨g, o, none⟩)] w fun e w' => e = .returned (.int .i64 (sR rows)) ∧ w = w' := by
  have hlen := hr.len
  have hgl := hx.lt
  have hs := msSh_iff.1 hp
  obtain ⟨⟨h1, h12⟩, hst⟩ := hs
  rw [hlen] at h1 h12
  have HST := hid hst
  have c0 : w.cell? ⟨g, o, none⟩ = some (.slice A n c) := hx.cell 0
  have hst0 : Hid (0 + sR (rows.drop 0) = sR rows) := by show _ = _; simp
  obtain ⟨S, hS⟩ : ∃ S, sR rows = S := ⟨_, rfl⟩
  rw [hS] at hst0 ⊢
  have HR := hid hr
  have HL := hid hlen
  clear hr hp hlen hx hS hst
  go_enter Try.func114, Try.ntmps114
  go_wp2
  go_loopw [3, 4] (fun s i wr => Hid (∃ (k : Nat) (x : Int), k ≤ n ∧ i = .int .i64 k ∧ s = .int .i64 x ∧ 0 ≤ x ∧ x ≤ 60 * k ∧ Hid (x + sR (rows.drop k) = S) ∧ wr = w)) (fun _ i _ => n - (intOf i).toNat)
  case atStart => exact hid ⟨0, 0, Nat.zero_le _, rfl, rfl, by omega, by omega, hst0, rfl⟩
  case round =>
    obtain ⟨k, x, hk, rfl, rfl, hx0, hx1, he, rfl⟩ := hrel.out
    clear hrel hst0
    by_cases hlt : k < n
    · obtain ⟨b, off, row, Ai, ci, rfl, hb, hx, hd, hc, hrow⟩ := HR.out.at_ hlt
      have hm := HST.out row (List.mem_of_getElem? hx)
      have hl4 := (mstOk_iff.1 hm).1.2
      have HE := hid (fun (x' : Int) (h : x' = x + sI row) => show x' + sR (rows.drop (k + 1)) = S from by
        have h2 := he.out
        rw [hd, show sR (row :: rows.drop (k + 1)) = sI row + sR (rows.drop (k + 1)) from rfl] at h2
        omega)
      have HBR := hid (fun (t : Int) (ht : t ∈ row) => mstOk_bd hm ht)
      have hst1 : Hid (x + sI (row.drop 0) = x + sI row) := by show _ = _; simp
      obtain ⟨X, hX⟩ : ∃ X, x + sI row = X := ⟨_, rfl⟩
      rw [hX] at hst1
      have HX2 := hid hX
      have hsb := sI_bd (l := row) (fun t ht => mstOk_bd hm ht)
      have hXb : 0 ≤ X ∧ X ≤ 60 * k + 60 := by omega
      have HROW := hid hrow
      clear he hx hd hm hrow hX hsb
      go_wp2
      go_loopw [3, 5] (fun s i w2 => Hid (∃ (j : Nat) (z : Int), j ≤ row.length ∧ i = .int .i64 j ∧ s = .int .i64 z ∧ 0 ≤ z ∧ z ≤ 60 * k + 15 * j ∧ Hid (z + sI (row.drop j) = X) ∧ w2 = wr)) (fun _ i _ => row.length - (intOf i).toNat)
      case atStart => exact hid ⟨0, x, Nat.zero_le _, rfl, rfl, hx0, by omega, hst1, rfl⟩
      case round =>
        obtain ⟨j, z, hj, rfl, rfl, hz0, hz1, he, rfl⟩ := hrel.out
        clear hrel hst1
        by_cases hjl : j < row.length
        · obtain ⟨bb, ofb, t, rfl, hbb, hxj, hdj, hcj⟩ := HROW.out.at_ hjl
          obtain ⟨t0, t1⟩ := HBR.out t (List.mem_of_getElem? hxj)
          have HZ : Hid (z + t + sI (row.drop (j + 1)) = X) := by
            show _ = _
            have h2 := he.out
            rw [hdj, show sI (t :: row.drop (j + 1)) = t + sI (row.drop (j + 1)) from rfl] at h2
            omega
          clear he hxj hdj
          go_wp2
          go_roundw
          case rel => exact hid ⟨j + 1, z + t, by omega, by go_num, by go_num, by omega, by omega, HZ, by first | rfl | trivial⟩
          case measure => simp [intOf]; omega
        · have hzX : z = X := by
            have h2 := he.out
            rw [List.drop_eq_nil_of_le (by omega)] at h2
            simp only [sI] at h2; omega
          have HZ := hid (HE.out z (by rw [hzX]; exact HX2.out.symm))
          have hzb : z ≤ 60 * k + 60 := by omega
          clear he hzX
          go_wp2
          go_roundw
          case rel => exact hid ⟨k + 1, z, by omega, by go_num, rfl, hz0, by omega, HZ, by first | rfl | trivial⟩
          case measure => simp [intOf]; omega
    · have hxS : x = S := by
        have h2 := he.out
        rw [List.drop_eq_nil_of_le (by rw [HL.out]; omega)] at h2
        simp only [sR] at h2; omega
      have HZ := hid hxS
      clear he hxS
      go_wp2
      go_ret
      exact ⟨ret_int HZ.out, by first | rfl | trivial⟩
set_option maxHeartbeats 2000000 in
theorem specMultiProps_any (A : Option Addr) (n c : Nat) (rows : List (List Int)) (w : World) (hn : n ≤ 1099511627776) (hl : ∀ r ∈ rows, r.length ≤ 1099511627776) (hr : RdG w w.heap.size A n rows) :
    Calls Try.prog 46 #[.agg #[.slice A n c]] w fun e w' => e = .returned (.tuple #[.int .i64 (rMultiProps rows).1, .int .i64 (rMultiProps rows).2]) ∧ Below w.heap.size w w' := by
  have hlen := hr.len
  have hB0 : Below w.heap.size w (w.alloc (Obj.cells #[.slice A n c] 26)) := (by repeat' (first | exact Below.refl _ _ | (with_reducible assumption) | (with_reducible refine Below.alloc ?_ ?_ _) | (with_reducible refine Below.setCell ?_ ?_ _) | (with_reducible refine Below.drew ?_) | (with_reducible refine below_drewN ?_ _) | (refine Below.trans ?_ (Below.mono (by assumption) ?_)) | (with_reducible exact Nat.le_refl _) | (with_reducible assumption) | (exact Below.size (by assumption)) | omega | go_size | (simp at *; omega)))
  have hX := Bx.new w 26 #[.slice A n c]
  have hV := l04Ok_any w.heap.size A n c rows _ hn hl hX ((hr.below hB0 (Nat.le_refl _)).more hB0.size)
  cases hp : mOk rows with
  | false =>
    rw [hp] at hV
    have hV := hid hV
    have HO : Hid (rMultiProps rows = (0, 1)) := by show _ = _; rw [rMultiProps, hp]; rfl
    have HB0 := hid hB0
    clear hr hp hlen hX hl hB0
    go_enter Try.func46, Try.ntmps46
    go_wp2_with fail
    refine hV.out.mono ?_
    rintro e w1 ⟨rfl, hb1⟩
    have hB1 := bchain HB0.out hb1
    clear hb1
    go_wp2
    go_ret2
    exact ⟨by rw [HO.out]; first | done | rfl, hB1⟩
  | true =>
    rw [hp] at hV
    have hV := hid hV
    have hs := msSh_iff.1 (mOk_iff.1 hp).1
    obtain ⟨⟨h1, h12⟩, hst⟩ := hs
    have hbd := sR_bd hst
    rw [hlen] at h1 h12
    have HO : Hid (rMultiProps rows = (sR rows / (n : Int), 0)) := by show _ = _; rw [rMultiProps, hp, hlen]; rfl
    have HS := hid (fun (w1 : World) (b : Below w.heap.size w w1) (hx : Bx w1 w.heap.size 26 #[.slice A n c]) => l04Sum_at w.heap.size 0 A n c rows w1 (mOk_iff.1 hp).1 hx.bo ((hr.below b (Nat.le_refl _)).more b.size))
    have HB0 := hid hB0
    have HX := hid hX
    generalize sR rows = S at *
    clear hr hp hX hl hB0 hst
    go_enter Try.func46, Try.ntmps46
    go_wp2_with fail
    refine hV.out.mono ?_
    rintro e w1 ⟨rfl, hb1⟩
    have hB1 := bchain HB0.out hb1
    have hX1 := HX.out.below hb1 HX.out.lt
    have a0 : w1.cell? ⟨w.heap.size, 0, none⟩ = some (.slice A n c) := hX1.cell 0
    have hl0 := hX1.lt
    have hC := hid (fun (k : Nat) => HS.out (w1.drewN k) (hB1.trans (below_drewN (Below.refl _ _) k)) (show Bx (w1.drewN k) _ _ _ from hX1))
    clear hV HX HB0 hb1 hX1 HS
    go_wp2
    go_quiet (first | (go_at_call 114; with_reducible exact quiet_same (hC.out _)))
    go_wp2
    go_ret2
    exact ⟨by rw [HO.out]; first | done | rfl, (by repeat' (first | exact Below.refl _ _ | (with_reducible assumption) | (with_reducible refine Below.alloc ?_ ?_ _) | (with_reducible refine Below.setCell ?_ ?_ _) | (with_reducible refine Below.drew ?_) | (with_reducible refine below_drewN ?_ _) | (refine Below.trans ?_ (Below.mono (by assumption) ?_)) | (with_reducible exact Nat.le_refl _) | (with_reducible assumption) | (exact Below.size (by assumption)) | omega | go_size | (simp at *; omega)))⟩
end Go.Proofs.Ytlbhfjbbkkkldaa

/- Plain: the sum of all throws of a valid multiplex pattern is a multiple of its period; the sums of two patterns that are juggled at once. -/
namespace Go.Proofs.Ytlbhfjbbkkkldaa
open Go.RowKit
set_option linter.unusedVariables false

def sN : List Nat → Nat
  | [] => 0
  | x :: l => x + sN l
theorem sN_app : ∀ (l m : List Nat), sN (l ++ m) = sN l + sN m
  | [], m => by simp [sN]
  | x :: l, m => by rw [List.cons_append, sN, sN, sN_app l m]; omega
theorem sN_perm {l m : List Nat} (h : l.Perm m) : sN l = sN m := by
  induction h with
  | nil => rfl
  | cons x _ ih => rw [sN, sN, ih]
  | swap x y l => simp only [sN]; omega
  | trans _ _ a b => exact a.trans b
theorem sN_rep (m k : Nat) : sN (List.replicate m k) = k * m := by
  induction m with
  | zero => rfl
  | succ m ih => rw [List.replicate_succ, sN, ih, Nat.mul_succ]; omega
/-- What a row's throws add up to. -/
def tRow (r : List Int) : Nat := sN ((psv r).map Int.toNat)
def tR : List (List Int) → Nat
  | [] => 0
  | r :: rs => tRow r + tR rs
def mBk : Nat → List (List Int) → List Nat
  | _, [] => []
  | i, r :: rs => List.replicate (psv r).length i ++ mBk (i + 1) rs
theorem mBk_low : ∀ (rows : List (List Int)) (k a : Nat), a < k → (mBk k rows).count a = 0
  | [], _, _, _ => rfl
  | r :: rs, k, a, h => by
    have hne : (k == a) = false := by simp; omega
    rw [mBk, List.count_append, List.count_replicate, hne, mBk_low rs (k + 1) a (by omega)]
    rfl
theorem mBk_at : ∀ (rows : List (List Int)) (k j : Nat), (mBk k rows).count (k + j) = ((rows[j]?).map fun r => (psv r).length).getD 0
  | [], _, _ => rfl
  | r :: rs, k, 0 => by
    rw [mBk, List.count_append, List.count_replicate, mBk_low rs (k + 1) (k + 0) (by omega)]
    simp
  | r :: rs, k, j + 1 => by
    have hne : (k == k + (j + 1)) = false := by simp
    rw [mBk, List.count_append, List.count_replicate, hne, show k + (j + 1) = k + 1 + j by omega, mBk_at rs (k + 1) j]
    simp
theorem lnd_sum (n k : Nat) (l : List Int) : sN (l.map fun t => (k + t.toNat) % n) % n = (k * l.length + sN (l.map Int.toNat)) % n := by
  induction l with
  | nil => rfl
  | cons t l ih =>
    rw [List.map_cons, List.map_cons, sN, sN, Nat.add_mod, Nat.mod_mod, ih, ← Nat.add_mod, List.length_cons, Nat.mul_succ]
    congr 1
    omega
theorem rows_sum (n : Nat) : ∀ (rows : List (List Int)) (k : Nat), sN (mLnds n k rows) % n = (sN (mBk k rows) + tR rows) % n
  | [], _ => rfl
  | r :: rs, k => by
    have h1 : sN (mLnd n k r) % n = (k * (psv r).length + tRow r) % n := lnd_sum n k (psv r)
    have h2 := rows_sum n rs (k + 1)
    rw [mLnds, mBk, tR, sN_app, sN_app, sN_rep, Nat.add_mod, h1, h2, ← Nat.add_mod]
    congr 1
    omega
theorem mLnds_lt {n : Nat} (hn : 0 < n) : ∀ (rows : List (List Int)) (k : Nat), ∀ y ∈ mLnds n k rows, y < n
  | [], _, _, h => by simp [mLnds] at h
  | r :: rs, k, y, h => by
    rw [mLnds] at h
    rcases List.mem_append.1 h with h | h
    · obtain ⟨t, _, rfl⟩ := List.mem_map.1 h
      exact Nat.mod_lt _ hn
    · exact mLnds_lt hn rs (k + 1) y h
theorem lnd_perm {rows : List (List Int)} (h : mOk rows = true) : (mLnds rows.length 0 rows).Perm (mBk 0 rows) := by
  obtain ⟨hs, hl⟩ := mOk_iff.1 h
  have hs2 := msSh_iff.1 hs
  rw [List.perm_iff_count]
  intro a
  have hb := mBk_at rows 0 a
  rw [Nat.zero_add] at hb
  rw [hb]
  by_cases ha : a < rows.length
  · have h1 := hl a ha
    have hx : rows[a]? = some rows[a] := List.getElem?_eq_getElem ha
    rw [mLn_at hx, beq_iff_eq, thr_psv (hs2.2 _ (List.getElem_mem ha))] at h1
    rw [hx]
    simp only [Option.map_some, Option.getD_some]
    omega
  · rw [List.getElem?_eq_none (by omega)]
    simp only [Option.map_none, Option.getD_none]
    exact List.count_eq_zero.2 fun hm => ha (mLnds_lt (by omega) rows 0 a hm)
theorem sI_tRow : ∀ {r : List Int}, (∀ t ∈ r, 0 ≤ t) → sI r = (tRow r : Int)
  | [], _ => rfl
  | t :: r, h => by
    have ht := h t (by simp)
    have ih := sI_tRow (r := r) (fun x hx => h x (by simp [hx]))
    rw [sI, ih]
    unfold tRow psv
    by_cases h0 : 0 < t
    · rw [List.filter_cons_of_pos (by simpa using h0), List.map_cons, sN]; omega
    · rw [List.filter_cons_of_neg (by simpa using h0)]; omega
theorem sR_tR : ∀ {rows : List (List Int)}, (∀ r ∈ rows, mstOk r = true) → sR rows = (tR rows : Int)
  | [], _ => rfl
  | r :: rs, h => by
    rw [sR, tR, sI_tRow (fun t ht => (mstOk_bd (h r (by simp)) ht).1), sR_tR (fun x hx => h x (by simp [hx]))]; omega
/-- The sum of all throws is the number of props times the period. -/
theorem multi_sum {rows : List (List Int)} (h : mOk rows = true) : (rows.length : Int) ∣ sR rows := by
  have h1 := rows_sum rows.length rows 0
  rw [sN_perm (lnd_perm h)] at h1
  have h2 := Nat.sub_mod_eq_zero_of_mod_eq h1.symm
  rw [Nat.add_sub_cancel_left] at h2
  rw [sR_tR (msSh_iff.1 (mOk_iff.1 h).1).2]
  exact Int.natCast_dvd_natCast.2 (Nat.dvd_of_mod_eq_zero h2)
theorem multi_sum' {rows : List (List Int)} (h : mOk rows = true) : sR rows / (rows.length : Int) * (rows.length : Int) = sR rows := Int.ediv_mul_cancel (multi_sum h)
theorem tRow_sortZ (x y : List Int) : tRow (rSortZ (x ++ y)) = tRow x + tRow y := by
  unfold tRow
  rw [sN_perm ((psv_sortZ (x ++ y)).map Int.toNat), psv_append, List.map_append, sN_app]
theorem tR_addR : ∀ {a b : List (List Int)}, a.length = b.length → tR (addR a b) = tR a + tR b
  | [], [], _ => rfl
  | x :: a, y :: b, h => by
    have ih := tR_addR (a := a) (b := b) (by simpa using h)
    show tRow (rSortZ (x ++ y)) + tR (addR a b) = tRow x + tR a + (tRow y + tR b)
    rw [tRow_sortZ, ih]; omega
  | [], _ :: _, h => by simp at h
  | _ :: _, [], h => by simp at h
theorem sR_addR {a b : List (List Int)} (ha : mOk a = true) (hb : mOk b = true) (hl : a.length = b.length) (hc : mOk (addR a b) = true) : sR (addR a b) = sR a + sR b := by
  rw [sR_tR (msSh_iff.1 (mOk_iff.1 hc).1).2, sR_tR (msSh_iff.1 (mOk_iff.1 ha).1).2, sR_tR (msSh_iff.1 (mOk_iff.1 hb).1).2, tR_addR hl]
  omega
/-- The props of two patterns that are juggled at once. -/
theorem props_addR {a b : List (List Int)} (ha : mOk a = true) (hb : mOk b = true) (hl : a.length = b.length) (hc : mOk (addR a b) = true) : sR (addR a b) / ((addR a b).length : Int) = sR a / (a.length : Int) + sR b / (b.length : Int) := by
  rw [sR_addR ha hb hl hc, addR_len hl, ← hl, Int.add_ediv_of_dvd_left (multi_sum ha)]
/-- As many props land as are thrown. -/
theorem land_at {rows : List (List Int)} (h : mOk rows = true) {i : Nat} {r : List Int} (hr : rows[i]? = some r) : (rLand rows)[i]? = some (thr r) := by
  have hi := (List.getElem?_eq_some_iff.1 hr).1
  have h1 := (mOk_iff.1 h).2 i hi
  rw [mLn_at hr, beq_iff_eq] at h1
  rw [rLand_at hi, h1]
theorem rAdd_bd {a b s : List (List Int)} {x : Int} (h : rAddMulti a b = (s, x)) (hn : a.length ≤ 13) : s.length ≤ 13 ∧ ∀ r ∈ s, r.length ≤ 4 := by
  unfold rAddMulti at h
  split at h
  · injection h with h _; subst h; exact ⟨Nat.zero_le _, by simp⟩
  · split at h
    · injection h with h _; subst h; exact ⟨Nat.zero_le _, by simp⟩
    · split at h
      · injection h with h _
        subst h
        rename_i h1 h2 h3 h4
        exact ⟨by rw [addR_len (Classical.byContradiction h2)]; exact hn, addR_four h3⟩
      · injection h with h _; subst h; exact ⟨Nat.zero_le _, by simp⟩
theorem rLnd_ok {m : List (List Int)} {l : List Int} (h : rMultiLandings m = (l, 0)) : mOk m = true ∧ l = rLand m := by
  unfold rMultiLandings at h
  split at h
  · rename_i hm
    injection h with h _
    exact ⟨hm, h.symm⟩
  · injection h with _ h; cases h
theorem rPr_ok {m : List (List Int)} (h : mOk m = true) : rMultiProps m = (sR m / (m.length : Int), 0) := by rw [rMultiProps, if_pos h]
theorem pr_bd {m : List (List Int)} (h : mOk m = true) : 0 ≤ sR m ∧ sR m ≤ 720 ∧ 0 ≤ sR m / (m.length : Int) ∧ sR m / (m.length : Int) ≤ 720 := by
  obtain ⟨⟨h1, h12⟩, hs⟩ := msSh_iff.1 (mOk_iff.1 h).1
  obtain ⟨b1, b2⟩ := sR_bd hs
  have h3 : 0 ≤ sR m / (m.length : Int) := Int.ediv_nonneg b1 (by omega)
  have h4 : sR m / (m.length : Int) ≤ sR m := Int.ediv_le_self _ b1
  omega
theorem rAdd_full {a b s : List (List Int)} (h : rAddMulti a b = (s, 0)) : mOk a = true ∧ mOk b = true ∧ a.length = b.length ∧ s = addR a b ∧ mOk s = true := by
  have h4 := (rAdd_ok h).1
  by_cases h1 : mOk a = false ∨ mOk b = false
  · rw [rAdd_1 h1] at h; injection h with _ h; cases h
  · have ha : mOk a = true := by cases hq : mOk a <;> simp_all
    have hb : mOk b = true := by cases hq : mOk b <;> simp_all
    by_cases h2 : a.length = b.length
    · rw [rAdd_z ha hb h2] at h
      split at h
      · injection h with h _
        exact ⟨ha, hb, h2, h.symm, h4⟩
      · injection h with _ h; cases h
    · rw [rAdd_6 ha hb h2] at h; injection h with _ h; cases h
theorem rAdd_back {a b s : List (List Int)} (h : rAddMulti a b = (s, 0)) : rAddMulti b a = (s, 0) := by
  obtain ⟨ha, hb, hl, hs, hq⟩ := rAdd_full h
  rw [rAdd_z hb ha hl.symm, addR_comm b a, ← hs, if_pos hq]
theorem rAdd_props {a b s : List (List Int)} (h : rAddMulti a b = (s, 0)) : sR s / (s.length : Int) = sR a / (a.length : Int) + sR b / (b.length : Int) := by
  obtain ⟨ha, hb, hl, hs, hq⟩ := rAdd_full h
  subst hs
  exact props_addR ha hb hl hq
theorem rLnd_bd {m : List (List Int)} {l : List Int} {x : Int} (h : rMultiLandings m = (l, x)) (hn : m.length ≤ 13) : l.length ≤ 13 := by
  unfold rMultiLandings at h
  split at h
  · injection h with h _; subst h; rw [rLand_len]; exact hn
  · injection h with h _; subst h; exact Nat.zero_le _
end Go.Proofs.Ytlbhfjbbkkkldaa

/- Contract of DrawAddMulti. -/
namespace Go.Proofs.Ytlbhfjbbkkkldaa
open Go.RowKit
set_option linter.unusedVariables false

def TwoMb (B : Nat) (w : World) (e : Ending) : Prop := ∃ A1 n1 c1 A2 n2 c2, e = .returned (.tuple #[.agg #[.slice A1 n1 c1], .agg #[.slice A2 n2 c2]]) ∧ Mb B w A1 n1 ∧ Mb B w A2 n2
set_option maxRecDepth 100000 in
set_option maxHeartbeats 2000000 in
theorem DrawAddMulti_any (A : Option Addr) (n c : Nat) (xs : List Int) (w : World) (hn : n ≤ 1099511627776) (hx : ∀ x ∈ xs, 0 ≤ x ∧ x ≤ 255) (hr : Rd w w.heap.size 1 A n (xs.map (Value.int .u8))) :
    Calls Try.prog 39 #[.slice A n c] w fun e w' => TwoMb w.heap.size w' e ∧ Below w.heap.size w w' := by
  obtain ⟨W, hW⟩ : ∃ W, (w.alloc (Obj.cells #[.slice none 0 0] 26)).alloc (Obj.cells #[.slice none 0 0] 26) = W := ⟨_, rfl⟩
  have hB0 : Below w.heap.size w W := by rw [← hW]; exact (by repeat' (first | exact Below.refl _ _ | (with_reducible assumption) | (with_reducible refine Below.alloc ?_ ?_ _) | (with_reducible refine Below.setCell ?_ ?_ _) | (with_reducible refine Below.drew ?_) | (with_reducible refine below_drewN ?_ _) | (refine Below.trans ?_ (Below.mono (by assumption) ?_)) | (with_reducible exact Nat.le_refl _) | (with_reducible assumption) | (exact Below.size (by assumption)) | omega | go_size | (simp at *; omega)))
  have hzz : W.heap.size = w.heap.size + 1 + 1 := by rw [← hW]; simp
  have hX : Bx W w.heap.size 26 #[.slice none 0 0] := by rw [← hW]; exact (Bx.new _ _ _).alloc _
  have hY : Bx W (w.heap.size + 1) 26 #[.slice none 0 0] := by
    have h := Bx.new (w.alloc (Obj.cells #[.slice none 0 0] 26)) 26 #[.slice none 0 0]
    rw [World.size_alloc] at h
    rw [← hW]; exact h
  have h0 := l00From_any A n c xs W hn hx ((hr.below hB0 (Nat.le_refl _)).more hB0.size)
  rw [hzz] at h0
  have HX := hid hX
  have HY := hid hY
  have HB := hid hB0
  rw [← hW] at h0 HX HY HB
  have h0 := hid h0
  clear hx hr hX hY hB0 hzz hW W
  go_enter Try.func39, Try.ntmps39
  go_wp2_with fail
  refine h0.out.mono ?_
  rintro e w1 ⟨rfl, hs1, hb1⟩
  have l1 := hs1.lt
  have hX1 := hid (HX.out.below hb1 (by omega))
  have hY1 := hid (HY.out.below hb1 (by omega))
  have hB1 : Below w.heap.size w w1 := HB.out.trans (hb1.mono (by omega))
  have hS := hid hs1
  clear h0 HX HY HB hs1 hb1
  go_wp2_with fail
  refine (l04Bent_src _ A n c 0 xs w1 (by omega) hS.out).mono ?_
  rintro e w2 ⟨⟨A2, n2, c2, rfl, rows, hm, hn2, hr2⟩, hs2, hg2⟩
  have hX2 := hX1.out.grown hg2 (fun e => by injection e with e; omega)
  have hY2 := hY1.out.grown hg2 (fun e => by injection e with e; omega)
  have hB2 : Below w.heap.size w w2 := hB1.grown hg2 hB1.size (fun g h => by injection h with h; omega)
  have hz2 := hg2.size
  clear hg2 hX1 hY1 hB1 hS
  obtain ⟨W, hW⟩ : ∃ W, w2.alloc (Obj.cells #[.slice A2 n2 c2] 26) = W := ⟨_, rfl⟩
  have hbW : Below w2.heap.size w2 W := by rw [← hW]; exact (by repeat' (first | exact Below.refl _ _ | (with_reducible assumption) | (with_reducible refine Below.alloc ?_ ?_ _) | (with_reducible refine Below.setCell ?_ ?_ _) | (with_reducible refine Below.drew ?_) | (with_reducible refine below_drewN ?_ _) | (refine Below.trans ?_ (Below.mono (by assumption) ?_)) | (with_reducible exact Nat.le_refl _) | (with_reducible assumption) | (exact Below.size (by assumption)) | omega | go_size | (simp at *; omega)))
  have HP : Hid (Bx W w2.heap.size 26 #[.slice A2 n2 c2]) := by rw [← hW]; exact Bx.new _ _ _
  have HM := hid ((hm.below hbW (Nat.le_refl _)).more (Nat.le_refl _) hbW.size)
  have HX2 := hid (hX2.below hbW hX2.lt)
  have HY2 := hid (hY2.below hbW hY2.lt)
  have HB2 := hid (bchain hB2 hbW)
  have HS2 := hid (hs2.below hbW (by omega))
  have HZ : Hid (w2.heap.size < W.heap.size) := HP.out.lt
  rw [← hW] at HP HM HX2 HY2 HB2 HS2 HZ
  have hw2 : w.heap.size + 1 < w2.heap.size := hY2.lt
  have hcn : n2 ≤ 13 := hn2
  have HR := hid hr2
  clear hW hbW hX2 hY2 hB2 hs2 hm hn2 hr2 W
  go_wp2_with fail
  refine (one_src _ A n c (0 + 400) xs 8 _ (by omega) (by omega) HS2.out).mono ?_
  rintro e w3 ⟨⟨b, rfl⟩, hs3, hg3⟩
  have X3 := hid (HX2.out.grown hg3 (fun e => by injection e with e; omega))
  have Y3 := hid (HY2.out.grown hg3 (fun e => by injection e with e; omega))
  have P3 := hid (HP.out.grown hg3 (fun e => by injection e with e; omega))
  have M3 := hid (HM.out.grown hg3 (by omega) (by have := HZ.out; omega))
  have B3 := hid (HB2.out.grown hg3 HB2.out.size (fun g h => by injection h with h; omega))
  have z3 := hg3.size
  have S3 := hid hs3
  have l3 : w2.heap.size < w3.heap.size := P3.out.lt
  clear HX2 HY2 HP HM HB2 HS2 HZ hs3 hg3 z3
  obtain ⟨we, rfl⟩ : ∃ we : World, we = w3 := ⟨_, rfl⟩
  go_upto_if 15 with fail
  go_cut [6] (fun s wx => Hid (wx = we ∧ ∃ (N : Nat), s = .int .i64 (N : Int) ∧ N ≤ 14))
  case first =>
    cases b
    · go_wp2_with fail
      go_meet
      exact hid ⟨rfl, n2, rfl, by omega⟩
    · go_wp2_with fail
      go_meet
      exact hid ⟨rfl, n2 + 1, by go_num, by omega⟩
  case rest =>
    obtain ⟨rfl, N, rfl, hN⟩ := hcut.out
    clear hcut
    go_upto_if 20 with (go_at_call 95; refine (l00In_any _ _ _ _).mono ?_; rintro e w' ⟨rfl, rfl⟩)
    go_cut [6] (fun s wx => Hid (wx = wc ∧ ∃ (M : Nat), s = .int .i64 (M : Int) ∧ 1 ≤ M ∧ M ≤ 12))
    case first =>
      cases hq : betweenB (N : Int) 1 12 with
      | true =>
        have h2 := (betweenB_iff _ _ _).1 hq
        go_wp2_with fail
        go_meet
        exact hid ⟨rfl, N, rfl, by omega, by omega⟩
      | false =>
        go_wp2_with fail
        go_meet
        exact hid ⟨rfl, 2, rfl, by omega, by omega⟩
    case rest =>
      obtain ⟨rfl, M, rfl, hM1, hM2⟩ := hcut.out
      clear hcut hN N
      have HC := hid (fun (W' : World) (b1 : Below wc.heap.size wc W') => (l04Draw_src (w.heap.size + 1 + 1) A n c (0 + 400 + 2) xs M W' (by omega) hM1 (by omega) (S3.out.below b1 (by omega))).mono (fun e w'' h => show ∃ A5 c5, e = .returned (.agg #[.slice A5 M c5]) ∧ Mv wc.heap.size M w'' A5 c5 ∧ wc.grownBy w'' (some (w.heap.size + 1 + 1)) by
        obtain ⟨⟨A5, c5, h1, q, q1, q2, q3⟩, _, h5⟩ := h
        exact ⟨A5, c5, h1, ⟨q, q1.more b1.size, q2, q3⟩, grown_trans (grown_bl (World.grownBy.refl wc (some (w.heap.size + 1 + 1))) b1 (Nat.le_refl _)) h5⟩))
      have HPX := hid (fun (wx : World) (hg : wc.grownBy wx (some (w.heap.size + 1 + 1))) => show Bx wx w.heap.size 26 #[.slice none 0 0] ∧ Bx wx (w.heap.size + 1) 26 #[.slice none 0 0] ∧ Bx wx w2.heap.size 26 #[.slice A2 n2 c2] ∧ RdH wx w1.heap.size (w2.heap.size + 1) A2 n2 rows from ⟨X3.out.grown hg (fun e => by injection e with e; omega), Y3.out.grown hg (fun e => by injection e with e; omega), P3.out.grown hg (fun e => by injection e with e; omega), (M3.out.more (Nat.le_refl _) (by simp)).grown hg (by omega) (by omega)⟩)
      have p0 := bx_c0 P3.out
      go_wp2
      go_region_law (go_simp; go_wp2_with (go_at_call 107; with_reducible refine (HC.out _ ?_).mono ?_; (exact (by repeat' (first | exact Below.refl _ _ | (with_reducible assumption) | (with_reducible refine Below.alloc ?_ ?_ _) | (with_reducible refine Below.setCell ?_ ?_ _) | (with_reducible refine Below.drew ?_) | (with_reducible refine below_drewN ?_ _) | (refine Below.trans ?_ (Below.mono (by assumption) ?_)) | (with_reducible exact Nat.le_refl _) | (with_reducible assumption) | (exact Below.size (by assumption)) | omega | go_size | (simp at *; omega)))); rintro e w5 ⟨A5, c5, rfl, hM5, hg5⟩; obtain ⟨x5, y5, p5, m5⟩ := HPX.out w5 hg5; have u0 := bx_c0 p5; have u1 := bx_c0 x5; have u2 := bx_c0 y5; have u3 := x5.frozen 0; have u4 := y5.frozen 0))
      all_goals
        have hz5 := hg5.size
        have hb5 := hid (B3.out.grown hg5 B3.out.size (fun g h => by injection h with h; omega))
        obtain ⟨W, hW⟩ : ∃ W, (w5.setCell ⟨w.heap.size, 0, none⟩ (.slice A2 n2 c2)).setCell ⟨w.heap.size + 1, 0, none⟩ (.slice A5 M c5) = W := ⟨_, rfl⟩
        have k2 : Bx W w.heap.size 26 #[.slice A2 n2 c2] := by
          rw [← hW]
          exact (x5.set_ 0 _).far (p := ⟨w.heap.size + 1, 0, none⟩) (by show w.heap.size ≠ w.heap.size + 1; omega) _
        have k3 : Bx W (w.heap.size + 1) 26 #[.slice A5 M c5] := by
          rw [← hW]
          exact (y5.far (p := ⟨w.heap.size, 0, none⟩) (by show w.heap.size + 1 ≠ w.heap.size; omega) _).set_ 0 _
        have HB : Hid (Below w.heap.size w W) := by
          rw [← hW]
          exact (hb5.out.setCell (p := ⟨w.heap.size, 0, none⟩) (by show w.heap.size ≤ w.heap.size; omega) _).setCell (p := ⟨w.heap.size + 1, 0, none⟩) (by show w.heap.size ≤ w.heap.size + 1; omega) _
        have hzW : W.heap.size = w5.heap.size := by rw [← hW]; simp
        have H1 : Hid (Mb w.heap.size W A2 n2) := by
          refine ⟨rows, ?_, hcn, HR.out⟩
          rw [hzW, ← hW]
          exact ((m5.setCell (p := ⟨w.heap.size, 0, none⟩) (.inl (by show w.heap.size < w1.heap.size; omega)) _).setCell (p := ⟨w.heap.size + 1, 0, none⟩) (.inl (by show w.heap.size + 1 < w1.heap.size; omega)) _).more (by omega) (by omega)
        have H2 : Hid (Mb w.heap.size W A5 M) := by
          obtain ⟨q, q1, q2, q3⟩ := hM5
          refine ⟨q, ?_, by omega, fun r hr => by have := (q3 r hr).1; omega⟩
          rw [hzW, ← hW]
          exact ((q1.rdH.setCell (p := ⟨w.heap.size, 0, none⟩) (.inl (by show w.heap.size < wc.heap.size; omega)) _).setCell (p := ⟨w.heap.size + 1, 0, none⟩) (.inl (by show w.heap.size + 1 < wc.heap.size; omega)) _).more (by omega) (Nat.le_refl _)
        have r0 := bx_c0 k2
        have r1 := bx_c0 k3
        rw [hW]
        clear hb5 hzW k2 k3 hW hM5 x5 y5 p5 m5 u0 u1 u2 u3 u4 HC HPX
        go_wp2
        refine bodyPost_ret (v := .tuple #[.agg #[.slice A2 n2 c2], .agg #[.slice A5 M c5]]) ?_ rfl ?_
        · simp (maxDischargeDepth := 8) [results, Try.results39, go_sem, *]
        exact ⟨⟨_, _, _, _, _, _, rfl, H1.out, H2.out⟩, HB.out⟩
end Go.Proofs.Ytlbhfjbbkkkldaa

/- Contracts that compare multiplex patterns: l00Same, sameNumbers, SameMulti (both). -/
namespace Go.Proofs.Ytlbhfjbbkkkldaa
open Go.RowKit
set_option linter.unusedVariables false

theorem sameNums_any (A A' : Option Addr) (n n' c c' : Nat) (xs ys : List Int) (w : World) (hn : n ≤ 1099511627776) (hn' : n' ≤ 1099511627776) (h : Rd w w.heap.size 1 A n (ints xs)) (h' : Rd w w.heap.size 1 A' n' (ints ys)) :
    Calls Try.prog 124 #[.slice A n c, .slice A' n' c'] w fun e w' => e = .returned (.bool (decide (xs = ys))) ∧ Below w.heap.size w w' := by
  have hl := h.len
  have hl' := h'.len
  by_cases hnn : n = n'
  · subst hnn
    have hst : Hid (decide (xs.drop 0 = ys.drop 0) = decide (xs = ys)) := rfl
    go_enter Try.func124, Try.ntmps124
    go_wp2
    go_loopw [13] (fun i wr => ∃ k : Nat, k ≤ n ∧ i = .int .i64 k ∧ Hid (decide (xs.drop k = ys.drop k) = decide (xs = ys)) ∧ Below w.heap.size w wr) (fun i _ => n - (intOf i).toNat)
    case atStart => exact ⟨0, Nat.zero_le _, rfl, hst, Below.refl _ _⟩
    case round =>
    obtain ⟨k, hk, rfl, he, hb0⟩ := hrel
    by_cases hlt : k < n
    · obtain ⟨b, off, x, rfl, hb, hx, hd, hc⟩ := (h.below hb0 (Nat.le_refl _)).at_ hlt
      obtain ⟨b', off', x', rfl, hb', hx', hd', hc'⟩ := (h'.below hb0 (Nat.le_refl _)).at_ hlt
      by_cases hxx : x = x'
      · have hq : (x != x') = false := by simp [hxx]
        have HZ : Hid (decide (xs.drop (k + 1) = ys.drop (k + 1)) = decide (xs = ys)) := by
          show _ = _
          rw [← he.out, hd, hd', hxx]; simp
        clear hx hx' hd hd' he hst h h' hb hb' hl hl' hxx
        go_wp2
        go_quiet (fail)
        go_wp2
        go_roundw
        case rel => exact ⟨k + 1, by omega, by go_num, HZ, (by repeat' (first | exact Below.refl _ _ | (with_reducible assumption) | (with_reducible refine Below.alloc ?_ ?_ _) | (with_reducible refine Below.setCell ?_ ?_ _) | (with_reducible refine Below.drew ?_) | (with_reducible refine below_drewN ?_ _) | (refine Below.trans ?_ (Below.mono (by assumption) ?_)) | (with_reducible exact Nat.le_refl _) | (with_reducible assumption) | (exact Below.size (by assumption)) | omega | go_size | (simp at *; omega)))⟩
        case measure => simp [intOf]; omega
      · have hq : (x != x') = true := by simpa using hxx
        have HZ : Hid (decide (xs = ys) = false) := by
          show _ = _
          rw [← he.out, hd, hd']; simp [hxx]
        clear hx hx' hd hd' he hst h h' hb hb' hl hl' hxx
        go_wp2
        go_quiet (fail)
        go_wp2
        go_ret
        exact ⟨ret_bool HZ.out.symm, (by repeat' (first | exact Below.refl _ _ | (with_reducible assumption) | (with_reducible refine Below.alloc ?_ ?_ _) | (with_reducible refine Below.setCell ?_ ?_ _) | (with_reducible refine Below.drew ?_) | (with_reducible refine below_drewN ?_ _) | (refine Below.trans ?_ (Below.mono (by assumption) ?_)) | (with_reducible exact Nat.le_refl _) | (with_reducible assumption) | (exact Below.size (by assumption)) | omega | go_size | (simp at *; omega)))⟩
    · have HZ : Hid (decide (xs = ys) = true) := by
        show _ = _
        rw [← he.out, List.drop_eq_nil_of_le (by omega), List.drop_eq_nil_of_le (by omega)]; rfl
      clear he hst hl hl' h h'
      go_wp2
      go_ret
      exact ⟨ret_bool HZ.out.symm, (by repeat' (first | exact Below.refl _ _ | (with_reducible assumption) | (with_reducible refine Below.alloc ?_ ?_ _) | (with_reducible refine Below.setCell ?_ ?_ _) | (with_reducible refine Below.drew ?_) | (with_reducible refine below_drewN ?_ _) | (refine Below.trans ?_ (Below.mono (by assumption) ?_)) | (with_reducible exact Nat.le_refl _) | (with_reducible assumption) | (exact Below.size (by assumption)) | omega | go_size | (simp at *; omega)))⟩
  · have HZ : Hid (decide (xs = ys) = false) := by
      show _ = _
      refine decide_eq_false fun e => hnn ?_
      rw [← hl, ← hl', e]
    clear hl hl' h h'
    go_enter Try.func124, Try.ntmps124
    go_wp2
    go_ret
    exact ⟨ret_bool HZ.out.symm, (by repeat' (first | exact Below.refl _ _ | (with_reducible assumption) | (with_reducible refine Below.alloc ?_ ?_ _) | (with_reducible refine Below.setCell ?_ ?_ _) | (with_reducible refine Below.drew ?_) | (with_reducible refine below_drewN ?_ _) | (refine Below.trans ?_ (Below.mono (by assumption) ?_)) | (with_reducible exact Nat.le_refl _) | (with_reducible assumption) | (exact Below.size (by assumption)) | omega | go_size | (simp at *; omega)))⟩
theorem l00Same_any (A A' : Option Addr) (n n' c c' : Nat) (xs ys : List Int) (w : World) (hn : n ≤ 1099511627776) (hn' : n' ≤ 1099511627776) (h : Rd w w.heap.size 1 A n (ints xs)) (h' : Rd w w.heap.size 1 A' n' (ints ys)) :
    Calls Try.prog 80 #[.slice A n c, .slice A' n' c'] w fun e w' => e = .returned (.bool (decide (xs = ys))) ∧ Below w.heap.size w w' := by
  have hl := h.len
  have hl' := h'.len
  by_cases hnn : n = n'
  · subst hnn
    have hst : Hid (decide (xs.drop 0 = ys.drop 0) = decide (xs = ys)) := rfl
    go_enter Try.func80, Try.ntmps80
    go_wp2
    go_loopw [5] (fun i wr => ∃ k : Nat, k ≤ n ∧ i = .int .i64 k ∧ Hid (decide (xs.drop k = ys.drop k) = decide (xs = ys)) ∧ Below w.heap.size w wr) (fun i _ => n - (intOf i).toNat)
    case atStart => exact ⟨0, Nat.zero_le _, rfl, hst, Below.refl _ _⟩
    case round =>
    obtain ⟨k, hk, rfl, he, hb0⟩ := hrel
    by_cases hlt : k < n
    · obtain ⟨b, off, x, rfl, hb, hx, hd, hc⟩ := (h.below hb0 (Nat.le_refl _)).at_ hlt
      obtain ⟨b', off', x', rfl, hb', hx', hd', hc'⟩ := (h'.below hb0 (Nat.le_refl _)).at_ hlt
      by_cases hxx : x = x'
      · have hq : (x != x') = false := by simp [hxx]
        have HZ : Hid (decide (xs.drop (k + 1) = ys.drop (k + 1)) = decide (xs = ys)) := by
          show _ = _
          rw [← he.out, hd, hd', hxx]; simp
        clear hx hx' hd hd' he hst h h' hb hb' hl hl' hxx
        go_wp2
        go_quiet (fail)
        go_wp2
        go_roundw
        case rel => exact ⟨k + 1, by omega, by go_num, HZ, (by repeat' (first | exact Below.refl _ _ | (with_reducible assumption) | (with_reducible refine Below.alloc ?_ ?_ _) | (with_reducible refine Below.setCell ?_ ?_ _) | (with_reducible refine Below.drew ?_) | (with_reducible refine below_drewN ?_ _) | (refine Below.trans ?_ (Below.mono (by assumption) ?_)) | (with_reducible exact Nat.le_refl _) | (with_reducible assumption) | (exact Below.size (by assumption)) | omega | go_size | (simp at *; omega)))⟩
        case measure => simp [intOf]; omega
      · have hq : (x != x') = true := by simpa using hxx
        have HZ : Hid (decide (xs = ys) = false) := by
          show _ = _
          rw [← he.out, hd, hd']; simp [hxx]
        clear hx hx' hd hd' he hst h h' hb hb' hl hl' hxx
        go_wp2
        go_quiet (fail)
        go_wp2
        go_ret
        exact ⟨ret_bool HZ.out.symm, (by repeat' (first | exact Below.refl _ _ | (with_reducible assumption) | (with_reducible refine Below.alloc ?_ ?_ _) | (with_reducible refine Below.setCell ?_ ?_ _) | (with_reducible refine Below.drew ?_) | (with_reducible refine below_drewN ?_ _) | (refine Below.trans ?_ (Below.mono (by assumption) ?_)) | (with_reducible exact Nat.le_refl _) | (with_reducible assumption) | (exact Below.size (by assumption)) | omega | go_size | (simp at *; omega)))⟩
    · have HZ : Hid (decide (xs = ys) = true) := by
        show _ = _
        rw [← he.out, List.drop_eq_nil_of_le (by omega), List.drop_eq_nil_of_le (by omega)]; rfl
      clear he hst hl hl' h h'
      go_wp2
      go_ret
      exact ⟨ret_bool HZ.out.symm, (by repeat' (first | exact Below.refl _ _ | (with_reducible assumption) | (with_reducible refine Below.alloc ?_ ?_ _) | (with_reducible refine Below.setCell ?_ ?_ _) | (with_reducible refine Below.drew ?_) | (with_reducible refine below_drewN ?_ _) | (refine Below.trans ?_ (Below.mono (by assumption) ?_)) | (with_reducible exact Nat.le_refl _) | (with_reducible assumption) | (exact Below.size (by assumption)) | omega | go_size | (simp at *; omega)))⟩
  · have HZ : Hid (decide (xs = ys) = false) := by
      show _ = _
      refine decide_eq_false fun e => hnn ?_
      rw [← hl, ← hl', e]
    clear hl hl' h h'
    go_enter Try.func80, Try.ntmps80
    go_wp2
    go_ret
    exact ⟨ret_bool HZ.out.symm, (by repeat' (first | exact Below.refl _ _ | (with_reducible assumption) | (with_reducible refine Below.alloc ?_ ?_ _) | (with_reducible refine Below.setCell ?_ ?_ _) | (with_reducible refine Below.drew ?_) | (with_reducible refine below_drewN ?_ _) | (refine Below.trans ?_ (Below.mono (by assumption) ?_)) | (with_reducible exact Nat.le_refl _) | (with_reducible assumption) | (exact Below.size (by assumption)) | omega | go_size | (simp at *; omega)))⟩
set_option maxRecDepth 100000 in
theorem specSameMulti_any (A A' : Option Addr) (n n' c c' : Nat) (rows rows' : List (List Int)) (w : World) (hn : n ≤ 1099511627776) (hn' : n' ≤ 1099511627776) (hl : ∀ r ∈ rows, r.length ≤ 1099511627776) (hl' : ∀ r ∈ rows', r.length ≤ 1099511627776) (h : RdG w w.heap.size A n rows) (h' : RdG w w.heap.size A' n' rows') :
    Calls Try.prog 16 #[.agg #[.slice A n c], .agg #[.slice A' n' c']] w fun e w' => e = .returned (.bool (decide (rows = rows'))) ∧ Below w.heap.size w w' := by
  have hl1 := h.len
  have hl2 := h'.len
  obtain ⟨W, hW⟩ : ∃ W, (w.alloc (Obj.cells #[.slice A n c] 26)).alloc (Obj.cells #[.slice A' n' c'] 26) = W := ⟨_, rfl⟩
  have hX : Bx W w.heap.size 26 #[.slice A n c] := by rw [← hW]; exact (Bx.new _ _ _).alloc _
  have hY : Bx W (w.heap.size + 1) 26 #[.slice A' n' c'] := by
    have := Bx.new (w.alloc (Obj.cells #[.slice A n c] 26)) 26 #[.slice A' n' c']
    rw [hW] at this
    simpa using this
  have hB : Below w.heap.size w W := by rw [← hW]; exact (by repeat' (first | exact Below.refl _ _ | (with_reducible assumption) | (with_reducible refine Below.alloc ?_ ?_ _) | (with_reducible refine Below.setCell ?_ ?_ _) | (with_reducible refine Below.drew ?_) | (with_reducible refine below_drewN ?_ _) | (refine Below.trans ?_ (Below.mono (by assumption) ?_)) | (with_reducible exact Nat.le_refl _) | (with_reducible assumption) | (exact Below.size (by assumption)) | omega | go_size | (simp at *; omega)))
  have HL1 := hid hl
  have HL2 := hid hl'
  by_cases hnn : n = n'
  · subst hnn
    have hst : Hid (decide (rows.drop 0 = rows'.drop 0) = decide (rows = rows')) := rfl
    have HST : Hid (∃ k : Nat, k = 0 ∧ Bx W w.heap.size 26 #[.slice A n c] ∧ Bx W (w.heap.size + 1) 26 #[.slice A' n c'] ∧ Below w.heap.size w W) := ⟨0, rfl, hX, hY, hB⟩
    rw [← hW] at HST
    clear hW hX hY hB hl hl' hl1 hl2 W
    go_enter Try.func16, Try.ntmps16
    go_wp2
    go_loopw [5] (fun i wr => Hid (∃ k : Nat, k ≤ n ∧ i = .int .i64 k ∧ Hid (decide (rows.drop k = rows'.drop k) = decide (rows = rows')) ∧ Bx wr w.heap.size 26 #[.slice A n c] ∧ Bx wr (w.heap.size + 1) 26 #[.slice A' n c'] ∧ Below w.heap.size w wr)) (fun i _ => n - (intOf i).toNat)
    case atStart =>
      obtain ⟨_, _, h1, h2, h3⟩ := HST.out
      exact hid ⟨0, Nat.zero_le _, rfl, hst, h1, h2, h3⟩
    case round =>
    clear HST
    obtain ⟨k, hk, rfl, he, hX, hY, hb0⟩ := hrel.out
    clear hrel
    have hz := hb0.size
    have hx1 := hX.lt
    have hy1 := hY.lt
    have x0 : wr.cell? ⟨w.heap.size, 0, none⟩ = some (.slice A n c) := hX.cell 0
    have y0 : wr.cell? ⟨w.heap.size + 1, 0, none⟩ = some (.slice A' n c') := hY.cell 0
    by_cases hlt : k < n
    · obtain ⟨b, off, row, Ai, ci, rfl, hb, hx, hd, hc, hrd⟩ := (h.below hb0 (Nat.le_refl _)).at_ hlt
      obtain ⟨b', off', row', Ai', ci', rfl, hb', hx', hd', hc', hrd'⟩ := (h'.below hb0 (Nat.le_refl _)).at_ hlt
      have hr1 := HL1.out row (List.mem_of_getElem? hx)
      have hr2 := HL2.out row' (List.mem_of_getElem? hx')
      have HE := hid (fun (w1 : World) (q : Below wr.heap.size wr w1) => l00Same_any Ai Ai' row.length row'.length ci ci' row row' w1 hr1 hr2 ((hrd.below q hz).more (Nat.le_trans hz q.size)) ((hrd'.below q hz).more (Nat.le_trans hz q.size)))
      by_cases hxx : row = row'
      · have HZ : Hid (decide (rows.drop (k + 1) = rows'.drop (k + 1)) = decide (rows = rows')) := by
          show _ = _
          rw [← he.out, hd, hd', hxx]; simp
        have HT : Hid (decide (row = row') = true) := decide_eq_true hxx
        have HX := hid hX
        have HY := hid hY
        clear hx hx' hd hd' he h h' hb hb' hxx hrd hrd' hst hX hY hr1 hr2
        go_wp2
        go_still_tail 10, (by kernel_rfl)
        change wpList _ _ _ _ _ wr.drew
        have hb1 : Below w.heap.size w wr.drew := hb0.drew
        have hX1 := hid (HX.out.drew)
        have hY1 := hid (HY.out.drew)
        have hq : Below wr.heap.size wr wr.drew := (Below.refl _ _).drew
        have hzz : wr.heap.size = wr.drew.heap.size := rfl
        have HQ := hid hzz
        clear hzz x0 y0 hc hc' HX HY
        generalize wr.drew = w2 at *
        go_wp2_with (go_at_call 80; refine (HE.out _ hq).mono ?_; rw [HT.out]; rintro e w3 ⟨rfl, hb2⟩)
        have hzq := HQ.out
        have hxq : w.heap.size < w2.heap.size := hX1.out.lt
        have hyq : w.heap.size + 1 < w2.heap.size := hY1.out.lt
        go_roundw
        case rel => exact hid ⟨k + 1, by omega, by go_num, HZ, hX1.out.below hb2 hxq, hY1.out.below hb2 hyq, hb1.trans (hb2.mono (by omega))⟩
        case measure => simp [intOf]; omega
      · have HZ : Hid (decide (rows = rows') = false) := by
          show _ = _
          rw [← he.out, hd, hd']; simp [hxx]
        have HT : Hid (decide (row = row') = false) := decide_eq_false hxx
        clear hx hx' hd hd' he h h' hb hb' hxx hrd hrd' hst hX hY hr1 hr2
        go_wp2
        go_still_tail 10, (by kernel_rfl)
        change wpList _ _ _ _ _ wr.drew
        have hb1 : Below w.heap.size w wr.drew := hb0.drew
        have hq : Below wr.heap.size wr wr.drew := (Below.refl _ _).drew
        have hzz : wr.heap.size = wr.drew.heap.size := rfl
        have HQ := hid hzz
        clear hzz x0 y0 hc hc'
        generalize wr.drew = w2 at *
        go_wp2_with (go_at_call 80; refine (HE.out _ hq).mono ?_; rw [HT.out]; rintro e w3 ⟨rfl, hb2⟩)
        go_ret
        exact ⟨ret_bool HZ.out.symm, hb1.trans (hb2.mono (by have := HQ.out; omega))⟩
    · have HZ : Hid (decide (rows = rows') = true) := by
        show _ = _
        have e1 := h.len
        have e2 := h'.len
        rw [← he.out, List.drop_eq_nil_of_le (by omega), List.drop_eq_nil_of_le (by omega)]; rfl
      clear he hst h h' hX hY
      go_wp2
      go_ret
      exact ⟨ret_bool HZ.out.symm, hb0⟩
  · have HZ : Hid (decide (rows = rows') = false) := by
      show _ = _
      refine decide_eq_false fun e => hnn ?_
      rw [← hl1, ← hl2, e]
    clear hl1 hl2 h h' hl hl' hX hY hB hW HL1 HL2 W
    go_enter Try.func16, Try.ntmps16
    go_wp2
    go_ret
    exact ⟨ret_bool HZ.out.symm, (by repeat' (first | exact Below.refl _ _ | (with_reducible assumption) | (with_reducible refine Below.alloc ?_ ?_ _) | (with_reducible refine Below.setCell ?_ ?_ _) | (with_reducible refine Below.drew ?_) | (with_reducible refine below_drewN ?_ _) | (refine Below.trans ?_ (Below.mono (by assumption) ?_)) | (with_reducible exact Nat.le_refl _) | (with_reducible assumption) | (exact Below.size (by assumption)) | omega | go_size | (simp at *; omega)))⟩
set_option maxRecDepth 100000 in
theorem SameMulti_any (A A' : Option Addr) (n n' c c' : Nat) (rows rows' : List (List Int)) (w : World) (hn : n ≤ 1099511627776) (hn' : n' ≤ 1099511627776) (hl : ∀ r ∈ rows, r.length ≤ 1099511627776) (hl' : ∀ r ∈ rows', r.length ≤ 1099511627776) (h : RdG w w.heap.size A n rows) (h' : RdG w w.heap.size A' n' rows') :
    Calls Try.prog 62 #[.agg #[.slice A n c], .agg #[.slice A' n' c']] w fun e w' => e = .returned (.bool (decide (rows = rows'))) ∧ Below w.heap.size w w' := by
  have hl1 := h.len
  have hl2 := h'.len
  obtain ⟨W, hW⟩ : ∃ W, (w.alloc (Obj.cells #[.slice A n c] 26)).alloc (Obj.cells #[.slice A' n' c'] 26) = W := ⟨_, rfl⟩
  have hX : Bx W w.heap.size 26 #[.slice A n c] := by rw [← hW]; exact (Bx.new _ _ _).alloc _
  have hY : Bx W (w.heap.size + 1) 26 #[.slice A' n' c'] := by
    have := Bx.new (w.alloc (Obj.cells #[.slice A n c] 26)) 26 #[.slice A' n' c']
    rw [hW] at this
    simpa using this
  have hB : Below w.heap.size w W := by rw [← hW]; exact (by repeat' (first | exact Below.refl _ _ | (with_reducible assumption) | (with_reducible refine Below.alloc ?_ ?_ _) | (with_reducible refine Below.setCell ?_ ?_ _) | (with_reducible refine Below.drew ?_) | (with_reducible refine below_drewN ?_ _) | (refine Below.trans ?_ (Below.mono (by assumption) ?_)) | (with_reducible exact Nat.le_refl _) | (with_reducible assumption) | (exact Below.size (by assumption)) | omega | go_size | (simp at *; omega)))
  have HL1 := hid hl
  have HL2 := hid hl'
  by_cases hnn : n = n'
  · subst hnn
    have hst : Hid (decide (rows.drop 0 = rows'.drop 0) = decide (rows = rows')) := rfl
    have HST : Hid (∃ k : Nat, k = 0 ∧ Bx W w.heap.size 26 #[.slice A n c] ∧ Bx W (w.heap.size + 1) 26 #[.slice A' n c'] ∧ Below w.heap.size w W) := ⟨0, rfl, hX, hY, hB⟩
    rw [← hW] at HST
    clear hW hX hY hB hl hl' hl1 hl2 W
    go_enter Try.func62, Try.ntmps62
    go_wp2
    go_loopw [16] (fun i wr => Hid (∃ k : Nat, k ≤ n ∧ i = .int .i64 k ∧ Hid (decide (rows.drop k = rows'.drop k) = decide (rows = rows')) ∧ Bx wr w.heap.size 26 #[.slice A n c] ∧ Bx wr (w.heap.size + 1) 26 #[.slice A' n c'] ∧ Below w.heap.size w wr)) (fun i _ => n - (intOf i).toNat)
    case atStart =>
      obtain ⟨_, _, h1, h2, h3⟩ := HST.out
      exact hid ⟨0, Nat.zero_le _, rfl, hst, h1, h2, h3⟩
    case round =>
    clear HST
    obtain ⟨k, hk, rfl, he, hX, hY, hb0⟩ := hrel.out
    clear hrel
    have hz := hb0.size
    have hx1 := hX.lt
    have hy1 := hY.lt
    have x0 : wr.cell? ⟨w.heap.size, 0, none⟩ = some (.slice A n c) := hX.cell 0
    have y0 : wr.cell? ⟨w.heap.size + 1, 0, none⟩ = some (.slice A' n c') := hY.cell 0
    by_cases hlt : k < n
    · obtain ⟨b, off, row, Ai, ci, rfl, hb, hx, hd, hc, hrd⟩ := (h.below hb0 (Nat.le_refl _)).at_ hlt
      obtain ⟨b', off', row', Ai', ci', rfl, hb', hx', hd', hc', hrd'⟩ := (h'.below hb0 (Nat.le_refl _)).at_ hlt
      have hr1 := HL1.out row (List.mem_of_getElem? hx)
      have hr2 := HL2.out row' (List.mem_of_getElem? hx')
      have HE := hid (fun (w1 : World) (q : Below wr.heap.size wr w1) => sameNums_any Ai Ai' row.length row'.length ci ci' row row' w1 hr1 hr2 ((hrd.below q hz).more (Nat.le_trans hz q.size)) ((hrd'.below q hz).more (Nat.le_trans hz q.size)))
      by_cases hxx : row = row'
      · have HZ : Hid (decide (rows.drop (k + 1) = rows'.drop (k + 1)) = decide (rows = rows')) := by
          show _ = _
          rw [← he.out, hd, hd', hxx]; simp
        have HT : Hid (decide (row = row') = true) := decide_eq_true hxx
        have HX := hid hX
        have HY := hid hY
        clear hx hx' hd hd' he h h' hb hb' hxx hrd hrd' hst hX hY hr1 hr2
        go_wp2
        go_still_tail 10, (by kernel_rfl)
        change wpList _ _ _ _ _ wr.drew
        have hb1 : Below w.heap.size w wr.drew := hb0.drew
        have hX1 := hid (HX.out.drew)
        have hY1 := hid (HY.out.drew)
        have hq : Below wr.heap.size wr wr.drew := (Below.refl _ _).drew
        have hzz : wr.heap.size = wr.drew.heap.size := rfl
        have HQ := hid hzz
        clear hzz x0 y0 hc hc' HX HY
        generalize wr.drew = w2 at *
        go_wp2_with (go_at_call 124; refine (HE.out _ hq).mono ?_; rw [HT.out]; rintro e w3 ⟨rfl, hb2⟩)
        have hzq := HQ.out
        have hxq : w.heap.size < w2.heap.size := hX1.out.lt
        have hyq : w.heap.size + 1 < w2.heap.size := hY1.out.lt
        go_roundw
        case rel => exact hid ⟨k + 1, by omega, by go_num, HZ, hX1.out.below hb2 hxq, hY1.out.below hb2 hyq, hb1.trans (hb2.mono (by omega))⟩
        case measure => simp [intOf]; omega
      · have HZ : Hid (decide (rows = rows') = false) := by
          show _ = _
          rw [← he.out, hd, hd']; simp [hxx]
        have HT : Hid (decide (row = row') = false) := decide_eq_false hxx
        clear hx hx' hd hd' he h h' hb hb' hxx hrd hrd' hst hX hY hr1 hr2
        go_wp2
        go_still_tail 10, (by kernel_rfl)
        change wpList _ _ _ _ _ wr.drew
        have hb1 : Below w.heap.size w wr.drew := hb0.drew
        have hq : Below wr.heap.size wr wr.drew := (Below.refl _ _).drew
        have hzz : wr.heap.size = wr.drew.heap.size := rfl
        have HQ := hid hzz
        clear hzz x0 y0 hc hc'
        generalize wr.drew = w2 at *
        go_wp2_with (go_at_call 124; refine (HE.out _ hq).mono ?_; rw [HT.out]; rintro e w3 ⟨rfl, hb2⟩)
        go_ret
        exact ⟨ret_bool HZ.out.symm, hb1.trans (hb2.mono (by have := HQ.out; omega))⟩
    · have HZ : Hid (decide (rows = rows') = true) := by
        show _ = _
        have e1 := h.len
        have e2 := h'.len
        rw [← he.out, List.drop_eq_nil_of_le (by omega), List.drop_eq_nil_of_le (by omega)]; rfl
      clear he hst h h' hX hY
      go_wp2
      go_ret
      exact ⟨ret_bool HZ.out.symm, hb0⟩
  · have HZ : Hid (decide (rows = rows') = false) := by
      show _ = _
      refine decide_eq_false fun e => hnn ?_
      rw [← hl1, ← hl2, e]
    clear hl1 hl2 h h' hl hl' hX hY hB hW HL1 HL2 W
    go_enter Try.func62, Try.ntmps62
    go_wp2
    go_ret
    exact ⟨ret_bool HZ.out.symm, (by repeat' (first | exact Below.refl _ _ | (with_reducible assumption) | (with_reducible refine Below.alloc ?_ ?_ _) | (with_reducible refine Below.setCell ?_ ?_ _) | (with_reducible refine Below.drew ?_) | (with_reducible refine below_drewN ?_ _) | (refine Below.trans ?_ (Below.mono (by assumption) ?_)) | (with_reducible exact Nat.le_refl _) | (with_reducible assumption) | (exact Below.size (by assumption)) | omega | go_size | (simp at *; omega)))⟩
end Go.Proofs.Ytlbhfjbbkkkldaa

/- Contracts of the texts of multiplex patterns. Printed by wip/gen_multitext.py. -/
namespace Go.Proofs.Ytlbhfjbbkkkldaa
open Go.RowKit
set_option linter.unusedVariables false

/-- Bytes as numbers. -/
def nb (l : List UInt8) : List Int := l.map fun c => (c.toNat : Int)
theorem nb_len (l : List UInt8) : (nb l).length = l.length := by simp [nb]
theorem nb_append (l m : List UInt8) : nb (l ++ m) = nb l ++ nb m := by simp [nb]
theorem nb_st (l : List UInt8) : strOfNums (nb l) = st l := by
  unfold strOfNums nb st
  rw [List.map_map]
  have h : l.map ((fun n : Int => UInt8.ofNat n.toNat) ∘ fun c : UInt8 => (c.toNat : Int)) = l.map id := List.map_congr_left fun c _ => by simp
  rw [h, List.map_id]
theorem nb_hex {r : List Int} (h : ∀ t ∈ r, 0 ≤ t ∧ t ≤ 15) : nb (r.map hexU) = r.map hexB := by
  unfold nb
  rw [List.map_map]
  exact List.map_congr_left fun t ht => hexU_nat (h t ht).1 (h t ht).2
theorem mapB_step {r : List Int} {j : Nat} {x : Int} (h : r[j]? = some x) : (r.take (j + 1)).map hexB = (r.take j).map hexB ++ [hexB x] := by
  rw [List.take_add_one, h]; simp
theorem mapU_step {r : List Int} {j : Nat} {x : Int} (h : r[j]? = some x) : (r.take (j + 1)).map hexU = (r.take j).map hexU ++ [hexU x] := by
  rw [List.take_add_one, h]; simp
set_option maxRecDepth 100000 in
set_option maxHeartbeats 4000000 in
theorem MultiText_ok (A : Option Addr) (n c : Nat) (rows : List (List Int)) (w : World) (hp : mOk rows = true) (hr : RdG w w.heap.size A n rows) :
    Calls Try.prog 11 #[.agg #[.slice A n c]] w fun e w' => e = .returned (.string (st (mT rows))) ∧ Below w.heap.size w w' := by
  have hlen := hr.len
  obtain ⟨⟨h1, h12⟩, hst⟩ := msSh_iff.1 (mOk_iff.1 hp).1
  rw [hlen] at h1 h12
  have hl : ∀ r ∈ rows, r.length ≤ 1099511627776 := fun r hr => by have := (mstOk_iff.1 (hst r hr)).1.2; omega
  have hB0 : Below w.heap.size w (w.alloc (Obj.cells #[.slice A n c] 26)) := (by repeat' (first | exact Below.refl _ _ | (with_reducible assumption) | (with_reducible refine Below.alloc ?_ ?_ _) | (with_reducible refine Below.setCell ?_ ?_ _) | (with_reducible refine Below.drew ?_) | (with_reducible refine below_drewN ?_ _) | (refine Below.trans ?_ (Below.mono (by assumption) ?_)) | (with_reducible exact Nat.le_refl _) | (with_reducible assumption) | (exact Below.size (by assumption)) | omega | go_size | (simp at *; omega)))
  have hV := ValidMulti_any A n c rows (w.alloc (Obj.cells #[.slice A n c] 26)) (by omega) hl ((hr.below hB0 (Nat.le_refl _)).more hB0.size)
  have hX := Bx.new w 26 #[.slice A n c]
  rw [hp] at hV
  have hV := hid hV
  have HST := hid hst
  have HS : Hid (strOfNums (nb (mT rows)) = st (mT rows)) := nb_st _
  have hst0 : Hid (([] : List Int) = nb (mT (rows.take 0))) := rfl
  have HR := hid hr
  have HL := hid hlen
  have HB0 := hid hB0
  have HX := hid hX
  clear hr hp hlen hX hl hB0 hst
  go_enter Try.func11, Try.ntmps11
  go_wp2_with fail
  refine hV.out.mono ?_
  rintro e w1 ⟨rfl, hb1⟩
  have hB1 := bchain HB0.out hb1
  have hX1 := HX.out.below hb1 HX.out.lt
  have a0 : w1.cell? ⟨w.heap.size, 0, none⟩ = some (.slice A n c) := hX1.cell 0
  have hl1 := hX1.lt
  clear hV HX HB0 hb1 hX1
  go_wp2
  clear a0
  go_loopw [3, 15] (fun v i wr => Hid (∃ (k : Nat) (out : List Int), k ≤ n ∧ i = .int .i64 k ∧ Hid (out = nb (mT (rows.take k))) ∧ out.length ≤ 6 * k ∧ wr.ownsRow w.heap.size 5 1 v out.length (byts out) ∧ Below w.heap.size w wr)) (fun _ i _ => n - (intOf i).toNat)
  case atStart => exact hid ⟨0, [], Nat.zero_le _, rfl, hst0, by simp, World.ownsRow_lit _ _ 0 (by first | exact hB1.size | omega) (by simp [maxLen]) rfl, (by repeat' (first | exact Below.refl _ _ | (with_reducible assumption) | (with_reducible refine Below.alloc ?_ ?_ _) | (with_reducible refine Below.setCell ?_ ?_ _) | (with_reducible refine Below.drew ?_) | (with_reducible refine below_drewN ?_ _) | (refine Below.trans ?_ (Below.mono (by assumption) ?_)) | (with_reducible exact Nat.le_refl _) | (with_reducible assumption) | (exact Below.size (by assumption)) | omega | go_size | (simp at *; omega)))⟩
  case round =>
    obtain ⟨k, out, hk, rfl, hT, hol, ho, hb0⟩ := hrel.out
    have hB := hb0.size
    clear hrel hst0 hB1 hl1
    by_cases hlt : k < n
    · obtain ⟨b, off, row, Ai, ci, rfl, hb, hx, hd, hc0, hrow⟩ := HR.out.at_ hlt
      have hc : wr.cell? ⟨b, off + k, none⟩ = some (.slice Ai row.length ci) := (hb0.cell (p := ⟨b, off + k, none⟩) hb).trans hc0
      have hm := HST.out row (List.mem_of_getElem? hx)
      have hl4 := (mstOk_iff.1 hm).1
      have HBR := hid (fun (t : Int) (ht : t ∈ row) => mstOk_bd hm ht)
      have hT0 : nb (mT (rows.take (k + 1))) = nb (mT (rows.take k)) ++ nb (rowT row) := by rw [mT_step hx, nb_append]
      have hbw : b < wr.heap.size := by omega
      have HROW := hid hrow
      by_cases hl1 : 1 < row.length
      · have h1I : (1 : Int) < (row.length : Int) := by omega
        have HT : nb (mT (rows.take (k + 1))) = ((out ++ [91]) ++ row.map hexB) ++ [93] := by
          rw [hT0, ← hT.out, rowT, if_pos hl1]
          show out ++ nb ([91] ++ (row.map hexU ++ [93])) = _
          rw [nb_append, nb_append, nb_hex HBR.out]
          simp [nb]
        have HTE := hid HT
        clear hT hx hd hm hrow hT0 HT hc0
        go_wp2_with (at_builtin; refine push_u8 ho 91 _ Try.underlying22 inf_b8 rfl rfl _ _ rfl rfl rfl (by omega) hB ?_; intro v2 w2 ho2 hb2 hg2)
        have hs0 : (out ++ [91]).length ≤ 6 * k + 1 := by rw [List.length_append]; simp; omega
        have HBX := hid (hb0.trans hb2)
        generalize (out ++ [91]) = o0 at *
        go_loopw [3, 27] (fun v i w3 => Hid (∃ (j : Nat) (o3 : List Int), j ≤ row.length ∧ i = .int .i64 j ∧ Hid (o3 = o0 ++ (row.take j).map hexB) ∧ o3.length ≤ 6 * k + 1 + j ∧ w3.ownsRow w.heap.size 5 1 v o3.length (byts o3) ∧ Below w.heap.size w w3)) (fun _ i _ => row.length - (intOf i).toNat)
        case atStart => exact hid ⟨0, o0, Nat.zero_le _, rfl, by show _ = _; simp, hs0, ho2, HBX.out⟩
        case round =>
          obtain ⟨j, o3, hj, rfl, hT, hol3, ho3, hb3⟩ := hrel.out
          have hB3 := hb3.size
          clear hrel HBX hs0 hc hbw ho2 hb2 hg2
          by_cases hjl : j < row.length
          · obtain ⟨bb, ofb, x, rfl, hbb, hxj, hdj, hcj⟩ := (HROW.out.below hb3 (Nat.le_refl _)).at_ hjl
            have hbbw : bb < wr.heap.size := by omega
            obtain ⟨x0, x1⟩ := HBR.out x (List.mem_of_getElem? hxj)
            have hst := mapB_step hxj
            obtain ⟨t, rfl⟩ := Int.eq_ofNat_of_zero_le x0
            have ht : t < 16 := by omega
            have hS := hexS_at ⟨t, ht⟩
            obtain ⟨y, hy⟩ : ∃ y, hexB (t : Int) = y := ⟨_, rfl⟩
            have hS : ((({ data := #[48, 49, 50, 51, 52, 53, 54, 55, 56, 57, 97, 98, 99, 100, 101, 102] } : ByteArray)[t]'(by rw [show ({ data := #[48, 49, 50, 51, 52, 53, 54, 55, 56, 57, 97, 98, 99, 100, 101, 102] } : ByteArray).size = 16 from rfl]; exact ht)).toNat : Int) = y := by rw [← hy]; exact hS
            have hyb := hexB_bd x0 x1
            rw [hy] at hyb hst
            obtain ⟨y0, y1⟩ := hyb
            have HZ : Hid (o3 ++ [y] = o0 ++ (row.take (j + 1)).map hexB) := by show _ = _; rw [hst, ← List.append_assoc, ← hT.out]
            have htn : (t : Int).toNat = t := by omega
            clear hxj hdj hbb hy hst hT
            go_wp2_with (at_builtin; refine push_u8 ho3 y _ Try.underlying22 inf_b8 rfl rfl _ _ rfl rfl rfl (by omega) hB3 ?_; intro v4 w4 ho4 hb4 hg4)
            have hb5 := hb3.trans hb4
            go_roundw
            case rel => exact hid ⟨j + 1, o3 ++ [y], by omega, by go_num, HZ, by rw [List.length_append]; simp; omega, ho4, hb5⟩
            case measure => simp [intOf]; omega
          · have hjn : j = row.length := by omega
            have hT2 := hT.out
            rw [hjn, List.take_length] at hT2
            have HZ : Hid (o3 ++ [93] = nb (mT (rows.take (k + 1)))) := by show _ = _; rw [hT2, HTE.out]
            clear hT hT2 hjn HTE
            go_wp2_with (at_builtin; refine push_u8 ho3 93 _ Try.underlying22 inf_b8 rfl rfl _ _ rfl rfl rfl (by omega) hB3 ?_; intro v4 w4 ho4 hb4 hg4)
            have hb5 := hb3.trans hb4
            go_roundw
            case rel => exact hid ⟨k + 1, o3 ++ [93], by omega, by go_num, HZ, by rw [List.length_append]; simp; omega, ho4, hb5⟩
            case measure => simp [intOf]; omega
      · have h1I : ¬ (1 : Int) < (row.length : Int) := by omega
        have HT : nb (mT (rows.take (k + 1))) = out ++ row.map hexB := by rw [hT0, ← hT.out, rowT, if_neg hl1, nb_hex HBR.out]
        have HTE := hid HT
        clear hT hx hd hm hrow hT0 HT hc0
        go_wp2
        have hs0 : out.length ≤ 6 * k + 1 := by omega
        have HBX := hid hb0
        obtain ⟨o0, ho0⟩ : ∃ o0, o0 = out := ⟨_, rfl⟩
        rw [← ho0] at HTE ho hs0
        go_loopw [3, 27] (fun v i w3 => Hid (∃ (j : Nat) (o3 : List Int), j ≤ row.length ∧ i = .int .i64 j ∧ Hid (o3 = o0 ++ (row.take j).map hexB) ∧ o3.length ≤ 6 * k + 1 + j ∧ w3.ownsRow w.heap.size 5 1 v o3.length (byts o3) ∧ Below w.heap.size w w3)) (fun _ i _ => row.length - (intOf i).toNat)
        case atStart => exact hid ⟨0, o0, Nat.zero_le _, rfl, by show _ = _; simp, hs0, ho, HBX.out⟩
        case round =>
          obtain ⟨j, o3, hj, rfl, hT, hol3, ho3, hb3⟩ := hrel.out
          have hB3 := hb3.size
          clear hrel HBX hs0 hc hbw ho
          by_cases hjl : j < row.length
          · obtain ⟨bb, ofb, x, rfl, hbb, hxj, hdj, hcj⟩ := (HROW.out.below hb3 (Nat.le_refl _)).at_ hjl
            have hbbw : bb < wr.heap.size := by omega
            obtain ⟨x0, x1⟩ := HBR.out x (List.mem_of_getElem? hxj)
            have hst := mapB_step hxj
            obtain ⟨t, rfl⟩ := Int.eq_ofNat_of_zero_le x0
            have ht : t < 16 := by omega
            have hS := hexS_at ⟨t, ht⟩
            obtain ⟨y, hy⟩ : ∃ y, hexB (t : Int) = y := ⟨_, rfl⟩
            have hS : ((({ data := #[48, 49, 50, 51, 52, 53, 54, 55, 56, 57, 97, 98, 99, 100, 101, 102] } : ByteArray)[t]'(by rw [show ({ data := #[48, 49, 50, 51, 52, 53, 54, 55, 56, 57, 97, 98, 99, 100, 101, 102] } : ByteArray).size = 16 from rfl]; exact ht)).toNat : Int) = y := by rw [← hy]; exact hS
            have hyb := hexB_bd x0 x1
            rw [hy] at hyb hst
            obtain ⟨y0, y1⟩ := hyb
            have HZ : Hid (o3 ++ [y] = o0 ++ (row.take (j + 1)).map hexB) := by show _ = _; rw [hst, ← List.append_assoc, ← hT.out]
            have htn : (t : Int).toNat = t := by omega
            clear hxj hdj hbb hy hst hT
            go_wp2_with (at_builtin; refine push_u8 ho3 y _ Try.underlying22 inf_b8 rfl rfl _ _ rfl rfl rfl (by omega) hB3 ?_; intro v4 w4 ho4 hb4 hg4)
            have hb5 := hb3.trans hb4
            go_roundw
            case rel => exact hid ⟨j + 1, o3 ++ [y], by omega, by go_num, HZ, by rw [List.length_append]; simp; omega, ho4, hb5⟩
            case measure => simp [intOf]; omega
          · have hjn : j = row.length := by omega
            have hT2 := hT.out
            rw [hjn, List.take_length] at hT2
            have HZ : Hid (o3 = nb (mT (rows.take (k + 1)))) := by show _ = _; rw [hT2, HTE.out]
            clear hT hT2 hjn HTE
            go_wp2
            go_roundw
            case rel => exact hid ⟨k + 1, o3, by omega, by go_num, HZ, by omega, ho3, hb3⟩
            case measure => simp [intOf]; omega
    · have hkn : k = n := by omega
      have hT := hT.out
      rw [List.take_of_length_le (by rw [HL.out]; omega)] at hT
      obtain ⟨A1, c1, rfl⟩ := own_form ho
      have hcv := string_own ho 22 Try.underlying22 Try.underlying5 9 Try.underlying9
      have hs2 : Hid (strOfNums out = st (mT rows)) := by show _ = _; rw [hT]; exact HS.out
      clear hkn ho hT
      go_wp2
      go_ret
      exact ⟨ret_str hs2.out, (by repeat' (first | exact Below.refl _ _ | (with_reducible assumption) | (with_reducible refine Below.alloc ?_ ?_ _) | (with_reducible refine Below.setCell ?_ ?_ _) | (with_reducible refine Below.drew ?_) | (with_reducible refine below_drewN ?_ _) | (refine Below.trans ?_ (Below.mono (by assumption) ?_)) | (with_reducible exact Nat.le_refl _) | (with_reducible assumption) | (exact Below.size (by assumption)) | omega | go_size | (simp at *; omega)))⟩
set_option maxRecDepth 100000 in
set_option maxHeartbeats 1000000 in
theorem MultiText_any (A : Option Addr) (n c : Nat) (rows : List (List Int)) (w : World) (hn : n ≤ 1099511627776) (hl : ∀ r ∈ rows, r.length ≤ 1099511627776) (hr : RdG w w.heap.size A n rows) :
    Calls Try.prog 11 #[.agg #[.slice A n c]] w fun e w' => e = .returned (.string (st (rMultiText rows))) ∧ Below w.heap.size w w' := by
  cases hp : mOk rows with
  | true =>
    rw [show rMultiText rows = mT rows by rw [rMultiText, if_pos hp]]
    exact MultiText_ok A n c rows w hp hr
  | false =>
    have hB0 : Below w.heap.size w (w.alloc (Obj.cells #[.slice A n c] 26)) := (by repeat' (first | exact Below.refl _ _ | (with_reducible assumption) | (with_reducible refine Below.alloc ?_ ?_ _) | (with_reducible refine Below.setCell ?_ ?_ _) | (with_reducible refine Below.drew ?_) | (with_reducible refine below_drewN ?_ _) | (refine Below.trans ?_ (Below.mono (by assumption) ?_)) | (with_reducible exact Nat.le_refl _) | (with_reducible assumption) | (exact Below.size (by assumption)) | omega | go_size | (simp at *; omega)))
    have hV := ValidMulti_any A n c rows (w.alloc (Obj.cells #[.slice A n c] 26)) hn hl ((hr.below hB0 (Nat.le_refl _)).more hB0.size)
    rw [hp] at hV
    have hV := hid hV
    have HO : Hid (st (rMultiText rows) = ⟨#[]⟩) := by show _ = _; rw [rMultiText, if_neg (by rw [hp]; decide)]; rfl
    have HB0 := hid hB0
    clear hr hp hl hB0
    go_enter Try.func11, Try.ntmps11
    go_wp2_with fail
    refine hV.out.mono ?_
    rintro e w1 ⟨rfl, hb1⟩
    have hB1 := bchain HB0.out hb1
    clear hb1
    go_wp2
    go_ret
    exact ⟨ret_str HO.out.symm, hB1⟩
set_option maxRecDepth 100000 in
set_option maxHeartbeats 4000000 in
theorem l04Text_at (g o : Nat) (A : Option Addr) (n c : Nat) (rows : List (List Int)) (w : World) (hp : msSh rows = true) (hx : Bo w g o #[.slice A n c]) (hr : RdG w w.heap.size A n rows) :
    Calls Try.prog 76 #[.pointer (some ⟨g, o, none⟩)] w fun e w' => e = .returned (.string (st (mT rows))) ∧ w = w' := by
  have hlen := hr.len
  have hgl := hx.lt
  obtain ⟨⟨h1, h12⟩, hst⟩ := msSh_iff.1 hp
  rw [hlen] at h1 h12
  have HST := hid hst
  have HMT := hid (fun (k : Nat) => mT_len (rows.take k) (fun r hr => (mstOk_iff.1 (hst r (List.mem_of_mem_take hr))).1.2))
  have c0 : w.cell? ⟨g, o, none⟩ = some (.slice A n c) := hx.cell 0
  have HC0 := hid c0
  have hst0 : Hid ((⟨#[]⟩ : ByteArray) = st (mT (rows.take 0))) := rfl
  have HR := hid hr
  have HL := hid hlen
  clear hr hp hlen hx hst
  go_enter Try.func76, Try.ntmps76
  go_wp2
  clear c0
  go_loopw [3, 4] (fun s i wr => Hid (∃ k : Nat, k ≤ n ∧ i = .int .i64 k ∧ s = .string (st (mT (rows.take k))) ∧ wr = w)) (fun _ i _ => n - (intOf i).toNat)
  case atStart => exact hid ⟨0, Nat.zero_le _, rfl, by rw [hst0.out], rfl⟩
  case round =>
    obtain ⟨k, hk, rfl, rfl, rfl⟩ := hrel.out
    clear hrel hst0
    have a0 := HC0.out
    have hol : (mT (rows.take k)).length ≤ 6 * k := by
      have := HMT.out k
      rw [List.length_take] at this; omega
    by_cases hlt : k < n
    · obtain ⟨b, off, row, Ai, ci, rfl, hb, hx, hd, hc, hrow⟩ := HR.out.at_ hlt
      have hcc := hc
      have hm := HST.out row (List.mem_of_getElem? hx)
      have hl4 := (mstOk_iff.1 hm).1
      have HBR := hid (fun (t : Int) (ht : t ∈ row) => mstOk_bd hm ht)
      have hT0 : mT (rows.take (k + 1)) = mT (rows.take k) ++ rowT row := mT_step hx
      have HROW := hid hrow
      by_cases hl1 : 1 < row.length
      · have h1I : (1 : Int) < (row.length : Int) := by omega
        have HT : mT (rows.take (k + 1)) = ((mT (rows.take k) ++ [91]) ++ row.map hexU) ++ [93] := by rw [hT0, rowT, if_pos hl1]; simp
        obtain ⟨o0, ho0⟩ : ∃ o0, mT (rows.take k) ++ [91] = o0 := ⟨_, rfl⟩
        have hs0 : o0.length ≤ 6 * k + 1 := by rw [← ho0]; rw [List.length_append]; simp; omega
        rw [ho0] at HT
        have HTE := hid HT
        have HST0 : Hid (st (mT (rows.take k)) ++ ⟨#[91]⟩ = st o0) := by show _ = _; rw [← ho0]; exact st_append _ _
        have hsz : (st (mT (rows.take k))).size ≤ 6 * k := by rw [st_size]; exact hol
        clear hx hd hm hrow hT0 HT ho0 hc
        obtain ⟨so, hso⟩ : ∃ so, st (mT (rows.take k)) = so := ⟨_, rfl⟩
        rw [hso] at HST0 hsz ⊢
        clear hso
        go_wp2
        clear a0
        go_loopw [3, 6] (fun s i w3 => Hid (∃ (j : Nat) (o3 : List UInt8), j ≤ row.length ∧ i = .int .i64 j ∧ s = .string (st o3) ∧ Hid (o3 = o0 ++ (row.take j).map hexU) ∧ o3.length ≤ 6 * k + 1 + j ∧ w3 = wr)) (fun _ i _ => row.length - (intOf i).toNat)
        case atStart => exact hid ⟨0, o0, Nat.zero_le _, rfl, by rw [← HST0.out], by show _ = _; simp, hs0, rfl⟩
        case round =>
          obtain ⟨j, o3, hj, rfl, rfl, hT, hol3, rfl⟩ := hrel.out
          clear hrel hs0 HST0
          have hsz3 : (st o3).size ≤ 6 * k + 1 + j := by rw [st_size]; exact hol3
          by_cases hjl : j < row.length
          · obtain ⟨bb, ofb, x, rfl, hbb, hxj, hdj, hcj⟩ := HROW.out.at_ hjl
            obtain ⟨x0, x1⟩ := HBR.out x (List.mem_of_getElem? hxj)
            have hst := mapU_step hxj
            have HZ : Hid (st (o3 ++ [hexU x]) = st o3 ++ st [hexU x]) := (st_append _ _).symm
            have HZ2 : Hid (o3 ++ [hexU x] = o0 ++ (row.take (j + 1)).map hexU) := by show _ = _; rw [hst, ← List.append_assoc, ← hT.out]
            have hone : (st [hexU x]).size = 1 := by rw [st_size]; rfl
            have hD := hid (fun w1 => l04Digit_any x w1 x0 x1)
            generalize hexU x = u at *
            obtain ⟨s3, hs3⟩ : ∃ s3, st o3 = s3 := ⟨_, rfl⟩
            rw [hs3] at HZ hsz3 ⊢
            clear hxj hdj hst hT hs3
            go_wp2_with (go_at_call 136; refine (hD.out _).mono ?_; rintro e w' ⟨rfl, rfl⟩)
            go_roundw
            case rel => exact hid ⟨j + 1, o3 ++ [u], by omega, by go_num, by rw [HZ.out], HZ2, by rw [List.length_append]; simp; omega, by first | rfl | trivial⟩
            case measure => simp [intOf]; omega
          · have hjn : j = row.length := by omega
            have hT2 := hT.out
            rw [hjn, List.take_length] at hT2
            have HZ : Hid (st o3 ++ ⟨#[93]⟩ = st (mT (rows.take (k + 1)))) := by show _ = _; rw [HTE.out, ← hT2]; exact st_append _ _
            obtain ⟨s3, hs3⟩ : ∃ s3, st o3 = s3 := ⟨_, rfl⟩
            rw [hs3] at HZ hsz3 ⊢
            clear hT hT2 hjn HTE hs3
            go_wp2
            go_roundw
            case rel => exact hid ⟨k + 1, by omega, by go_num, by rw [← HZ.out], by first | rfl | trivial⟩
            case measure => simp [intOf]; omega
      · have h1I : ¬ (1 : Int) < (row.length : Int) := by omega
        have HT : mT (rows.take (k + 1)) = mT (rows.take k) ++ row.map hexU := by rw [hT0, rowT, if_neg hl1]
        obtain ⟨o0, ho0⟩ : ∃ o0, mT (rows.take k) = o0 := ⟨_, rfl⟩
        have hs0 : o0.length ≤ 6 * k + 1 := by rw [← ho0]; omega
        rw [ho0] at HT
        have HTE := hid HT
        have HST0 : Hid (st (mT (rows.take k)) = st o0) := by show _ = _; rw [← ho0]
        have hsz : (st (mT (rows.take k))).size ≤ 6 * k := by rw [st_size]; exact hol
        clear hx hd hm hrow hT0 HT ho0 hc
        obtain ⟨so, hso⟩ : ∃ so, st (mT (rows.take k)) = so := ⟨_, rfl⟩
        rw [hso] at HST0 hsz ⊢
        clear hso
        go_wp2
        clear a0
        go_loopw [3, 6] (fun s i w3 => Hid (∃ (j : Nat) (o3 : List UInt8), j ≤ row.length ∧ i = .int .i64 j ∧ s = .string (st o3) ∧ Hid (o3 = o0 ++ (row.take j).map hexU) ∧ o3.length ≤ 6 * k + 1 + j ∧ w3 = wr)) (fun _ i _ => row.length - (intOf i).toNat)
        case atStart => exact hid ⟨0, o0, Nat.zero_le _, rfl, by rw [← HST0.out], by show _ = _; simp, hs0, rfl⟩
        case round =>
          obtain ⟨j, o3, hj, rfl, rfl, hT, hol3, rfl⟩ := hrel.out
          clear hrel hs0 HST0
          have hsz3 : (st o3).size ≤ 6 * k + 1 + j := by rw [st_size]; exact hol3
          by_cases hjl : j < row.length
          · obtain ⟨bb, ofb, x, rfl, hbb, hxj, hdj, hcj⟩ := HROW.out.at_ hjl
            obtain ⟨x0, x1⟩ := HBR.out x (List.mem_of_getElem? hxj)
            have hst := mapU_step hxj
            have HZ : Hid (st (o3 ++ [hexU x]) = st o3 ++ st [hexU x]) := (st_append _ _).symm
            have HZ2 : Hid (o3 ++ [hexU x] = o0 ++ (row.take (j + 1)).map hexU) := by show _ = _; rw [hst, ← List.append_assoc, ← hT.out]
            have hone : (st [hexU x]).size = 1 := by rw [st_size]; rfl
            have hD := hid (fun w1 => l04Digit_any x w1 x0 x1)
            generalize hexU x = u at *
            obtain ⟨s3, hs3⟩ : ∃ s3, st o3 = s3 := ⟨_, rfl⟩
            rw [hs3] at HZ hsz3 ⊢
            clear hxj hdj hst hT hs3
            go_wp2_with (go_at_call 136; refine (hD.out _).mono ?_; rintro e w' ⟨rfl, rfl⟩)
            go_roundw
            case rel => exact hid ⟨j + 1, o3 ++ [u], by omega, by go_num, by rw [HZ.out], HZ2, by rw [List.length_append]; simp; omega, by first | rfl | trivial⟩
            case measure => simp [intOf]; omega
          · have hjn : j = row.length := by omega
            have hT2 := hT.out
            rw [hjn, List.take_length] at hT2
            have HZ : Hid (st o3 = st (mT (rows.take (k + 1)))) := by show _ = _; rw [HTE.out, ← hT2]
            obtain ⟨s3, hs3⟩ : ∃ s3, st o3 = s3 := ⟨_, rfl⟩
            rw [hs3] at HZ hsz3 ⊢
            clear hT hT2 hjn HTE hs3
            go_wp2
            go_roundw
            case rel => exact hid ⟨k + 1, by omega, by go_num, by rw [← HZ.out], by first | rfl | trivial⟩
            case measure => simp [intOf]; omega
    · have HZ : Hid (st (mT rows) = st (mT (rows.take k))) := by show _ = _; rw [List.take_of_length_le (by rw [HL.out]; omega)]
      go_wp2
      go_ret
      exact ⟨ret_str HZ.out.symm, by first | rfl | trivial⟩
set_option maxRecDepth 100000 in
set_option maxHeartbeats 1000000 in
theorem specMultiText_any (A : Option Addr) (n c : Nat) (rows : List (List Int)) (w : World) (hn : n ≤ 1099511627776) (hl : ∀ r ∈ rows, r.length ≤ 1099511627776) (hr : RdG w w.heap.size A n rows) :
    Calls Try.prog 15 #[.agg #[.slice A n c]] w fun e w' => e = .returned (.string (st (rMultiText rows))) ∧ Below w.heap.size w w' := by
  have hB0 : Below w.heap.size w (w.alloc (Obj.cells #[.slice A n c] 26)) := (by repeat' (first | exact Below.refl _ _ | (with_reducible assumption) | (with_reducible refine Below.alloc ?_ ?_ _) | (with_reducible refine Below.setCell ?_ ?_ _) | (with_reducible refine Below.drew ?_) | (with_reducible refine below_drewN ?_ _) | (refine Below.trans ?_ (Below.mono (by assumption) ?_)) | (with_reducible exact Nat.le_refl _) | (with_reducible assumption) | (exact Below.size (by assumption)) | omega | go_size | (simp at *; omega)))
  have hX := Bx.new w 26 #[.slice A n c]
  have hV := l04Ok_any w.heap.size A n c rows _ hn hl hX ((hr.below hB0 (Nat.le_refl _)).more hB0.size)
  cases hp : mOk rows with
  | false =>
    rw [hp] at hV
    have hV := hid hV
    have HO : Hid (st (rMultiText rows) = ⟨#[]⟩) := by show _ = _; rw [rMultiText, if_neg (by rw [hp]; decide)]; rfl
    have HB0 := hid hB0
    clear hr hp hl hB0 hX
    go_enter Try.func15, Try.ntmps15
    go_wp2_with fail
    refine hV.out.mono ?_
    rintro e w1 ⟨rfl, hb1⟩
    have hB1 := bchain HB0.out hb1
    clear hb1
    go_wp2
    go_ret
    exact ⟨ret_str HO.out.symm, hB1⟩
  | true =>
    rw [hp] at hV
    have hV := hid hV
    have HO : Hid (st (rMultiText rows) = st (mT rows)) := by show _ = _; rw [rMultiText, if_pos hp]
    have HT := hid (fun (w1 : World) (b : Below w.heap.size w w1) (hx : Bx w1 w.heap.size 26 #[.slice A n c]) => l04Text_at w.heap.size 0 A n c rows w1 (mOk_iff.1 hp).1 hx.bo ((hr.below b (Nat.le_refl _)).more b.size))
    have HB0 := hid hB0
    have HX := hid hX
    clear hr hp hl hB0 hX
    go_enter Try.func15, Try.ntmps15
    go_wp2_with fail
    refine hV.out.mono ?_
    rintro e w1 ⟨rfl, hb1⟩
    have hB1 := bchain HB0.out hb1
    have hX1 := HX.out.below hb1 HX.out.lt
    have hC := hid (HT.out w1 hB1 hX1)
    clear hV HX HB0 hb1 HT hX1
    go_wp2_with fail
    refine hC.out.mono ?_
    rintro e w2 ⟨rfl, rfl⟩
    clear hC
    go_wp2
    go_ret
    exact ⟨ret_str HO.out.symm, hB1⟩
end Go.Proofs.Ytlbhfjbbkkkldaa

/- The contracts of DrawMultiText, DrawMultiLandings, DrawReadMulti. -/
namespace Go.Proofs.Ytlbhfjbbkkkldaa
open Go.RowKit
set_option linter.unusedVariables false

set_option maxHeartbeats 1000000 in
theorem DrawMultiText_any (A : Option Addr) (n c : Nat) (xs : List Int) (w : World) (hn : n ≤ 1099511627776) (hx : ∀ x ∈ xs, 0 ≤ x ∧ x ≤ 255) (hr : Rd w w.heap.size 1 A n (xs.map (Value.int .u8))) :
    Calls Try.prog 10 #[.slice A n c] w fun e w' => MbRes w.heap.size w' e ∧ Below w.heap.size w w' := by
  have hX := Bx.new w 26 #[.slice none 0 0]
  have hB0 : Below w.heap.size w (w.alloc (Obj.cells #[.slice none 0 0] 26)) := (by repeat' (first | exact Below.refl _ _ | (with_reducible assumption) | (with_reducible refine Below.alloc ?_ ?_ _) | (with_reducible refine Below.setCell ?_ ?_ _) | (with_reducible refine Below.drew ?_) | (with_reducible refine below_drewN ?_ _) | (refine Below.trans ?_ (Below.mono (by assumption) ?_)) | (with_reducible exact Nat.le_refl _) | (with_reducible assumption) | (exact Below.size (by assumption)) | omega | go_size | (simp at *; omega)))
  have hzz : (w.alloc (Obj.cells #[.slice none 0 0] 26)).heap.size = w.heap.size + 1 := by simp
  have h0 := l00From_any A n c xs (w.alloc (Obj.cells #[.slice none 0 0] 26)) hn hx ((hr.below hB0 (Nat.le_refl _)).more hB0.size)
  have HXL := hid hX.lt
  rw [hzz] at h0 HXL
  have h0 := hid h0
  have HX := hid hX
  have HB := hid hB0
  have HZ := hid hzz
  clear hx hr hX hB0 hzz HZ
  go_enter Try.func10, Try.ntmps10
  go_wp2_with fail
  refine h0.out.mono ?_
  rintro e w1 ⟨rfl, hs1, hb1⟩
  have z1 := hb1.size
  have l1 := hs1.lt
  have hX1 := hid (HX.out.below hb1 (Nat.lt_succ_self _))
  have hB1 : Below w.heap.size w w1 := HB.out.trans (hb1.mono (Nat.le_succ _))
  have hl0 : w.heap.size < w1.heap.size := hX1.out.lt
  have hS := hid hs1
  have hne : w.heap.size ≠ w.heap.size + 1 := by omega
  have hge : w.heap.size ≤ w.heap.size + 1 := by omega
  have HNE := hid hne
  have HGE := hid hge
  clear h0 HX HB hs1 hb1 z1 l1 hne hge HXL
  go_wp2_with fail
  refine (l04Bent_src _ A n c 0 xs w1 (by omega) hS.out).mono ?_
  rintro e w2 ⟨⟨A2, n2, c2, rfl, rows, hm, hn2, hr2⟩, hs2, hg2⟩
  have hX2 := hX1.out.grown hg2 (fun e => HNE.out (by injection e))
  have hB2 : Below w.heap.size w w2 := hB1.grown hg2 hB1.size (fun g h => by injection h with h; rw [← h]; exact HGE.out)
  have e0 := bx_c0 hX2
  have e1 := hX2.frozen 0
  have HM := hid ((hm.setCell (p := ⟨w.heap.size, 0, none⟩) (.inl hl0) (.slice A2 n2 c2)).more (Nat.le_of_lt hl0) (show w2.heap.size ≤ (w2.setCell ⟨w.heap.size, 0, none⟩ (.slice A2 n2 c2)).heap.size by simp))
  have HB2 := hid hB2
  have HR := hid hr2
  clear hg2 hs2 hX2 hB2 hm hS hX1 hB1 HNE HGE hr2
  go_wp2
  refine bodyPost_ret (v := .agg #[.slice A2 n2 c2]) ?_ rfl ?_
  · simp (maxDischargeDepth := 8) [results, Try.results10, go_sem, *]
  exact ⟨⟨A2, n2, c2, rfl, rows, HM.out, hn2, HR.out⟩, HB2.out.setCell (p := ⟨w.heap.size, 0, none⟩) (by show w.heap.size ≤ w.heap.size; exact Nat.le_refl _) _⟩
set_option maxHeartbeats 1000000 in
theorem DrawMultiLandings_any (A : Option Addr) (n c : Nat) (xs : List Int) (w : World) (hn : n ≤ 1099511627776) (hx : ∀ x ∈ xs, 0 ≤ x ∧ x ≤ 255) (hr : Rd w w.heap.size 1 A n (xs.map (Value.int .u8))) :
    Calls Try.prog 42 #[.slice A n c] w fun e w' => MbRes w.heap.size w' e ∧ Below w.heap.size w w' := by
  have hX := Bx.new w 26 #[.slice none 0 0]
  have hB0 : Below w.heap.size w (w.alloc (Obj.cells #[.slice none 0 0] 26)) := (by repeat' (first | exact Below.refl _ _ | (with_reducible assumption) | (with_reducible refine Below.alloc ?_ ?_ _) | (with_reducible refine Below.setCell ?_ ?_ _) | (with_reducible refine Below.drew ?_) | (with_reducible refine below_drewN ?_ _) | (refine Below.trans ?_ (Below.mono (by assumption) ?_)) | (with_reducible exact Nat.le_refl _) | (with_reducible assumption) | (exact Below.size (by assumption)) | omega | go_size | (simp at *; omega)))
  have hzz : (w.alloc (Obj.cells #[.slice none 0 0] 26)).heap.size = w.heap.size + 1 := by simp
  have h0 := l00From_any A n c xs (w.alloc (Obj.cells #[.slice none 0 0] 26)) hn hx ((hr.below hB0 (Nat.le_refl _)).more hB0.size)
  have HXL := hid hX.lt
  rw [hzz] at h0 HXL
  have h0 := hid h0
  have HX := hid hX
  have HB := hid hB0
  have HZ := hid hzz
  clear hx hr hX hB0 hzz HZ
  go_enter Try.func42, Try.ntmps42
  go_wp2_with fail
  refine h0.out.mono ?_
  rintro e w1 ⟨rfl, hs1, hb1⟩
  have z1 := hb1.size
  have l1 := hs1.lt
  have hX1 := hid (HX.out.below hb1 (Nat.lt_succ_self _))
  have hB1 : Below w.heap.size w w1 := HB.out.trans (hb1.mono (Nat.le_succ _))
  have hl0 : w.heap.size < w1.heap.size := hX1.out.lt
  have hS := hid hs1
  have hne : w.heap.size ≠ w.heap.size + 1 := by omega
  have hge : w.heap.size ≤ w.heap.size + 1 := by omega
  have HNE := hid hne
  have HGE := hid hge
  clear h0 HX HB hs1 hb1 z1 l1 hne hge HXL
  go_wp2_with fail
  refine (l04Bent_src _ A n c 0 xs w1 (by omega) hS.out).mono ?_
  rintro e w2 ⟨⟨A2, n2, c2, rfl, rows, hm, hn2, hr2⟩, hs2, hg2⟩
  have hX2 := hX1.out.grown hg2 (fun e => HNE.out (by injection e))
  have hB2 : Below w.heap.size w w2 := hB1.grown hg2 hB1.size (fun g h => by injection h with h; rw [← h]; exact HGE.out)
  have e0 := bx_c0 hX2
  have e1 := hX2.frozen 0
  have HM := hid ((hm.setCell (p := ⟨w.heap.size, 0, none⟩) (.inl hl0) (.slice A2 n2 c2)).more (Nat.le_of_lt hl0) (show w2.heap.size ≤ (w2.setCell ⟨w.heap.size, 0, none⟩ (.slice A2 n2 c2)).heap.size by simp))
  have HB2 := hid hB2
  have HR := hid hr2
  clear hg2 hs2 hX2 hB2 hm hS hX1 hB1 HNE HGE hr2
  go_wp2
  refine bodyPost_ret (v := .agg #[.slice A2 n2 c2]) ?_ rfl ?_
  · simp (maxDischargeDepth := 8) [results, Try.results42, go_sem, *]
  exact ⟨⟨A2, n2, c2, rfl, rows, HM.out, hn2, HR.out⟩, HB2.out.setCell (p := ⟨w.heap.size, 0, none⟩) (by show w.heap.size ≤ w.heap.size; exact Nat.le_refl _) _⟩
theorem ten_any (w : World) (b : Nat) (hb : b = w.heap.size) (t : TypeId) : ∀ i, i < 10 → ∃ y : ByteArray, y.size ≤ 12 ∧ (w.alloc (Obj.cells #[.string ⟨#[]⟩, .string ⟨#[91]⟩, .string ⟨#[91, 52, 51]⟩, .string ⟨#[91, 52, 93]⟩, .string ⟨#[91, 93]⟩, .string ⟨#[52, 93]⟩, .string ⟨#[91, 52, 48, 93, 50]⟩, .string ⟨#[91, 51, 52, 93, 50, 51]⟩, .string ⟨#[103]⟩, .string ⟨#[91, 52, 51, 93, 50, 51]⟩] t)).cell? ⟨b, 0 + i, none⟩ = some (.string y) := by
  intro i hi
  subst hb
  rw [World.cell?_alloc_at _ _ _ _ rfl]
  match i, hi with
  | 0, _ => refine ⟨_, ?_, rfl⟩; decide
  | 1, _ => refine ⟨_, ?_, rfl⟩; decide
  | 2, _ => refine ⟨_, ?_, rfl⟩; decide
  | 3, _ => refine ⟨_, ?_, rfl⟩; decide
  | 4, _ => refine ⟨_, ?_, rfl⟩; decide
  | 5, _ => refine ⟨_, ?_, rfl⟩; decide
  | 6, _ => refine ⟨_, ?_, rfl⟩; decide
  | 7, _ => refine ⟨_, ?_, rfl⟩; decide
  | 8, _ => refine ⟨_, ?_, rfl⟩; decide
  | 9, _ => refine ⟨_, ?_, rfl⟩; decide
theorem msSh_tlen {rows : List (List Int)} (h : msSh rows = true) : (mT rows).length ≤ 72 := by
  have h1 := msSh_iff.1 h
  have := mT_len rows (fun r hr => (mstOk_iff.1 (h1.2 r hr)).1.2)
  omega
set_option maxHeartbeats 1000000 in
theorem DrawReadMulti_any (A : Option Addr) (n c : Nat) (xs : List Int) (w : World) (hn : n ≤ 1099511627776) (hx : ∀ x ∈ xs, 0 ≤ x ∧ x ≤ 255) (hr : Rd w w.heap.size 1 A n (xs.map (Value.int .u8))) :
    Calls Try.prog 13 #[.slice A n c] w fun e w' => StrRes e ∧ Below w.heap.size w w' := by
  have h0 := hid (l00From_any A n c xs w hn hx hr)
  clear hx hr
  go_enter Try.func13, Try.ntmps13
  go_wp2_with fail
  refine h0.out.mono ?_
  rintro e w1 ⟨rfl, hs1, hb1⟩
  have z1 := hb1.size
  have l1 := hs1.lt
  clear h0
  go_wp2_with fail
  refine (l04Bent_src _ A n c 0 xs w1 (by omega) hs1).mono ?_
  rintro e w2 ⟨⟨A2, n2, c2, rfl, rows, hm, hn2, hr2⟩, hs2, hg2⟩
  have hB2 : Below w.heap.size w w2 := hb1.grown hg2 z1 (fun g h => by simp at h; omega)
  have z2 := hg2.size
  have hbx : Below w2.heap.size w2 (w2.alloc (Obj.cells #[.slice A2 n2 c2] 26)) := (by repeat' (first | exact Below.refl _ _ | (with_reducible assumption) | (with_reducible refine Below.alloc ?_ ?_ _) | (with_reducible refine Below.setCell ?_ ?_ _) | (with_reducible refine Below.drew ?_) | (with_reducible refine below_drewN ?_ _) | (refine Below.trans ?_ (Below.mono (by assumption) ?_)) | (with_reducible exact Nat.le_refl _) | (with_reducible assumption) | (exact Below.size (by assumption)) | omega | go_size | (simp at *; omega)))
  have hX := Bx.new w2 26 #[.slice A2 n2 c2]
  have hm' := ((hm.rd).below hbx (Nat.le_refl _)).more hbx.size
  have hL := l04Ok_any w2.heap.size A2 n2 c2 rows (w2.alloc (Obj.cells #[.slice A2 n2 c2] 26)) (by omega) (fun r hr => by have := hr2 r hr; omega) hX hm'
  have hBx := bchain hB2 hbx
  have hsx := hs2.below hbx (by omega)
  have HM := hid hm'
  have HX := hid hX
  have HBX := hid hBx
  have HSX := hid hsx
  have hl2 : w.heap.size < (w2.alloc (Obj.cells #[.slice A2 n2 c2] 26)).heap.size := by have := hbx.size; omega
  have HL2 := hid hl2
  clear hg2 hs1 hb1 hm hm' hX hBx hsx hbx hs2 hB2 hl2
  cases hok : mOk rows with
  | true =>
    rw [hok] at hL
    have hL := hid hL
    have hsh := (mOk_iff.1 hok).1
    have HSH := hid hsh
    clear hok hsh
    go_wp2_with fail
    refine hL.out.mono ?_
    rintro e w3 ⟨rfl, hb3⟩
    have hB3 := bchain HBX.out hb3
    have hs3 := HSX.out.below hb3 (HL2.out)
    have hX3 := HX.out.below hb3 HX.out.lt
    have hm3 := (HM.out.below hb3 (Nat.le_refl _)).more hb3.size
    have z3 := hb3.size
    have hT := l04Text_at w2.heap.size 0 A2 n2 c2 rows w3 HSH.out hX3.bo hm3
    have hTs : (st (mT rows)).size ≤ 72 := by rw [st_size]; exact msSh_tlen HSH.out
    obtain ⟨T, hTe⟩ : ∃ T, st (mT rows) = T := ⟨_, rfl⟩
    rw [hTe] at hT hTs
    have hT := hid hT
    have hlw := Nat.lt_of_lt_of_le HL2.out z3
    clear hTe hL hb3 hX3 hm3 HX HM HBX HSX z3 HL2
    go_wp2_with fail
    refine hT.out.mono ?_
    rintro e w4 ⟨rfl, rfl⟩
    clear hT
    go_wp2_with fail
    refine (one_src _ A n c (0 + 400) xs 3 w3 (by omega) (by omega) hs3).mono ?_
    rintro e w5 ⟨⟨b, rfl⟩, hs5, hg5⟩
    have hB5 : Below w.heap.size w w5 := hB3.grown hg5 (by omega) (fun g h => by simp at h; omega)
    have z5 := hg5.size
    clear hg5 hs3 hB3
    cases b
    · go_wp2
      go_ret
      exact ⟨⟨T, by omega, rfl⟩, hB5⟩
    · go_wp2_with fail
      refine (l01Spoil_src _ A n c (0 + 400 + 2) xs T w5 (by omega) (by omega) hs5).mono ?_
      rintro e w6 ⟨⟨S, hS, rfl⟩, hs6, hg6⟩
      have hB6 : Below w.heap.size w w6 := hB5.grown hg6 (by omega) (fun g h => by simp at h; omega)
      go_wp2
      go_ret
      exact ⟨⟨S, hS, rfl⟩, hB6⟩
  | false =>
    rw [hok] at hL
    have hL := hid hL
    clear hok
    go_wp2_with fail
    refine hL.out.mono ?_
    rintro e w3 ⟨rfl, hb3⟩
    have hB3 := bchain HBX.out hb3
    have hs3 := HSX.out.below hb3 (HL2.out)
    have z3 := hb3.size
    have hlw := Nat.lt_of_lt_of_le HL2.out z3
    clear hL hb3 HX HM HBX HSX z3 HL2
    go_wp2_with fail
    refine (text_src _ A n c (0 + 400) xs w3.heap.size 0 10 10 _ (by omega) (by omega) (by simp) (by omega) (by omega) (ten_any w3 _ rfl _) (hs3.below (B := w3.heap.size) (by repeat' (first | exact Below.refl _ _ | (with_reducible assumption) | (with_reducible refine Below.alloc ?_ ?_ _) | (with_reducible refine Below.setCell ?_ ?_ _) | (with_reducible refine Below.drew ?_) | (with_reducible refine below_drewN ?_ _) | (refine Below.trans ?_ (Below.mono (by assumption) ?_)) | (with_reducible exact Nat.le_refl _) | (with_reducible assumption) | (exact Below.size (by assumption)) | omega | go_size | (simp at *; omega))) (by omega))).mono ?_
    rintro e w6 ⟨⟨y, hy, rfl⟩, hs6, hg6⟩
    have hb5 : Below w.heap.size w (w3.alloc (Obj.cells #[.string ⟨#[]⟩, .string ⟨#[91]⟩, .string ⟨#[91, 52, 51]⟩, .string ⟨#[91, 52, 93]⟩, .string ⟨#[91, 93]⟩, .string ⟨#[52, 93]⟩, .string ⟨#[91, 52, 48, 93, 50]⟩, .string ⟨#[91, 51, 52, 93, 50, 51]⟩, .string ⟨#[103]⟩, .string ⟨#[91, 52, 51, 93, 50, 51]⟩] 9)) := hB3.alloc hB3.size _
    have hB6 : Below w.heap.size w w6 := hb5.grown hg6 hb5.size (fun g h => by simp at h; omega)
    go_wp2
    go_ret
    exact ⟨⟨y, by omega, rfl⟩, hB6⟩
end Go.Proofs.Ytlbhfjbbkkkldaa

/- Contracts of the laws' own helpers f6big and f6ints. -/
namespace Go.Proofs.Ytlbhfjbbkkkldaa
open Go.RowKit
set_option linter.unusedVariables false

theorem f6big_any (A : Option Addr) (n c : Nat) (w : World) (hn : n ≤ 9223372036854775807) :
    Calls Try.prog 9 #[.slice A n c] w fun e w' => e = .returned (.bool (decide (4096 < n))) ∧ w = w' := by
  go_enter Try.func9, Try.ntmps9
  go_wp2
  go_ret
  exact ⟨ret_bool (by first | (simp; done) | (rw [Bool.eq_iff_iff]; simp; omega)), rfl⟩
theorem f6ints_any (A A' : Option Addr) (n n' c c' : Nat) (xs ys : List Int) (w : World) (hn : n ≤ 1099511627776) (hn' : n' ≤ 1099511627776) (h : Rd w w.heap.size 1 A n (ints xs)) (h' : Rd w w.heap.size 1 A' n' (ints ys)) :
    Calls Try.prog 37 #[.slice A n c, .slice A' n' c'] w fun e w' => e = .returned (.bool (decide (xs = ys))) ∧ Below w.heap.size w w' := by
  have hl := h.len
  have hl' := h'.len
  by_cases hnn : n = n'
  · subst hnn
    have hst : Hid (decide (xs.drop 0 = ys.drop 0) = decide (xs = ys)) := rfl
    go_enter Try.func37, Try.ntmps37
    go_wp2
    go_loopw [5] (fun i wr => ∃ k : Nat, k ≤ n ∧ i = .int .i64 k ∧ Hid (decide (xs.drop k = ys.drop k) = decide (xs = ys)) ∧ Below w.heap.size w wr) (fun i _ => n - (intOf i).toNat)
    case atStart => exact ⟨0, Nat.zero_le _, rfl, hst, Below.refl _ _⟩
    case round =>
    obtain ⟨k, hk, rfl, he, hb0⟩ := hrel
    by_cases hlt : k < n
    · obtain ⟨b, off, x, rfl, hb, hx, hd, hc⟩ := (h.below hb0 (Nat.le_refl _)).at_ hlt
      obtain ⟨b', off', x', rfl, hb', hx', hd', hc'⟩ := (h'.below hb0 (Nat.le_refl _)).at_ hlt
      by_cases hxx : x = x'
      · have hq : (x != x') = false := by simp [hxx]
        have HZ : Hid (decide (xs.drop (k + 1) = ys.drop (k + 1)) = decide (xs = ys)) := by
          show _ = _
          rw [← he.out, hd, hd', hxx]; simp
        clear hx hx' hd hd' he hst h h' hb hb' hl hl' hxx
        go_wp2
        go_quiet (fail)
        go_wp2
        go_roundw
        case rel => exact ⟨k + 1, by omega, by go_num, HZ, (by repeat' (first | exact Below.refl _ _ | (with_reducible assumption) | (with_reducible refine Below.alloc ?_ ?_ _) | (with_reducible refine Below.setCell ?_ ?_ _) | (with_reducible refine Below.drew ?_) | (with_reducible refine below_drewN ?_ _) | (refine Below.trans ?_ (Below.mono (by assumption) ?_)) | (with_reducible exact Nat.le_refl _) | (with_reducible assumption) | (exact Below.size (by assumption)) | omega | go_size | (simp at *; omega)))⟩
        case measure => simp [intOf]; omega
      · have hq : (x != x') = true := by simpa using hxx
        have HZ : Hid (decide (xs = ys) = false) := by
          show _ = _
          rw [← he.out, hd, hd']; simp [hxx]
        clear hx hx' hd hd' he hst h h' hb hb' hl hl' hxx
        go_wp2
        go_quiet (fail)
        go_wp2
        go_ret
        exact ⟨ret_bool HZ.out.symm, (by repeat' (first | exact Below.refl _ _ | (with_reducible assumption) | (with_reducible refine Below.alloc ?_ ?_ _) | (with_reducible refine Below.setCell ?_ ?_ _) | (with_reducible refine Below.drew ?_) | (with_reducible refine below_drewN ?_ _) | (refine Below.trans ?_ (Below.mono (by assumption) ?_)) | (with_reducible exact Nat.le_refl _) | (with_reducible assumption) | (exact Below.size (by assumption)) | omega | go_size | (simp at *; omega)))⟩
    · have HZ : Hid (decide (xs = ys) = true) := by
        show _ = _
        rw [← he.out, List.drop_eq_nil_of_le (by omega), List.drop_eq_nil_of_le (by omega)]; rfl
      clear he hst hl hl' h h'
      go_wp2
      go_ret
      exact ⟨ret_bool HZ.out.symm, (by repeat' (first | exact Below.refl _ _ | (with_reducible assumption) | (with_reducible refine Below.alloc ?_ ?_ _) | (with_reducible refine Below.setCell ?_ ?_ _) | (with_reducible refine Below.drew ?_) | (with_reducible refine below_drewN ?_ _) | (refine Below.trans ?_ (Below.mono (by assumption) ?_)) | (with_reducible exact Nat.le_refl _) | (with_reducible assumption) | (exact Below.size (by assumption)) | omega | go_size | (simp at *; omega)))⟩
  · have HZ : Hid (decide (xs = ys) = false) := by
      show _ = _
      refine decide_eq_false fun e => hnn ?_
      rw [← hl, ← hl', e]
    clear hl hl' h h'
    go_enter Try.func37, Try.ntmps37
    go_wp2
    go_ret
    exact ⟨ret_bool HZ.out.symm, (by repeat' (first | exact Below.refl _ _ | (with_reducible assumption) | (with_reducible refine Below.alloc ?_ ?_ _) | (with_reducible refine Below.setCell ?_ ?_ _) | (with_reducible refine Below.drew ?_) | (with_reducible refine below_drewN ?_ _) | (refine Below.trans ?_ (Below.mono (by assumption) ?_)) | (with_reducible exact Nat.le_refl _) | (with_reducible assumption) | (exact Below.size (by assumption)) | omega | go_size | (simp at *; omega)))⟩
end Go.Proofs.Ytlbhfjbbkkkldaa

/- The walk of the law FnMultis. -/
namespace Go.Proofs.Ytlbhfjbbkkkldaa
open Go.RowKit
set_option linter.unusedVariables false

theorem same_rows {p : List (List Int)} : decide (p = p) = true := decide_eq_true rfl
set_option maxRecDepth 100000 in
set_option maxHeartbeats 8000000 in
theorem fnMultis_main (w : World) (A : Option Addr) (n c : Nat) (xs : List Int) (hK : Came .u8 w A n c xs) (hl : n ≤ 4096) :
    Calls Try.prog 6 #[.slice A n c] w fun e w' => e = .returned (.bool true) ∧ Below w.heap.size w w' := by
  have hq : decide (4096 < n) = false := by simp; omega
  have hL := f6big_any A n c w (by omega)
  rw [hq] at hL
  have hL := hid hL
  have hR := hid (fun (w1 : World) (b : Below w.heap.size w w1) => ((Rd.of_came hK).below b (Nat.le_refl _)).more b.size)
  have hX := hid hK.bytes
  have HB : Hid (Below w.heap.size w w) := Below.refl _ _
  clear hK hq
  go_enter Try.func6, Try.ntmps6
  go_wp2_with (go_at_call 9; refine (hL.out).mono ?_; rintro e w' ⟨rfl, rfl⟩)
  refine (DrawAddMulti_any A n c xs _ (by omega) hX.out (hR.out _ HB.out)).mono ?_
  rintro e w1 ⟨⟨A1, n1, c1, A2, n2, c2, rfl, ⟨a, hm1, hn1, hr1⟩, ⟨b, hm2, hn2, hr2⟩⟩, hb1⟩
  have HL1 : Hid (∀ r ∈ a, r.length ≤ 1099511627776) := fun r hr => by have := hr1 r hr; omega
  have HL2 : Hid (∀ r ∈ b, r.length ≤ 1099511627776) := fun r hr => by have := hr2 r hr; omega
  have HM1 := hid hm1.rd
  have HM2 := hid hm2.rd
  clear hm1 hr1 hm2 hr2 hL
  have HB := hid (bchain HB.out hb1)
  have hal : Below w1.heap.size w1 (w1.alloc (Obj.cells #[.slice A1 n1 c1] 26)) := (by repeat' (first | exact Below.refl _ _ | (with_reducible assumption) | (with_reducible refine Below.alloc ?_ ?_ _) | (with_reducible refine Below.setCell ?_ ?_ _) | (with_reducible refine Below.drew ?_) | (with_reducible refine below_drewN ?_ _) | (refine Below.trans ?_ (Below.mono (by assumption) ?_)) | (with_reducible exact Nat.le_refl _) | (with_reducible assumption) | (exact Below.size (by assumption)) | omega | go_size | (simp at *; omega)))
  have HM2 := hid ((HM2.out.below hal (Nat.le_refl _)).more hal.size)
  have X1 := hid (Bx.new w1 26 #[.slice A1 n1 c1])
  have M1 := hid ((HM1.out.below hal (Nat.le_refl _)).more hal.size)
  have HB := hid (bchain HB.out hal)
  clear hal
  have hal : Below (w1.alloc (Obj.cells #[.slice A1 n1 c1] 26)).heap.size (w1.alloc (Obj.cells #[.slice A1 n1 c1] 26)) ((w1.alloc (Obj.cells #[.slice A1 n1 c1] 26)).alloc (Obj.cells #[.slice A2 n2 c2] 26)) := (by repeat' (first | exact Below.refl _ _ | (with_reducible assumption) | (with_reducible refine Below.alloc ?_ ?_ _) | (with_reducible refine Below.setCell ?_ ?_ _) | (with_reducible refine Below.drew ?_) | (with_reducible refine below_drewN ?_ _) | (refine Below.trans ?_ (Below.mono (by assumption) ?_)) | (with_reducible exact Nat.le_refl _) | (with_reducible assumption) | (exact Below.size (by assumption)) | omega | go_size | (simp at *; omega)))
  have X1 := hid (X1.out.alloc (Obj.cells #[.slice A2 n2 c2] 26))
  have M1 := hid ((M1.out.below hal (Nat.le_refl _)).more hal.size)
  have X2 := hid (Bx.new (w1.alloc (Obj.cells #[.slice A1 n1 c1] 26)) 26 #[.slice A2 n2 c2])
  have M2 := hid ((HM2.out.below hal (Nat.le_refl _)).more hal.size)
  have HB := hid (bchain HB.out hal)
  clear hal
  have hzq : (w1.alloc (Obj.cells #[.slice A1 n1 c1] 26)).heap.size = w1.heap.size + 1 := by simp
  rw [hzq] at X2
  clear hzq
  clear hb1
  clear HM1 HM2
  have HLA := hid M1.out.len
  have HLB := hid M2.out.len
  obtain ⟨⟨s, bad⟩, hs⟩ : ∃ x, rAddMulti a b = x := ⟨_, rfl⟩
  have HS := hid hs
  have HSL := hid (rAdd_bd hs (HLA.out ▸ hn1))
  have HSN : Hid (s.length ≤ 1099511627776) := by have := HSL.out.1; show _ ≤ _; omega
  have HSR : Hid (∀ r ∈ s, r.length ≤ 1099511627776) := fun r hr => by have := HSL.out.2 r hr; omega
  clear hs
  have hC := AddMulti_any A1 n1 c1 a A2 n2 c2 b ((w1.alloc (Obj.cells #[.slice A1 n1 c1] 26)).alloc (Obj.cells #[.slice A2 n2 c2] 26)) (by omega) (by omega) HL1.out HL2.out M1.out M2.out
  rw [HS.out] at hC
  replace hC := hid hC
  go_wp2_with fail
  refine (hC.out).mono ?_
  rintro e w2 ⟨⟨A3, c3, rfl, ho3⟩, hb2⟩
  try clear l1 l2
  try clear x1 x2
  clear hC
  simp only at ho3
  have HO3 := hid ho3.read
  clear ho3
  have X1 := hid (X1.out.below hb2 X1.out.lt)
  have X2 := hid (X2.out.below hb2 X2.out.lt)
  have M1 := hid ((M1.out.below hb2 (Nat.le_refl _)).more hb2.size)
  have M2 := hid ((M2.out.below hb2 (Nat.le_refl _)).more hb2.size)
  have HB := hid (bchain HB.out hb2)
  have l1 : w1.heap.size < w2.heap.size := X1.out.lt
  have x1 : w2.cell? ⟨w1.heap.size, 0, none⟩ = some (.slice A1 n1 c1) := bx_c0 X1.out
  have l2 : (w1.heap.size + 1) < w2.heap.size := X2.out.lt
  have x2 : w2.cell? ⟨(w1.heap.size + 1), 0, none⟩ = some (.slice A2 n2 c2) := bx_c0 X2.out
  have hal : Below w2.heap.size w2 (w2.alloc (Obj.cells #[.slice A3 s.length c3] 26)) := (by repeat' (first | exact Below.refl _ _ | (with_reducible assumption) | (with_reducible refine Below.alloc ?_ ?_ _) | (with_reducible refine Below.setCell ?_ ?_ _) | (with_reducible refine Below.drew ?_) | (with_reducible refine below_drewN ?_ _) | (refine Below.trans ?_ (Below.mono (by assumption) ?_)) | (with_reducible exact Nat.le_refl _) | (with_reducible assumption) | (exact Below.size (by assumption)) | omega | go_size | (simp at *; omega)))
  have X1 := hid (X1.out.alloc (Obj.cells #[.slice A3 s.length c3] 26))
  have X2 := hid (X2.out.alloc (Obj.cells #[.slice A3 s.length c3] 26))
  have M1 := hid ((M1.out.below hal (Nat.le_refl _)).more hal.size)
  have M2 := hid ((M2.out.below hal (Nat.le_refl _)).more hal.size)
  have X3 := hid (Bx.new w2 26 #[.slice A3 s.length c3])
  have M3 := hid ((HO3.out.below hal (Nat.le_refl _)).more hal.size)
  have HB := hid (bchain HB.out hal)
  clear hal
  clear hb2
  clear HO3
  have hC := specAddMulti_any A1 n1 c1 a A2 n2 c2 b (w2.alloc (Obj.cells #[.slice A3 s.length c3] 26)) (by omega) (by omega) HL1.out HL2.out M1.out M2.out
  rw [HS.out] at hC
  replace hC := hid hC
  go_wp2_with fail
  refine (hC.out).mono ?_
  rintro e w3 ⟨⟨A4, c4, rfl, ho4⟩, hb3⟩
  try clear l1 l2 l3
  try clear x1 x2 x3
  clear hC
  simp only at ho4
  have HO4 := hid ho4.read
  clear ho4
  have X1 := hid (X1.out.below hb3 X1.out.lt)
  have X2 := hid (X2.out.below hb3 X2.out.lt)
  have X3 := hid (X3.out.below hb3 X3.out.lt)
  have M1 := hid ((M1.out.below hb3 (Nat.le_refl _)).more hb3.size)
  have M2 := hid ((M2.out.below hb3 (Nat.le_refl _)).more hb3.size)
  have M3 := hid ((M3.out.below hb3 (Nat.le_refl _)).more hb3.size)
  have HB := hid (bchain HB.out hb3)
  have l1 : w1.heap.size < w3.heap.size := X1.out.lt
  have x1 : w3.cell? ⟨w1.heap.size, 0, none⟩ = some (.slice A1 n1 c1) := bx_c0 X1.out
  have l2 : (w1.heap.size + 1) < w3.heap.size := X2.out.lt
  have x2 : w3.cell? ⟨(w1.heap.size + 1), 0, none⟩ = some (.slice A2 n2 c2) := bx_c0 X2.out
  have l3 : w2.heap.size < w3.heap.size := X3.out.lt
  have x3 : w3.cell? ⟨w2.heap.size, 0, none⟩ = some (.slice A3 s.length c3) := bx_c0 X3.out
  have hal : Below w3.heap.size w3 (w3.alloc (Obj.cells #[.slice A4 s.length c4] 26)) := (by repeat' (first | exact Below.refl _ _ | (with_reducible assumption) | (with_reducible refine Below.alloc ?_ ?_ _) | (with_reducible refine Below.setCell ?_ ?_ _) | (with_reducible refine Below.drew ?_) | (with_reducible refine below_drewN ?_ _) | (refine Below.trans ?_ (Below.mono (by assumption) ?_)) | (with_reducible exact Nat.le_refl _) | (with_reducible assumption) | (exact Below.size (by assumption)) | omega | go_size | (simp at *; omega)))
  have X1 := hid (X1.out.alloc (Obj.cells #[.slice A4 s.length c4] 26))
  have X2 := hid (X2.out.alloc (Obj.cells #[.slice A4 s.length c4] 26))
  have X3 := hid (X3.out.alloc (Obj.cells #[.slice A4 s.length c4] 26))
  have M1 := hid ((M1.out.below hal (Nat.le_refl _)).more hal.size)
  have M2 := hid ((M2.out.below hal (Nat.le_refl _)).more hal.size)
  have M3 := hid ((M3.out.below hal (Nat.le_refl _)).more hal.size)
  have X4 := hid (Bx.new w3 26 #[.slice A4 s.length c4])
  have M4 := hid ((HO4.out.below hal (Nat.le_refl _)).more hal.size)
  have HB := hid (bchain HB.out hal)
  clear hal
  clear hb3
  clear HO4
  go_wp2_with fail
  refine (DrawMultiLandings_any A n c xs _ (by omega) hX.out (hR.out _ HB.out)).mono ?_
  rintro e w4 ⟨⟨A5, n5, c5, rfl, m, hm5, hn5, hr5⟩, hb4⟩
  try clear l1 l2 l3 l4
  try clear x1 x2 x3 x4
  have HL5 : Hid (∀ r ∈ m, r.length ≤ 1099511627776) := fun r hr => by have := hr5 r hr; omega
  have HM5 := hid hm5.rd
  clear hm5 hr5
  have X1 := hid (X1.out.below hb4 X1.out.lt)
  have X2 := hid (X2.out.below hb4 X2.out.lt)
  have X3 := hid (X3.out.below hb4 X3.out.lt)
  have X4 := hid (X4.out.below hb4 X4.out.lt)
  have M1 := hid ((M1.out.below hb4 (Nat.le_refl _)).more hb4.size)
  have M2 := hid ((M2.out.below hb4 (Nat.le_refl _)).more hb4.size)
  have M3 := hid ((M3.out.below hb4 (Nat.le_refl _)).more hb4.size)
  have M4 := hid ((M4.out.below hb4 (Nat.le_refl _)).more hb4.size)
  have HB := hid (bchain HB.out hb4)
  have l1 : w1.heap.size < w4.heap.size := X1.out.lt
  have x1 : w4.cell? ⟨w1.heap.size, 0, none⟩ = some (.slice A1 n1 c1) := bx_c0 X1.out
  have l2 : (w1.heap.size + 1) < w4.heap.size := X2.out.lt
  have x2 : w4.cell? ⟨(w1.heap.size + 1), 0, none⟩ = some (.slice A2 n2 c2) := bx_c0 X2.out
  have l3 : w2.heap.size < w4.heap.size := X3.out.lt
  have x3 : w4.cell? ⟨w2.heap.size, 0, none⟩ = some (.slice A3 s.length c3) := bx_c0 X3.out
  have l4 : w3.heap.size < w4.heap.size := X4.out.lt
  have x4 : w4.cell? ⟨w3.heap.size, 0, none⟩ = some (.slice A4 s.length c4) := bx_c0 X4.out
  have hal : Below w4.heap.size w4 (w4.alloc (Obj.cells #[.slice A5 n5 c5] 26)) := (by repeat' (first | exact Below.refl _ _ | (with_reducible assumption) | (with_reducible refine Below.alloc ?_ ?_ _) | (with_reducible refine Below.setCell ?_ ?_ _) | (with_reducible refine Below.drew ?_) | (with_reducible refine below_drewN ?_ _) | (refine Below.trans ?_ (Below.mono (by assumption) ?_)) | (with_reducible exact Nat.le_refl _) | (with_reducible assumption) | (exact Below.size (by assumption)) | omega | go_size | (simp at *; omega)))
  have X1 := hid (X1.out.alloc (Obj.cells #[.slice A5 n5 c5] 26))
  have X2 := hid (X2.out.alloc (Obj.cells #[.slice A5 n5 c5] 26))
  have X3 := hid (X3.out.alloc (Obj.cells #[.slice A5 n5 c5] 26))
  have X4 := hid (X4.out.alloc (Obj.cells #[.slice A5 n5 c5] 26))
  have M1 := hid ((M1.out.below hal (Nat.le_refl _)).more hal.size)
  have M2 := hid ((M2.out.below hal (Nat.le_refl _)).more hal.size)
  have M3 := hid ((M3.out.below hal (Nat.le_refl _)).more hal.size)
  have M4 := hid ((M4.out.below hal (Nat.le_refl _)).more hal.size)
  have X5 := hid (Bx.new w4 26 #[.slice A5 n5 c5])
  have M5 := hid ((HM5.out.below hal (Nat.le_refl _)).more hal.size)
  have HB := hid (bchain HB.out hal)
  clear hal
  clear hb4
  clear HM5
  have HLM := hid M5.out.len
  obtain ⟨⟨ln, one⟩, hln⟩ : ∃ x, rMultiLandings m = x := ⟨_, rfl⟩
  have HLN := hid hln
  have HLL := hid (rLnd_bd hln (HLM.out ▸ hn5))
  have HLLn : Hid (ln.length ≤ 1099511627776) := by have := HLL.out; show _ ≤ _; omega
  clear hln
  have hC := MultiLandings_any A5 n5 c5 m (w4.alloc (Obj.cells #[.slice A5 n5 c5] 26)) (by omega) HL5.out M5.out
  rw [HLN.out] at hC
  replace hC := hid hC
  go_wp2_with fail
  refine (hC.out).mono ?_
  rintro e w5 ⟨⟨A6, c6, rfl, ho6⟩, hb5⟩
  try clear l1 l2 l3 l4 l5
  try clear x1 x2 x3 x4 x5
  clear hC
  simp only at ho6
  have R6 := hid (Rd.of_own ho6)
  clear ho6
  have X1 := hid (X1.out.below hb5 X1.out.lt)
  have X2 := hid (X2.out.below hb5 X2.out.lt)
  have X3 := hid (X3.out.below hb5 X3.out.lt)
  have X4 := hid (X4.out.below hb5 X4.out.lt)
  have X5 := hid (X5.out.below hb5 X5.out.lt)
  have M1 := hid ((M1.out.below hb5 (Nat.le_refl _)).more hb5.size)
  have M2 := hid ((M2.out.below hb5 (Nat.le_refl _)).more hb5.size)
  have M3 := hid ((M3.out.below hb5 (Nat.le_refl _)).more hb5.size)
  have M4 := hid ((M4.out.below hb5 (Nat.le_refl _)).more hb5.size)
  have M5 := hid ((M5.out.below hb5 (Nat.le_refl _)).more hb5.size)
  have HB := hid (bchain HB.out hb5)
  have l1 : w1.heap.size < w5.heap.size := X1.out.lt
  have x1 : w5.cell? ⟨w1.heap.size, 0, none⟩ = some (.slice A1 n1 c1) := bx_c0 X1.out
  have l2 : (w1.heap.size + 1) < w5.heap.size := X2.out.lt
  have x2 : w5.cell? ⟨(w1.heap.size + 1), 0, none⟩ = some (.slice A2 n2 c2) := bx_c0 X2.out
  have l3 : w2.heap.size < w5.heap.size := X3.out.lt
  have x3 : w5.cell? ⟨w2.heap.size, 0, none⟩ = some (.slice A3 s.length c3) := bx_c0 X3.out
  have l4 : w3.heap.size < w5.heap.size := X4.out.lt
  have x4 : w5.cell? ⟨w3.heap.size, 0, none⟩ = some (.slice A4 s.length c4) := bx_c0 X4.out
  have l5 : w4.heap.size < w5.heap.size := X5.out.lt
  have x5 : w5.cell? ⟨w4.heap.size, 0, none⟩ = some (.slice A5 n5 c5) := bx_c0 X5.out
  clear hb5
  have hC := specMultiLandings_any A5 n5 c5 m w5 (by omega) HL5.out M5.out
  rw [HLN.out] at hC
  replace hC := hid hC
  go_wp2_with fail
  refine (hC.out).mono ?_
  rintro e w6 ⟨⟨A7, c7, rfl, ho7⟩, hb6⟩
  try clear l1 l2 l3 l4 l5
  try clear x1 x2 x3 x4 x5
  clear hC
  simp only at ho7
  have R7 := hid (Rd.of_own ho7)
  clear ho7
  have X1 := hid (X1.out.below hb6 X1.out.lt)
  have X2 := hid (X2.out.below hb6 X2.out.lt)
  have X3 := hid (X3.out.below hb6 X3.out.lt)
  have X4 := hid (X4.out.below hb6 X4.out.lt)
  have X5 := hid (X5.out.below hb6 X5.out.lt)
  have M1 := hid ((M1.out.below hb6 (Nat.le_refl _)).more hb6.size)
  have M2 := hid ((M2.out.below hb6 (Nat.le_refl _)).more hb6.size)
  have M3 := hid ((M3.out.below hb6 (Nat.le_refl _)).more hb6.size)
  have M4 := hid ((M4.out.below hb6 (Nat.le_refl _)).more hb6.size)
  have M5 := hid ((M5.out.below hb6 (Nat.le_refl _)).more hb6.size)
  have R6 := hid ((R6.out.below hb6 (Nat.le_refl _)).more hb6.size)
  have HB := hid (bchain HB.out hb6)
  have l1 : w1.heap.size < w6.heap.size := X1.out.lt
  have x1 : w6.cell? ⟨w1.heap.size, 0, none⟩ = some (.slice A1 n1 c1) := bx_c0 X1.out
  have l2 : (w1.heap.size + 1) < w6.heap.size := X2.out.lt
  have x2 : w6.cell? ⟨(w1.heap.size + 1), 0, none⟩ = some (.slice A2 n2 c2) := bx_c0 X2.out
  have l3 : w2.heap.size < w6.heap.size := X3.out.lt
  have x3 : w6.cell? ⟨w2.heap.size, 0, none⟩ = some (.slice A3 s.length c3) := bx_c0 X3.out
  have l4 : w3.heap.size < w6.heap.size := X4.out.lt
  have x4 : w6.cell? ⟨w3.heap.size, 0, none⟩ = some (.slice A4 s.length c4) := bx_c0 X4.out
  have l5 : w4.heap.size < w6.heap.size := X5.out.lt
  have x5 : w6.cell? ⟨w4.heap.size, 0, none⟩ = some (.slice A5 n5 c5) := bx_c0 X5.out
  clear hb6
  obtain ⟨⟨pr, three⟩, hpr⟩ : ∃ x, rMultiProps m = x := ⟨_, rfl⟩
  have HPR := hid hpr
  clear hpr
  have hC := MultiProps_any A5 n5 c5 m w6 (by omega) HL5.out M5.out
  rw [HPR.out] at hC
  replace hC := hid hC
  go_wp2_with fail
  refine (hC.out).mono ?_
  rintro e w7 ⟨rfl, hb7⟩
  try clear l1 l2 l3 l4 l5
  try clear x1 x2 x3 x4 x5
  clear hC
  have X1 := hid (X1.out.below hb7 X1.out.lt)
  have X2 := hid (X2.out.below hb7 X2.out.lt)
  have X3 := hid (X3.out.below hb7 X3.out.lt)
  have X4 := hid (X4.out.below hb7 X4.out.lt)
  have X5 := hid (X5.out.below hb7 X5.out.lt)
  have M1 := hid ((M1.out.below hb7 (Nat.le_refl _)).more hb7.size)
  have M2 := hid ((M2.out.below hb7 (Nat.le_refl _)).more hb7.size)
  have M3 := hid ((M3.out.below hb7 (Nat.le_refl _)).more hb7.size)
  have M4 := hid ((M4.out.below hb7 (Nat.le_refl _)).more hb7.size)
  have M5 := hid ((M5.out.below hb7 (Nat.le_refl _)).more hb7.size)
  have R6 := hid ((R6.out.below hb7 (Nat.le_refl _)).more hb7.size)
  have R7 := hid ((R7.out.below hb7 (Nat.le_refl _)).more hb7.size)
  have HB := hid (bchain HB.out hb7)
  have l1 : w1.heap.size < w7.heap.size := X1.out.lt
  have x1 : w7.cell? ⟨w1.heap.size, 0, none⟩ = some (.slice A1 n1 c1) := bx_c0 X1.out
  have l2 : (w1.heap.size + 1) < w7.heap.size := X2.out.lt
  have x2 : w7.cell? ⟨(w1.heap.size + 1), 0, none⟩ = some (.slice A2 n2 c2) := bx_c0 X2.out
  have l3 : w2.heap.size < w7.heap.size := X3.out.lt
  have x3 : w7.cell? ⟨w2.heap.size, 0, none⟩ = some (.slice A3 s.length c3) := bx_c0 X3.out
  have l4 : w3.heap.size < w7.heap.size := X4.out.lt
  have x4 : w7.cell? ⟨w3.heap.size, 0, none⟩ = some (.slice A4 s.length c4) := bx_c0 X4.out
  have l5 : w4.heap.size < w7.heap.size := X5.out.lt
  have x5 : w7.cell? ⟨w4.heap.size, 0, none⟩ = some (.slice A5 n5 c5) := bx_c0 X5.out
  clear hb7
  have hC := specMultiProps_any A5 n5 c5 m w7 (by omega) HL5.out M5.out
  rw [HPR.out] at hC
  replace hC := hid hC
  go_wp2_with fail
  refine (hC.out).mono ?_
  rintro e w8 ⟨rfl, hb8⟩
  try clear l1 l2 l3 l4 l5
  try clear x1 x2 x3 x4 x5
  clear hC
  have X1 := hid (X1.out.below hb8 X1.out.lt)
  have X2 := hid (X2.out.below hb8 X2.out.lt)
  have X3 := hid (X3.out.below hb8 X3.out.lt)
  have X4 := hid (X4.out.below hb8 X4.out.lt)
  have X5 := hid (X5.out.below hb8 X5.out.lt)
  have M1 := hid ((M1.out.below hb8 (Nat.le_refl _)).more hb8.size)
  have M2 := hid ((M2.out.below hb8 (Nat.le_refl _)).more hb8.size)
  have M3 := hid ((M3.out.below hb8 (Nat.le_refl _)).more hb8.size)
  have M4 := hid ((M4.out.below hb8 (Nat.le_refl _)).more hb8.size)
  have M5 := hid ((M5.out.below hb8 (Nat.le_refl _)).more hb8.size)
  have R6 := hid ((R6.out.below hb8 (Nat.le_refl _)).more hb8.size)
  have R7 := hid ((R7.out.below hb8 (Nat.le_refl _)).more hb8.size)
  have HB := hid (bchain HB.out hb8)
  have l1 : w1.heap.size < w8.heap.size := X1.out.lt
  have x1 : w8.cell? ⟨w1.heap.size, 0, none⟩ = some (.slice A1 n1 c1) := bx_c0 X1.out
  have l2 : (w1.heap.size + 1) < w8.heap.size := X2.out.lt
  have x2 : w8.cell? ⟨(w1.heap.size + 1), 0, none⟩ = some (.slice A2 n2 c2) := bx_c0 X2.out
  have l3 : w2.heap.size < w8.heap.size := X3.out.lt
  have x3 : w8.cell? ⟨w2.heap.size, 0, none⟩ = some (.slice A3 s.length c3) := bx_c0 X3.out
  have l4 : w3.heap.size < w8.heap.size := X4.out.lt
  have x4 : w8.cell? ⟨w3.heap.size, 0, none⟩ = some (.slice A4 s.length c4) := bx_c0 X4.out
  have l5 : w4.heap.size < w8.heap.size := X5.out.lt
  have x5 : w8.cell? ⟨w4.heap.size, 0, none⟩ = some (.slice A5 n5 c5) := bx_c0 X5.out
  clear hb8
  obtain ⟨vb, hvb⟩ : ∃ v, mOk m = v := ⟨_, rfl⟩
  have HVB := hid hvb
  clear hvb
  have q9 : (vb != vb) = false := by simp
  go_wp2
  obtain ⟨W, hW⟩ : ∃ W, w8 = W := ⟨_, rfl⟩
  rw [hW] at HB X1 M1 X2 M2 X3 M3 X4 M4 X5 M5 R6 R7 ⊢
  clear hW
  try clear l1 l2 l3 l4 l5
  try clear x1 x2 x3 x4 x5
  have hS := hid (fun (w9 : World) (b : Below W.heap.size W w9) => (⟨b, (b.cell (p := ⟨w2.heap.size, 0, none⟩) X3.out.lt).trans (bx_c0 X3.out), (b.cell (p := ⟨w3.heap.size, 0, none⟩) X4.out.lt).trans (bx_c0 X4.out), (b.cell (p := ⟨w4.heap.size, 0, none⟩) X5.out.lt).trans (bx_c0 X5.out)⟩ : Below W.heap.size W w9 ∧ w9.cell? ⟨w2.heap.size, 0, none⟩ = some (.slice A3 s.length c3) ∧ w9.cell? ⟨w3.heap.size, 0, none⟩ = some (.slice A4 s.length c4) ∧ w9.cell? ⟨w4.heap.size, 0, none⟩ = some (.slice A5 n5 c5)))
  have l3 : w2.heap.size < W.heap.size := X3.out.lt
  have x3 : W.cell? ⟨w2.heap.size, 0, none⟩ = some (.slice A3 s.length c3) := bx_c0 X3.out
  have l4 : w3.heap.size < W.heap.size := X4.out.lt
  have x4 : W.cell? ⟨w3.heap.size, 0, none⟩ = some (.slice A4 s.length c4) := bx_c0 X4.out
  have l5 : w4.heap.size < W.heap.size := X5.out.lt
  have x5 : W.cell? ⟨w4.heap.size, 0, none⟩ = some (.slice A5 n5 c5) := bx_c0 X5.out
  have hT0 : Hid (∀ w9 : World, Below W.heap.size W w9 → Calls Try.prog 16 #[.agg #[.slice A3 s.length c3], .agg #[.slice A4 s.length c4]] w9 fun e w' => e = .returned (.bool true) ∧ Below w9.heap.size w9 w') := by
    refine hid fun w9 b => ?_
    have h := specSameMulti_any A3 A4 s.length s.length c3 c4 s s w9 HSN.out HSN.out HSR.out HSR.out ((M3.out.below b (Nat.le_refl _)).more b.size) ((M4.out.below b (Nat.le_refl _)).more b.size)
    rw [same_rows] at h
    exact h
  have hT1 : Hid (∀ w9 : World, Below W.heap.size W w9 → Calls Try.prog 37 #[.slice A6 ln.length c6, .slice A7 ln.length c7] w9 fun e w' => e = .returned (.bool true) ∧ Below w9.heap.size w9 w') := by
    refine hid fun w9 b => ?_
    have h := f6ints_any A6 A7 ln.length ln.length c6 c7 ln ln w9 HLLn.out HLLn.out ((R6.out.below b (Nat.le_refl _)).more b.size) ((R7.out.below b (Nat.le_refl _)).more b.size)
    rw [show decide (ln = ln) = true from decide_eq_true rfl] at h
    exact h
  have hT2 : Hid (∀ w9 : World, Below W.heap.size W w9 → Calls Try.prog 47 #[.agg #[.slice A5 n5 c5]] w9 fun e w' => e = .returned (.bool vb) ∧ Below w9.heap.size w9 w') := by
    refine hid fun w9 b => ?_
    have h := ValidMulti_any A5 n5 c5 m w9 (by omega) HL5.out ((M5.out.below b (Nat.le_refl _)).more b.size)
    rw [HVB.out] at h
    exact h
  have hT3 : Hid (∀ w9 : World, Below W.heap.size W w9 → Calls Try.prog 48 #[.agg #[.slice A5 n5 c5]] w9 fun e w' => e = .returned (.bool vb) ∧ Below w9.heap.size w9 w') := by
    refine hid fun w9 b => ?_
    have h := specValidMulti_any A5 n5 c5 m w9 (by omega) HL5.out ((M5.out.below b (Nat.le_refl _)).more b.size)
    rw [HVB.out] at h
    exact h
  have hBd : Below W.heap.size W W.drew := (Below.refl _ _).drew
  
  go_region_held3 (fun w' => Below W.heap.size W w' ∧ w'.cell? ⟨w2.heap.size, 0, none⟩ = some (.slice A3 s.length c3) ∧ w'.cell? ⟨w3.heap.size, 0, none⟩ = some (.slice A4 s.length c4) ∧ w'.cell? ⟨w4.heap.size, 0, none⟩ = some (.slice A5 n5 c5)) (with_reducible exact hS.out _ (by assumption)) (first | (go_at_call 16; with_reducible refine (hT0.out _ (by assumption)).mono ?_; rintro e w5 ⟨rfl, hb5⟩; have hB5 := bchain (show Below W.heap.size W _ by assumption) hb5) | (go_at_call 37; with_reducible refine (hT1.out _ (by assumption)).mono ?_; rintro e w5 ⟨rfl, hb5⟩; have hB5 := bchain (show Below W.heap.size W _ by assumption) hb5) | (go_at_call 47; with_reducible refine (hT2.out _ (by assumption)).mono ?_; rintro e w5 ⟨rfl, hb5⟩; have hB5 := bchain (show Below W.heap.size W _ by assumption) hb5) | (go_at_call 48; with_reducible refine (hT3.out _ (by assumption)).mono ?_; rintro e w5 ⟨rfl, hb5⟩; have hB5 := bchain (show Below W.heap.size W _ by assumption) hb5))
  have hQ : Below W.heap.size W w5 := by assumption
  have X1 := hid (X1.out.below hQ X1.out.lt)
  have X2 := hid (X2.out.below hQ X2.out.lt)
  have X3 := hid (X3.out.below hQ X3.out.lt)
  have X5 := hid (X5.out.below hQ X5.out.lt)
  have M1 := hid ((M1.out.below hQ (Nat.le_refl _)).more hQ.size)
  have M2 := hid ((M2.out.below hQ (Nat.le_refl _)).more hQ.size)
  have M3 := hid ((M3.out.below hQ (Nat.le_refl _)).more hQ.size)
  have M5 := hid ((M5.out.below hQ (Nat.le_refl _)).more hQ.size)
  have R6 := hid ((R6.out.below hQ (Nat.le_refl _)).more hQ.size)
  have HB := hid (bchain HB.out hQ)
  obtain ⟨we, hwe⟩ : ∃ we, w5 = we := ⟨_, rfl⟩
  rw [hwe] at X1 X2 X3 X5 M1 M2 M3 M5 R6 HB ⊢
  clear hQ l3 l4 l5 x3 x4 x5 hT0 hT1 hT2 hT3 hS hBd
  clear hwe
  go_upto_if 109 with fail
  go_cut [] (fun wx => Hid (wx = we))
  case first =>
    by_cases h0 : one = 0
    · subst h0
      obtain ⟨hok, hlE⟩ := rLnd_ok HLN.out
      have hpE : pr = sR m / (m.length : Int) ∧ three = 0 := by
        have h2 := HPR.out
        rw [rPr_ok hok] at h2
        injection h2 with h2 h3
        exact ⟨h2.symm, h3.symm⟩
      obtain ⟨S, hS⟩ : ∃ S, sR m = S := ⟨_, rfl⟩
      have hbd := pr_bd hok
      have hmul : pr * (n5 : Int) = S := by rw [hpE.1, ← HLM.out, multi_sum' hok, hS]
      rw [← hpE.1, hS] at hbd
      obtain ⟨hb1, hb2, hb3, hb4⟩ := hbd
      have hmulw : wrap64 (pr * (n5 : Int)) = S := by rw [hmul]; simp [wrap64]; omega
      have hst0 : Hid (0 + sR (m.drop 0) = S) := by show _ = _; rw [← hS]; simp
      obtain ⟨⟨h1, h12⟩, hst⟩ := msSh_iff.1 (mOk_iff.1 hok).1
      rw [HLM.out] at h1 h12
      have HST := hid hst
      have HLE := hid hlE
      have HOK := hid hok
      have HMUL := hid hmul
      have x5 := bx_c0 X5.out
      have HLNL : Hid (ln.length = n5) := by show _ = _; rw [hlE, rLand_len]; exact HLM.out
      clear hok hlE hpE hS hst hmul
      go_wp2
      go_loopw [18, 19] (fun s i wr => Hid (∃ (k : Nat) (x : Int), k ≤ n5 ∧ i = .int .i64 k ∧ s = .int .i64 x ∧ 0 ≤ x ∧ x ≤ 60 * k ∧ Hid (x + sR (m.drop k) = S) ∧ wr = we)) (fun _ i _ => n5 - (intOf i).toNat)
      case atStart => exact hid ⟨0, 0, Nat.zero_le _, rfl, rfl, by omega, by omega, hst0, rfl⟩
      case round =>
        obtain ⟨k, x, hk, rfl, rfl, hx0, hx1, he, rfl⟩ := hrel.out
        clear hrel hst0
        by_cases hlt : k < n5
        · obtain ⟨b9, off9, row, Ai, ci, rfl, hb, hx, hd, hc, hrow⟩ := M5.out.at_ hlt
          have hm := HST.out row (List.mem_of_getElem? hx)
          have hl4 := (mstOk_iff.1 hm).1
          obtain ⟨hl1, hl4⟩ := hl4
          have hlx := land_at HOK.out hx
          rw [← HLE.out] at hlx
          obtain ⟨b6, off6, y6, rfl, hb6, hx6, hd6, hc6⟩ := R6.out.at_ (show k < ln.length by rw [HLNL.out]; exact hlt)
          have hlk : k < ln.length := by rw [HLNL.out]; exact hlt
          rw [hlx] at hx6
          injection hx6 with hx6
          obtain ⟨b8, off8, t8, rfl, hb8, hx8, hd8, hc8⟩ := hrow.at_ (show 0 < row.length by omega)
          rw [Nat.add_zero] at hc8
          have HTH : Hid ((t8 = 0 → y6 = 0) ∧ (t8 ≠ 0 → y6 = (row.length : Int))) := by
            show _ ∧ _
            rw [← hx6]
            exact ⟨fun e => thr_zero hm (by rw [← e]; exact hx8), fun e => thr_pos hx8 e⟩
          have HE := hid (fun (x' : Int) (h : x' = x + sI row) => show x' + sR (m.drop (k + 1)) = S from by
            have h2 := he.out
            rw [hd, show sR (row :: m.drop (k + 1)) = sI row + sR (m.drop (k + 1)) from rfl] at h2
            omega)
          have HBR := hid (fun (t : Int) (ht : t ∈ row) => mstOk_bd hm ht)
          have hst1 : Hid (x + sI (row.drop 0) = x + sI row) := by show _ = _; simp
          obtain ⟨X, hX⟩ : ∃ X, x + sI row = X := ⟨_, rfl⟩
          rw [hX] at hst1
          have HX2 := hid hX
          have hsb := sI_bd (l := row) (fun t ht => mstOk_bd hm ht)
          have hXb : 0 ≤ X ∧ X ≤ 60 * k + 60 := by omega
          have HROW := hid hrow
          obtain ⟨L, hL⟩ : ∃ L, row.length = L := ⟨_, rfl⟩
          rw [hL] at HROW hc hl1 hl4 HTH
          have HLL2 := hid hL
          clear he hx hd hm hrow hX hsb hx8 hd8 hlx hx6 hd6 hL
          go_upto_if 130 with fail
          go_cut [20] (fun v wx => Hid (v = .int .i64 y6 ∧ wx = wr))
          case first =>
            by_cases ht0 : t8 = 0
            · have hy := HTH.out.1 ht0
              subst ht0 hy
              go_wp2_with fail
              go_meet
              exact hid ⟨rfl, rfl⟩
            · have hy := HTH.out.2 ht0
              subst hy
              have hq8 : (t8 == 0) = false := by simpa using ht0
              go_wp2_with fail
              go_meet
              exact hid ⟨rfl, rfl⟩
          case rest =>
            obtain ⟨rfl, rfl⟩ := hcut.out
            clear hcut HTH
            go_wp2
            go_loopw [18, 21] (fun s i w2 => Hid (∃ (j : Nat) (z : Int), j ≤ L ∧ i = .int .i64 j ∧ s = .int .i64 z ∧ 0 ≤ z ∧ z ≤ 60 * k + 15 * j ∧ Hid (z + sI (row.drop j) = X) ∧ w2 = wc)) (fun _ i _ => L - (intOf i).toNat)
            case atStart => exact hid ⟨0, x, Nat.zero_le _, rfl, rfl, hx0, by omega, hst1, rfl⟩
            case round =>
              obtain ⟨j, z, hj, rfl, rfl, hz0, hz1, he, rfl⟩ := hrel.out
              clear hrel hst1
              by_cases hjl : j < L
              · obtain ⟨bb, ofb, t, hbe, hbb, hxj, hdj, hcj⟩ := HROW.out.at_ hjl
                injection hbe with hbe
                injection hbe with e1 e2 _
                subst e1 e2
                obtain ⟨t0, t1⟩ := HBR.out t (List.mem_of_getElem? hxj)
                have HZ : Hid (z + t + sI (row.drop (j + 1)) = X) := by
                  show _ = _
                  have h2 := he.out
                  rw [hdj, show sI (t :: row.drop (j + 1)) = t + sI (row.drop (j + 1)) from rfl] at h2
                  omega
                clear he hxj hdj
                go_wp2
                go_roundw
                case rel => exact hid ⟨j + 1, z + t, by omega, by go_num, by go_num, by omega, by omega, HZ, by first | rfl | trivial⟩
                case measure => simp [intOf]; omega
              · have hzX : z = X := by
                  have h2 := he.out
                  rw [List.drop_eq_nil_of_le (by rw [HLL2.out]; omega)] at h2
                  simp only [sI] at h2; omega
                have HZ := hid (HE.out z (by rw [hzX]; exact HX2.out.symm))
                have hzb : z ≤ 60 * k + 60 := by omega
                clear he hzX
                go_wp2
                go_roundw
                case rel => exact hid ⟨k + 1, z, by omega, by go_num, rfl, hz0, by omega, HZ, by first | rfl | trivial⟩
                case measure => simp [intOf]; omega
        · have hxS : x = S := by
            have h2 := he.out
            rw [List.drop_eq_nil_of_le (by rw [HLM.out]; omega)] at h2
            simp only [sR] at h2; omega
          subst hxS
          have hqq : (x != x) = false := by simp
          clear he
          go_wp2_with fail
          go_meet
          exact hid rfl
    · have hq0 : (one == 0) = false := by simpa using h0
      go_wp2_with fail
      go_meet
      exact hid rfl
  case rest =>
    have hwe := hcut.out
    subst hwe
    clear hcut
    by_cases hb0 : bad = 0
    · subst hb0
      have hfull := rAdd_full HS.out
      have hback := rAdd_back HS.out
      have hprop := rAdd_props HS.out
      obtain ⟨oa, ob, o1, o2, os⟩ := hfull
      clear o1 o2
      have ba := pr_bd oa
      have bb := pr_bd ob
      have ea := rPr_ok oa
      have eb := rPr_ok ob
      have es := rPr_ok os
      obtain ⟨pa, hpa⟩ : ∃ v, sR a / (a.length : Int) = v := ⟨_, rfl⟩
      obtain ⟨pb, hpb⟩ : ∃ v, sR b / (b.length : Int) = v := ⟨_, rfl⟩
      rw [hpa] at ba ea hprop
      rw [hpb] at bb eb hprop
      rw [hprop] at es
      have hpa1 : 0 ≤ pa ∧ pa ≤ 720 := ⟨ba.2.2.1, ba.2.2.2⟩
      have hpb1 : 0 ≤ pb ∧ pb ≤ 720 := ⟨bb.2.2.1, bb.2.2.2⟩
      have EA := hid ea
      have EB := hid eb
      have ES := hid es
      have OS := hid os
      have BK := hid hback
      clear hback hprop oa ob os ba bb ea eb es hpa hpb
      have x1 := bx_c0 X1.out
      have x2 := bx_c0 X2.out
      have x3 := bx_c0 X3.out
      have l1 := X1.out.lt
      have l2 := X2.out.lt
      have l3 := X3.out.lt
      have hC := MultiProps_any A1 n1 c1 a wc (by first | omega | exact HSN.out) HL1.out M1.out
      rw [EA.out] at hC
      replace hC := hid hC
      go_wp2_with fail
      refine (hC.out).mono ?_
      rintro e w9 ⟨rfl, hb9⟩
      try clear l1 l2 l3
      try clear x1 x2 x3
      clear hC
      have X1 := hid (X1.out.below hb9 X1.out.lt)
      have X2 := hid (X2.out.below hb9 X2.out.lt)
      have X3 := hid (X3.out.below hb9 X3.out.lt)
      have M1 := hid ((M1.out.below hb9 (Nat.le_refl _)).more hb9.size)
      have M2 := hid ((M2.out.below hb9 (Nat.le_refl _)).more hb9.size)
      have M3 := hid ((M3.out.below hb9 (Nat.le_refl _)).more hb9.size)
      have HB := hid (bchain HB.out hb9)
      have l1 : w1.heap.size < w9.heap.size := X1.out.lt
      have x1 : w9.cell? ⟨w1.heap.size, 0, none⟩ = some (.slice A1 n1 c1) := bx_c0 X1.out
      have l2 : (w1.heap.size + 1) < w9.heap.size := X2.out.lt
      have x2 : w9.cell? ⟨(w1.heap.size + 1), 0, none⟩ = some (.slice A2 n2 c2) := bx_c0 X2.out
      have l3 : w2.heap.size < w9.heap.size := X3.out.lt
      have x3 : w9.cell? ⟨w2.heap.size, 0, none⟩ = some (.slice A3 s.length c3) := bx_c0 X3.out
      clear hb9
      have hC := MultiProps_any A2 n2 c2 b w9 (by first | omega | exact HSN.out) HL2.out M2.out
      rw [EB.out] at hC
      replace hC := hid hC
      go_wp2_with fail
      refine (hC.out).mono ?_
      rintro e w10 ⟨rfl, hb10⟩
      try clear l1 l2 l3
      try clear x1 x2 x3
      clear hC
      have X1 := hid (X1.out.below hb10 X1.out.lt)
      have X2 := hid (X2.out.below hb10 X2.out.lt)
      have X3 := hid (X3.out.below hb10 X3.out.lt)
      have M1 := hid ((M1.out.below hb10 (Nat.le_refl _)).more hb10.size)
      have M2 := hid ((M2.out.below hb10 (Nat.le_refl _)).more hb10.size)
      have M3 := hid ((M3.out.below hb10 (Nat.le_refl _)).more hb10.size)
      have HB := hid (bchain HB.out hb10)
      have l1 : w1.heap.size < w10.heap.size := X1.out.lt
      have x1 : w10.cell? ⟨w1.heap.size, 0, none⟩ = some (.slice A1 n1 c1) := bx_c0 X1.out
      have l2 : (w1.heap.size + 1) < w10.heap.size := X2.out.lt
      have x2 : w10.cell? ⟨(w1.heap.size + 1), 0, none⟩ = some (.slice A2 n2 c2) := bx_c0 X2.out
      have l3 : w2.heap.size < w10.heap.size := X3.out.lt
      have x3 : w10.cell? ⟨w2.heap.size, 0, none⟩ = some (.slice A3 s.length c3) := bx_c0 X3.out
      clear hb10
      have hC := MultiProps_any A3 s.length c3 s w10 (by first | omega | exact HSN.out) HSR.out M3.out
      rw [ES.out] at hC
      replace hC := hid hC
      go_wp2_with fail
      refine (hC.out).mono ?_
      rintro e w11 ⟨rfl, hb11⟩
      try clear l1 l2 l3
      try clear x1 x2 x3
      clear hC
      have X1 := hid (X1.out.below hb11 X1.out.lt)
      have X2 := hid (X2.out.below hb11 X2.out.lt)
      have X3 := hid (X3.out.below hb11 X3.out.lt)
      have M1 := hid ((M1.out.below hb11 (Nat.le_refl _)).more hb11.size)
      have M2 := hid ((M2.out.below hb11 (Nat.le_refl _)).more hb11.size)
      have M3 := hid ((M3.out.below hb11 (Nat.le_refl _)).more hb11.size)
      have HB := hid (bchain HB.out hb11)
      have l1 : w1.heap.size < w11.heap.size := X1.out.lt
      have x1 : w11.cell? ⟨w1.heap.size, 0, none⟩ = some (.slice A1 n1 c1) := bx_c0 X1.out
      have l2 : (w1.heap.size + 1) < w11.heap.size := X2.out.lt
      have x2 : w11.cell? ⟨(w1.heap.size + 1), 0, none⟩ = some (.slice A2 n2 c2) := bx_c0 X2.out
      have l3 : w2.heap.size < w11.heap.size := X3.out.lt
      have x3 : w11.cell? ⟨w2.heap.size, 0, none⟩ = some (.slice A3 s.length c3) := bx_c0 X3.out
      clear hb11
      have hC := AddMulti_any A2 n2 c2 b A1 n1 c1 a w11 (by omega) (by omega) HL2.out HL1.out M2.out M1.out
      rw [BK.out] at hC
      replace hC := hid hC
      go_wp2_with fail
      refine (hC.out).mono ?_
      rintro e w12 ⟨⟨A8, c8, rfl, ho8⟩, hb12⟩
      try clear l1 l2 l3
      try clear x1 x2 x3
      clear hC
      simp only at ho8
      have HO8 := hid ho8.read
      clear ho8
      have X1 := hid (X1.out.below hb12 X1.out.lt)
      have X2 := hid (X2.out.below hb12 X2.out.lt)
      have X3 := hid (X3.out.below hb12 X3.out.lt)
      have M1 := hid ((M1.out.below hb12 (Nat.le_refl _)).more hb12.size)
      have M2 := hid ((M2.out.below hb12 (Nat.le_refl _)).more hb12.size)
      have M3 := hid ((M3.out.below hb12 (Nat.le_refl _)).more hb12.size)
      have HB := hid (bchain HB.out hb12)
      have l1 : w1.heap.size < w12.heap.size := X1.out.lt
      have x1 : w12.cell? ⟨w1.heap.size, 0, none⟩ = some (.slice A1 n1 c1) := bx_c0 X1.out
      have l2 : (w1.heap.size + 1) < w12.heap.size := X2.out.lt
      have x2 : w12.cell? ⟨(w1.heap.size + 1), 0, none⟩ = some (.slice A2 n2 c2) := bx_c0 X2.out
      have l3 : w2.heap.size < w12.heap.size := X3.out.lt
      have x3 : w12.cell? ⟨w2.heap.size, 0, none⟩ = some (.slice A3 s.length c3) := bx_c0 X3.out
      have hal : Below w12.heap.size w12 (w12.alloc (Obj.cells #[.slice A8 s.length c8] 26)) := (by repeat' (first | exact Below.refl _ _ | (with_reducible assumption) | (with_reducible refine Below.alloc ?_ ?_ _) | (with_reducible refine Below.setCell ?_ ?_ _) | (with_reducible refine Below.drew ?_) | (with_reducible refine below_drewN ?_ _) | (refine Below.trans ?_ (Below.mono (by assumption) ?_)) | (with_reducible exact Nat.le_refl _) | (with_reducible assumption) | (exact Below.size (by assumption)) | omega | go_size | (simp at *; omega)))
      have X1 := hid (X1.out.alloc (Obj.cells #[.slice A8 s.length c8] 26))
      have X2 := hid (X2.out.alloc (Obj.cells #[.slice A8 s.length c8] 26))
      have X3 := hid (X3.out.alloc (Obj.cells #[.slice A8 s.length c8] 26))
      have M1 := hid ((M1.out.below hal (Nat.le_refl _)).more hal.size)
      have M2 := hid ((M2.out.below hal (Nat.le_refl _)).more hal.size)
      have M3 := hid ((M3.out.below hal (Nat.le_refl _)).more hal.size)
      have X8 := hid (Bx.new w12 26 #[.slice A8 s.length c8])
      have M8 := hid ((HO8.out.below hal (Nat.le_refl _)).more hal.size)
      have HB := hid (bchain HB.out hal)
      clear hal
      clear hb12
      clear HO8
      have hC := specSameMulti_any A8 A3 s.length s.length c8 c3 s s (w12.alloc (Obj.cells #[.slice A8 s.length c8] 26)) HSN.out HSN.out HSR.out HSR.out M8.out M3.out
      rw [same_rows] at hC
      replace hC := hid hC
      go_wp2_with fail
      refine (hC.out).mono ?_
      rintro e w13 ⟨rfl, hb13⟩
      try clear l1 l2 l3 l8
      try clear x1 x2 x3 x8
      clear hC
      have X1 := hid (X1.out.below hb13 X1.out.lt)
      have X2 := hid (X2.out.below hb13 X2.out.lt)
      have X3 := hid (X3.out.below hb13 X3.out.lt)
      have X8 := hid (X8.out.below hb13 X8.out.lt)
      have M1 := hid ((M1.out.below hb13 (Nat.le_refl _)).more hb13.size)
      have M2 := hid ((M2.out.below hb13 (Nat.le_refl _)).more hb13.size)
      have M3 := hid ((M3.out.below hb13 (Nat.le_refl _)).more hb13.size)
      have M8 := hid ((M8.out.below hb13 (Nat.le_refl _)).more hb13.size)
      have HB := hid (bchain HB.out hb13)
      have l1 : w1.heap.size < w13.heap.size := X1.out.lt
      have x1 : w13.cell? ⟨w1.heap.size, 0, none⟩ = some (.slice A1 n1 c1) := bx_c0 X1.out
      have l2 : (w1.heap.size + 1) < w13.heap.size := X2.out.lt
      have x2 : w13.cell? ⟨(w1.heap.size + 1), 0, none⟩ = some (.slice A2 n2 c2) := bx_c0 X2.out
      have l3 : w2.heap.size < w13.heap.size := X3.out.lt
      have x3 : w13.cell? ⟨w2.heap.size, 0, none⟩ = some (.slice A3 s.length c3) := bx_c0 X3.out
      have l8 : w12.heap.size < w13.heap.size := X8.out.lt
      have x8 : w13.cell? ⟨w12.heap.size, 0, none⟩ = some (.slice A8 s.length c8) := bx_c0 X8.out
      clear hb13
      have hC := ValidMulti_any A3 s.length c3 s w13 HSN.out HSR.out M3.out
      rw [OS.out] at hC
      replace hC := hid hC
      go_wp2_with fail
      refine (hC.out).mono ?_
      rintro e w14 ⟨rfl, hb14⟩
      try clear l1 l2 l3 l8
      try clear x1 x2 x3 x8
      clear hC
      have X1 := hid (X1.out.below hb14 X1.out.lt)
      have X2 := hid (X2.out.below hb14 X2.out.lt)
      have X3 := hid (X3.out.below hb14 X3.out.lt)
      have X8 := hid (X8.out.below hb14 X8.out.lt)
      have M1 := hid ((M1.out.below hb14 (Nat.le_refl _)).more hb14.size)
      have M2 := hid ((M2.out.below hb14 (Nat.le_refl _)).more hb14.size)
      have M3 := hid ((M3.out.below hb14 (Nat.le_refl _)).more hb14.size)
      have M8 := hid ((M8.out.below hb14 (Nat.le_refl _)).more hb14.size)
      have HB := hid (bchain HB.out hb14)
      have l1 : w1.heap.size < w14.heap.size := X1.out.lt
      have x1 : w14.cell? ⟨w1.heap.size, 0, none⟩ = some (.slice A1 n1 c1) := bx_c0 X1.out
      have l2 : (w1.heap.size + 1) < w14.heap.size := X2.out.lt
      have x2 : w14.cell? ⟨(w1.heap.size + 1), 0, none⟩ = some (.slice A2 n2 c2) := bx_c0 X2.out
      have l3 : w2.heap.size < w14.heap.size := X3.out.lt
      have x3 : w14.cell? ⟨w2.heap.size, 0, none⟩ = some (.slice A3 s.length c3) := bx_c0 X3.out
      have l8 : w12.heap.size < w14.heap.size := X8.out.lt
      have x8 : w14.cell? ⟨w12.heap.size, 0, none⟩ = some (.slice A8 s.length c8) := bx_c0 X8.out
      clear hb14
      go_wp2
      go_ret
      exact ⟨rfl, HB.out⟩
    · have hq0 : (bad != 0) = true := by simpa using hb0
      go_wp2
      go_ret
      exact ⟨rfl, HB.out⟩
set_option maxRecDepth 100000 in
theorem fnMultis_walk (w : World) (A : Option Addr) (n c : Nat) (xs : List Int) (hK : Came .u8 w A n c xs) :
    Calls Try.prog 6 #[.slice A n c] w fun e w' => e = .returned (.bool true) ∧ Below w.heap.size w w' := by
  by_cases h : n ≤ 4096
  · exact fnMultis_main w A n c xs hK h
  · have hq : decide (4096 < n) = true := by simp; omega
    have h1 := hK.2.1; have h2 := hK.2.2.1
    unfold maxLen at h2
    have hL := f6big_any A n c w (by omega)
    rw [hq] at hL
    have hL := hid hL
    clear hK h hq
    go_enter Try.func6, Try.ntmps6
    go_wp2_with (go_at_call 9; refine (hL.out).mono ?_; rintro e w' ⟨rfl, rfl⟩)
    go_ret
    exact ⟨rfl, (by repeat' (first | exact Below.refl _ _ | (with_reducible assumption) | (with_reducible refine Below.alloc ?_ ?_ _) | (with_reducible refine Below.setCell ?_ ?_ _) | (with_reducible refine Below.drew ?_) | (with_reducible refine below_drewN ?_ _) | (refine Below.trans ?_ (Below.mono (by assumption) ?_)) | (with_reducible exact Nat.le_refl _) | (with_reducible assumption) | (exact Below.size (by assumption)) | omega | go_size | (simp at *; omega)))⟩
end Go.Proofs.Ytlbhfjbbkkkldaa
