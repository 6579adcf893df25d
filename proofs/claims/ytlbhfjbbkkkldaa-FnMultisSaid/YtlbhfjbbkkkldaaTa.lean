/- Several texts in one: Rc, Sy, Sz, Sv, Ri. -/
import Derived.Test.YtlbhfjbbkkkldaaMc
import Derived.Test.YtlbhfjbbkkkldaaKit
import Derived.Test.YtlbhfjbbkkkldaaProg
import Derived.Shelf.GgSortFunc.Small
import Derived.Shelf.GgSortFunc.Tiny
import Derived.Test.YtlbhfjbbkkkldaaMs
import Derived.Test.YtlbhfjbbkkkldaaAp
import Derived.Test.YtlbhfjbbkkkldaaDw
import Derived.Sort.LotA
import Derived.Deep.QuietTactic
import Derived.Test.YtlbhfjbbkkkldaaMa
import Derived.Test.YtlbhfjbbkkkldaaGr
import Derived.Test.YtlbhfjbbkkkldaaNc
/- Plain: two multiplex patterns that are juggled at once: valid just if no beat has more than four throws. -/
namespace Go.Proofs.Ytlbhfjbbkkkldaa
open Go.RowKit
set_option linter.unusedVariables false

def psv (l : List Int) : List Int := l.filter fun t => decide (0 < t)
theorem psv_append (l m : List Int) : psv (l ++ m) = psv l ++ psv m := by simp [psv]
theorem psv_nz (l : List Int) : psv (nz l) = psv l := by
  unfold psv nz
  rw [List.filter_filter]
  refine List.filter_congr fun t _ => ?_
  by_cases h : 0 < t
  · have : t ≠ 0 := by omega
    simp [h, this]
  · simp [h]
theorem psv_srt (l : List Int) : (psv (rSrt l)).Perm (psv l) := by
  have h : (psv (rSrt l)).Perm (psv (nz l)) := (rSrt_perm l).filter _
  rwa [psv_nz] at h
theorem psv_sortZ (l : List Int) : (psv (rSortZ l)).Perm (psv l) := by
  unfold rSortZ
  split
  · rename_i h
    have := psv_srt l
    rw [h] at this
    have e := this.length_eq
    have : psv l = [] := List.eq_nil_of_length_eq_zero (by rw [← e]; rfl)
    rw [this]
    exact List.Perm.refl _
  · exact psv_srt l
theorem cnt_row (n k i : Nat) (x y : List Int) : (mLnd n k (rSortZ (x ++ y))).count i = (mLnd n k x).count i + (mLnd n k y).count i := by
  have h : (mLnd n k (rSortZ (x ++ y))).Perm (mLnd n k x ++ mLnd n k y) := by
    have h1 : (mLnd n k (rSortZ (x ++ y))).Perm ((psv (x ++ y)).map fun t => (k + t.toNat) % n) := (psv_sortZ (x ++ y)).map _
    rw [psv_append, List.map_append] at h1
    exact h1
  rw [h.count_eq, List.count_append]
theorem cnt_rows (n i : Nat) : ∀ (a b : List (List Int)) (k : Nat), a.length = b.length → (mLnds n k (addR a b)).count i = (mLnds n k a).count i + (mLnds n k b).count i
  | [], [], _, _ => rfl
  | x :: a, y :: b, k, h => by
    have ih := cnt_rows n i a b (k + 1) (by simpa using h)
    show (mLnd n k (rSortZ (x ++ y)) ++ mLnds n (k + 1) (addR a b)).count i = (mLnd n k x ++ mLnds n (k + 1) a).count i + (mLnd n k y ++ mLnds n (k + 1) b).count i
    rw [List.count_append, List.count_append, List.count_append, cnt_row, ih]
    omega
  | [], _ :: _, _, h => by simp at h
  | _ :: _, [], _, h => by simp at h
theorem mst_zero {row : List Int} (h : mstOk row = true) (h0 : (0 : Int) ∈ row) : row = [0] := by
  obtain ⟨k, hk⟩ := List.getElem?_of_mem h0
  have h1 := stAll_iff.1 (mstOk_iff.1 h).2 k (List.getElem?_eq_some_iff.1 hk).1
  rw [stK_at hk, stE_def, Bool.and_eq_true, Bool.and_eq_true] at h1
  have h2 : ¬ 1 < row.length := by
    have := h1.1.2
    simpa using this
  match row, hk, h2, h0 with
  | [a], _, _, h0 => simp at h0; rw [← h0]
  | _ :: _ :: _, _, h2, _ => simp at h2
theorem thr_psv {row : List Int} (h : mstOk row = true) : thr row = ((psv row).length : Int) := by
  by_cases h0 : (0 : Int) ∈ row
  · rw [mst_zero h h0]; rfl
  · have e : psv row = row := by
      unfold psv
      rw [List.filter_eq_self]
      intro t ht
      have := (mstOk_bd h ht).1
      have : t ≠ 0 := fun e => h0 (e ▸ ht)
      simp; omega
    rw [e, thr, if_neg (fun e => h0 (by rw [e]; simp))]
theorem mst_sortZ {l : List Int} (hl : ∀ t ∈ l, 0 ≤ t ∧ t ≤ 15) (h4 : (rSortZ l).length ≤ 4) : mstOk (rSortZ l) = true := by
  unfold rSortZ at *
  split at h4
  · rename_i h
    rw [if_pos h]; rfl
  · rename_i h
    rw [if_neg h]
    have h1 : 1 ≤ (rSrt l).length := by
      rcases Nat.eq_zero_or_pos (rSrt l).length with h0 | h0
      · exact absurd (List.eq_nil_of_length_eq_zero h0) h
      · exact h0
    refine mstOk_iff.2 ⟨⟨h1, h4⟩, stAll_iff.2 fun k hk => ?_⟩
    have hx : (rSrt l)[k]? = some ((rSrt l)[k]) := List.getElem?_eq_getElem hk
    have hm := rSrt_mem (List.getElem_mem hk)
    have hb := hl _ hm.1
    rw [stK_at hx, stE_def, Bool.and_eq_true, Bool.and_eq_true, betweenB_iff]
    refine ⟨⟨hb, by simp [hm.2]⟩, ?_⟩
    unfold stPrev
    by_cases h0 : k = 0
    · rw [if_pos h0]
    · rw [if_neg h0, List.getElem?_eq_getElem (show k - 1 < (rSrt l).length by omega)]
      have := List.pairwise_iff_getElem.1 (rSrt_fall l) (k - 1) k (by omega) hk (by omega)
      simpa using this
theorem addR_at {a b : List (List Int)} {k : Nat} {r : List Int} (h : (addR a b)[k]? = some r) : ∃ x y, a[k]? = some x ∧ b[k]? = some y ∧ r = rSortZ (x ++ y) := by
  unfold addR at h
  rw [List.getElem?_zipWith] at h
  cases hx : a[k]? with
  | none => rw [hx] at h; simp at h
  | some x =>
    cases hy : b[k]? with
    | none => rw [hx, hy] at h; simp at h
    | some y => rw [hx, hy] at h; exact ⟨x, y, rfl, rfl, by simpa using h.symm⟩
/-- The sum of two valid patterns of a length is valid if no beat has more than four throws. -/
theorem addR_ok {a b : List (List Int)} (ha : mOk a = true) (hb : mOk b = true) (hl : a.length = b.length) (h4 : ∀ r ∈ addR a b, r.length ≤ 4) : mOk (addR a b) = true := by
  obtain ⟨sa, la⟩ := mOk_iff.1 ha
  obtain ⟨sb, lb⟩ := mOk_iff.1 hb
  have sa2 := msSh_iff.1 sa
  have sb2 := msSh_iff.1 sb
  have key : ∀ (k : Nat) (r : List Int), (addR a b)[k]? = some r → ∃ x y, a[k]? = some x ∧ b[k]? = some y ∧ r = rSortZ (x ++ y) ∧ mstOk x = true ∧ mstOk y = true ∧ mstOk r = true := by
    intro k r hr
    obtain ⟨x, y, hx, hy, e⟩ := addR_at hr
    have mx := sa2.2 x (List.mem_of_getElem? hx)
    have my := sb2.2 y (List.mem_of_getElem? hy)
    refine ⟨x, y, hx, hy, e, mx, my, ?_⟩
    rw [e]
    refine mst_sortZ (fun t ht => ?_) (by rw [← e]; exact h4 r (List.mem_of_getElem? hr))
    rcases List.mem_append.1 ht with h | h
    · exact mstOk_bd mx h
    · exact mstOk_bd my h
  refine mOk_iff.2 ⟨msSh_iff.2 ⟨by rw [addR_len hl]; exact sa2.1, fun r hr => ?_⟩, fun i hi => ?_⟩
  · obtain ⟨k, hk⟩ := List.getElem?_of_mem hr
    obtain ⟨_, _, _, _, _, _, _, h⟩ := key k r hk
    exact h
  · obtain ⟨x, y, hx, hy, e, mx, my, mr⟩ := key i _ (List.getElem?_eq_getElem hi)
    rw [mLn_at (List.getElem?_eq_getElem hi), addR_len hl, cnt_rows _ _ _ _ _ hl]
    have h1 := la i (List.getElem?_eq_some_iff.1 hx).1
    have h2 := lb i (List.getElem?_eq_some_iff.1 hy).1
    rw [mLn_at hx, beq_iff_eq, thr_psv mx] at h1
    rw [mLn_at hy, beq_iff_eq, thr_psv my, ← hl] at h2
    rw [beq_iff_eq, thr_psv mr, e, (psv_sortZ (x ++ y)).length_eq, psv_append, List.length_append]
    omega
theorem addR_four {a b : List (List Int)} (h : mOk (addR a b) = true) : ∀ r ∈ addR a b, r.length ≤ 4 := fun r hr => (mstOk_iff.1 ((msSh_iff.1 (mOk_iff.1 h).1).2 r hr)).1.2
theorem sortZ_comm (x y : List Int) : rSortZ (x ++ y) = rSortZ (y ++ x) := by
  have h : rSrt (x ++ y) = rSrt (y ++ x) := by
    refine rSrt_uniq (rSrt_fall _) ((rSrt_perm _).trans ?_)
    exact List.perm_append_comm.filter _
  unfold rSortZ
  rw [h]
theorem addR_comm (a b : List (List Int)) : addR a b = addR b a := by
  unfold addR
  rw [List.zipWith_comm]
  congr 1
  funext x y
  exact sortZ_comm y x
end Go.Proofs.Ytlbhfjbbkkkldaa

/- The shelf's laying of sort.Slice at this program, in plain words (printed by gen_sortlay.py). -/
namespace Go.Proofs.Ytlbhfjbbkkkldaa
open Go.Shelf
def sl6_ren : Go.Shelf.Ren := ⟨fun | 6 => 153 | 10 => 169 | 11 => 170 | 12 => 171 | 13 => 172 | 14 => 173 | 24 => 190 | 25 => 191 | 26 => 192 | 27 => 193 | 28 => 194 | 29 => 195 | 30 => 196 | 31 => 197 | 32 => 198 | 33 => 199 | 34 => 211 | 35 => 212 | 36 => 213 | 37 => 214 | 38 => 215 | 39 => 218 | n => n, fun | 20 => 20 | 26 => 140 | 35 => 148 | 0 => 0 | 37 => 150 | 3 => 3 | 41 => 144 | 44 => 156 | 49 => 164 | 51 => 120 | 4 => 4 | 54 => 168 | 53 => 167 | 58 => 172 | 5 => 5 | 9 => 9 | 60 => 184 | 64 => 188 | 66 => 191 | 67 => 114 | 17 => 17 | 32 => 145 | 33 => 146 | 82 => 207 | 12 => 12 | 75 => 200 | 76 => 201 | 77 => 202 | 78 => 203 | 79 => 204 | 80 => 205 | n => n, fun | n => n⟩
theorem sl6 : Go.Proofs.LaysGg.n6 Try.prog sl6_ren := {
  mixed := by kernel_rfl
  f6 := Try.func153.trans (congrArg some (by kernel_rfl))
  f10 := Try.func169.trans (congrArg some (by kernel_rfl))
  f11 := Try.func170.trans (congrArg some (by kernel_rfl))
  f12 := Try.func171.trans (congrArg some (by kernel_rfl))
  f13 := Try.func172.trans (congrArg some (by kernel_rfl))
  f14 := Try.func173.trans (congrArg some (by kernel_rfl))
  f24 := Try.func190.trans (congrArg some (by kernel_rfl))
  f25 := Try.func191.trans (congrArg some (by kernel_rfl))
  f26 := Try.func192.trans (congrArg some (by kernel_rfl))
  f27 := Try.func193.trans (congrArg some (by kernel_rfl))
  f28 := Try.func194.trans (congrArg some (by kernel_rfl))
  f29 := Try.func195.trans (congrArg some (by kernel_rfl))
  f30 := Try.func196.trans (congrArg some (by kernel_rfl))
  f31 := Try.func197.trans (congrArg some (by kernel_rfl))
  f32 := Try.func198.trans (congrArg some (by kernel_rfl))
  f33 := Try.func199.trans (congrArg some (by kernel_rfl))
  f34 := Try.func211.trans (congrArg some (by kernel_rfl))
  f35 := Try.func212.trans (congrArg some (by kernel_rfl))
  f36 := Try.func213.trans (congrArg some (by kernel_rfl))
  f37 := Try.func214.trans (congrArg some (by kernel_rfl))
  f38 := Try.func215.trans (congrArg some (by kernel_rfl))
  f39 := Try.func218.trans (congrArg some (by kernel_rfl))
  t0 := Try.underlying0
  a0 := Try.isAgg0
  z0 := Try.sizeOf0
  v0 := Try.zeroValue0
  i0 := by kernel_rfl
  t3 := Try.underlying3
  a3 := Try.isAgg3
  z3 := Try.sizeOf3
  v3 := Try.zeroValue3
  i3 := by kernel_rfl
  t4 := Try.underlying4
  a4 := Try.isAgg4
  z4 := Try.sizeOf4
  v4 := Try.zeroValue4
  i4 := by kernel_rfl
  t5 := Try.underlying5
  a5 := Try.isAgg5
  z5 := Try.sizeOf5
  v5 := Try.zeroValue5
  i5 := by kernel_rfl
  t9 := Try.underlying9
  a9 := Try.isAgg9
  z9 := Try.sizeOf9
  v9 := Try.zeroValue9
  i9 := by kernel_rfl
  t12 := Try.underlying12
  a12 := Try.isAgg12
  z12 := Try.sizeOf12
  v12 := Try.zeroValue12
  i12 := by kernel_rfl
  t17 := Try.underlying17
  a17 := Try.isAgg17
  z17 := Try.sizeOf17
  v17 := Try.zeroValue17
  i17 := by kernel_rfl
  t20 := Try.underlying20
  a20 := Try.isAgg20
  z20 := Try.sizeOf20
  v20 := Try.zeroValue20
  i20 := by kernel_rfl
  t26 := Try.underlying140
  a26 := Try.isAgg140
  z26 := Try.sizeOf140
  v26 := Try.zeroValue140
  i26 := by kernel_rfl
  t32 := Try.underlying145
  a32 := Try.isAgg145
  z32 := Try.sizeOf145
  v32 := Try.zeroValue145
  i32 := by kernel_rfl
  t33 := Try.underlying146
  a33 := Try.isAgg146
  z33 := Try.sizeOf146
  v33 := Try.zeroValue146
  i33 := by kernel_rfl
  t35 := Try.underlying148
  a35 := Try.isAgg148
  z35 := Try.sizeOf148
  v35 := Try.zeroValue148
  i35 := by kernel_rfl
  t37 := Try.underlying150
  a37 := Try.isAgg150
  z37 := Try.sizeOf150
  v37 := Try.zeroValue150
  i37 := by kernel_rfl
  t41 := Try.underlying144
  a41 := Try.isAgg144
  z41 := Try.sizeOf144
  v41 := Try.zeroValue144
  i41 := by kernel_rfl
  t44 := Try.underlying156
  a44 := Try.isAgg156
  z44 := Try.sizeOf156
  v44 := Try.zeroValue156
  i44 := by kernel_rfl
  t49 := Try.underlying164
  a49 := Try.isAgg164
  z49 := Try.sizeOf164
  v49 := Try.zeroValue164
  i49 := by kernel_rfl
  t51 := Try.underlying120
  a51 := Try.isAgg120
  z51 := Try.sizeOf120
  v51 := Try.zeroValue120
  i51 := by kernel_rfl
  t53 := Try.underlying167
  a53 := Try.isAgg167
  z53 := Try.sizeOf167
  v53 := Try.zeroValue167
  i53 := by kernel_rfl
  t54 := Try.underlying168
  a54 := Try.isAgg168
  z54 := Try.sizeOf168
  v54 := Try.zeroValue168
  i54 := by kernel_rfl
  t58 := Try.underlying172
  a58 := Try.isAgg172
  z58 := Try.sizeOf172
  v58 := Try.zeroValue172
  i58 := by kernel_rfl
  t60 := Try.underlying184
  a60 := Try.isAgg184
  z60 := Try.sizeOf184
  v60 := Try.zeroValue184
  i60 := by kernel_rfl
  t64 := Try.underlying188
  a64 := Try.isAgg188
  z64 := Try.sizeOf188
  v64 := Try.zeroValue188
  i64 := by kernel_rfl
  t66 := Try.underlying191
  a66 := Try.isAgg191
  z66 := Try.sizeOf191
  v66 := Try.zeroValue191
  i66 := by kernel_rfl
  t67 := Try.underlying114
  a67 := Try.isAgg114
  z67 := Try.sizeOf114
  v67 := Try.zeroValue114
  i67 := by kernel_rfl
  t75 := Try.underlying200
  a75 := Try.isAgg200
  z75 := Try.sizeOf200
  v75 := Try.zeroValue200
  i75 := by kernel_rfl
  t76 := Try.underlying201
  a76 := Try.isAgg201
  z76 := Try.sizeOf201
  v76 := Try.zeroValue201
  i76 := by kernel_rfl
  t77 := Try.underlying202
  a77 := Try.isAgg202
  z77 := Try.sizeOf202
  v77 := Try.zeroValue202
  i77 := by kernel_rfl
  t78 := Try.underlying203
  a78 := Try.isAgg203
  z78 := Try.sizeOf203
  v78 := Try.zeroValue203
  i78 := by kernel_rfl
  t79 := Try.underlying204
  a79 := Try.isAgg204
  z79 := Try.sizeOf204
  v79 := Try.zeroValue204
  i79 := by kernel_rfl
  t80 := Try.underlying205
  a80 := Try.isAgg205
  z80 := Try.sizeOf205
  v80 := Try.zeroValue205
  i80 := by kernel_rfl
  t82 := Try.underlying207
  a82 := Try.isAgg207
  z82 := Try.sizeOf207
  v82 := Try.zeroValue207
  i82 := by kernel_rfl }
end Go.Proofs.Ytlbhfjbbkkkldaa

/- Contract of sort.Slice at a row of integers that is sorted in falling order (the shelf's contract). -/
namespace Go.Proofs.Ytlbhfjbbkkkldaa
open Go.RowKit
set_option linter.unusedVariables false

theorem bx_q0 {w : World} {g : Nat} {t : TypeId} {v : Value} (h : Bx w g t #[v]) : w.cell? ⟨g, 0, none⟩ = some v := h.cell 0
theorem own_keepb {w : World} {base n g : Nat} {v u : Value} {xs : List Value} {t : TypeId} {cs : Array Value} (h : w.ownsRow base 2 1 v n xs) (hx : Bx w g t cs) (hne : 2 ≠ t) : (w.setCell ⟨g, 0, none⟩ u).ownsRow base 2 1 v n xs := by
  have hb := own_bne h hx hne
  refine ⟨h.1, ?_⟩
  rcases h.2 with h3 | ⟨g', cap, cur, h3, hge, hh, r⟩
  · exact Or.inl h3
  · exact Or.inr ⟨g', cap, cur, h3, hge, by rw [Below.heap_setCell _ _ _ _ (by intro e; apply hb; rw [h3]; exact congrArg some e)]; exact hh, r⟩
def gtI (a b : Int) : Bool := decide (b < a)
theorem gt_swo : Sort.SWO gtI where
  irrefl x := by simp [gtI]
  trans x y z h1 h2 := by simp only [gtI, decide_eq_true_eq] at *; omega
  ntrans x y z h1 h2 := by simp only [gtI, decide_eq_false_iff_not] at *; omega
theorem fall_eq (d d' : Array Int) (hp : Sort.PermIn 0 d.size d d') (hs : Sort.SortedIn gtI 0 d.size d') : d'.toList = d.toList.mergeSort geB := by
  have h := Sort.sorted_unique_holds (lt := gtI) gt_swo (fun x y h1 h2 => by simp only [gtI, decide_eq_false_iff_not] at h1 h2; omega) d d' hp hs
  have e : (fun x y : Int => !gtI y x) = geB := by
    funext x y
    simp only [gtI, geB]
    by_cases h : y ≤ x
    · have h2 : ¬ x < y := by omega
      simp [h, h2]
    · have h2 : x < y := by omega
      simp [h, h2]
  rw [e] at h
  exact h
section
variable {w : World} {g off : Nat} {d d' : Array Int} {n : Nat} {os : Array Obj}
theorem sorted_size : w.heap.size ≤ (Sort.grow (Sort.putRow (Value.int .i64) (Sort.ahead w n) g off d') os).heap.size := by
  rw [Sort.size_grow]
  unfold Sort.putRow Sort.mapBlock Sort.ahead
  simp
theorem sorted_block {k : Nat} (hk : k < w.heap.size) (hg : k ≠ g) : (Sort.grow (Sort.putRow (Value.int .i64) (Sort.ahead w n) g off d') os).heap[k]? = w.heap[k]? := by
  rw [Sort.heap_grow_old _ _ (by unfold Sort.putRow Sort.mapBlock Sort.ahead; simpa using hk)]
  unfold Sort.putRow Sort.mapBlock Sort.ahead
  simp only [Array.getElem?_modify]
  rw [if_neg (fun e => hg e.symm)]
theorem sorted_row {cur : Array Value} {e : TypeId} {fz : Nat × Nat} (hh : w.heap[g]? = some (.cells cur e fz)) : (Sort.grow (Sort.putRow (Value.int .i64) (Sort.ahead w n) g off d') os).heap[g]? = some (.cells (Sort.putCells (Value.int .i64) off d' cur) e fz) := by
  have hg : g < w.heap.size := (Array.getElem?_eq_some_iff.1 hh).1
  rw [Sort.heap_grow_old _ _ (by unfold Sort.putRow Sort.mapBlock Sort.ahead; simpa using hg)]
  unfold Sort.putRow Sort.mapBlock Sort.ahead
  simp only [Array.getElem?_modify, if_true]
  show (w.heap[g]?).map _ = _
  rw [hh]; rfl
theorem sorted_below {B : Nat} (hB : B ≤ g) (hBw : B ≤ w.heap.size) : Below B w (Sort.grow (Sort.putRow (Value.int .i64) (Sort.ahead w n) g off d') os) :=
  ⟨rfl, rfl, rfl, sorted_size, fun k hk => sorted_block (by omega) (by omega)⟩
theorem sorted_own {base m c : Nat} {xs ys : List Int} (h : w.ownsRow base 2 1 (.slice (some ⟨g, 0, none⟩) m c) m (ints xs)) (hy : ys.length = m) :
    (Sort.grow (Sort.putRow (Value.int .i64) (Sort.ahead w n) g 0 ys.toArray) os).ownsRow base 2 1 (.slice (some ⟨g, 0, none⟩) m c) m (ints ys) := by
  refine ⟨by simp [ints, hy], Or.inr ?_⟩
  rcases h.2 with ⟨h3, _⟩ | ⟨g', cap, cur, h3, hge, hh, hnc, hcm, hcs, ht⟩
  · cases h3
  · injection h3 with h4 h5 h6
    injection h4 with h4
    injection h4 with h4 _ _
    subst h4 h6
    refine ⟨g, c, Sort.putCells (Value.int .i64) 0 ys.toArray cur, rfl, hge, sorted_row hh, hnc, hcm, by rw [← hcs]; simp [Sort.putCells], ?_⟩
    have hcl : m ≤ cur.size := by omega
    apply List.ext_getElem?
    intro i
    rw [List.getElem?_take, Nat.mul_one]
    by_cases hi : i < m
    · have hic : i < cur.size := by omega
      rw [if_pos hi, Array.getElem?_toList]
      unfold Sort.putCells
      rw [Array.getElem?_mapIdx, Array.getElem?_eq_getElem hic, Option.map_some, if_pos ⟨Nat.zero_le _, by simp [hy]; omega⟩]
      have hiy : i < ys.length := by omega
      unfold ints
      rw [List.getElem?_map, List.getElem?_eq_getElem hiy]
      simp [hiy]
    · rw [if_neg hi]
      exact (List.getElem?_eq_none (by simp [ints, hy]; omega)).symm
theorem own_holds {base m c : Nat} {xs : List Int} (h : w.ownsRow base 2 1 (.slice (some ⟨g, 0, none⟩) m c) m (ints xs)) : Sort.Holds (Value.int .i64) w g 0 xs.toArray ∧ g < w.heap.size ∧ base ≤ g := by
  have hl : xs.length = m := by have := h.1; simpa [ints] using this
  refine ⟨fun j hj => ⟨?_, ?_⟩, (h.lt g rfl).2, (h.lt g rfl).1⟩
  · have hj2 : j < xs.length := by simpa using hj
    rw [Nat.zero_add, h.cellAt j (by omega)]
    unfold ints
    rw [List.getElem?_map, List.getElem?_eq_getElem hj2]
    simp [hj2]
  · rw [Nat.zero_add]; exact h.frozenAt j
end
noncomputable def tiT : TypeInfo := (Try.prog.info? 43).get (by kernel_rfl)
noncomputable def tiE : TypeInfo := (Try.prog.info? 2).get (by kernel_rfl)
theorem tiK (n : Nat) (h2 : 2 ≤ n) : Lib.swapperK n tiE 6 = 5 := by
  have a : tiE.hasPointers = false := by kernel_rfl
  have b : tiE.bytes = 8 := by kernel_rfl
  have c : (n == 0) = false := by simp; omega
  have d : (n == 1) = false := by simp; omega
  simp [Lib.swapperK, a, b, c, d]
set_option maxHeartbeats 2000000 in
theorem less_gt (blk c Bs size : Nat) (W : World) (G : Nat → Int) (hs : W.cell? ⟨Bs, 0, none⟩ = some (.slice (some ⟨blk, 0, none⟩) size c))
    (hc : ∀ t, t < size → W.cell? ⟨blk, 0 + t, none⟩ = some (.int .i64 (G t))) (i j : Nat) (hi : i < size) (hj : j < size) (hsz : size ≤ 12) :
    Calls Try.prog 154 #[.int .i64 i, .int .i64 j, .pointer (some ⟨Bs, 0, none⟩)] W fun e w' => e = .returned (.bool (gtI (G i) (G j))) ∧ ∃ q, w' = W.drewN q := by
  have ci := hc i hi
  have cj := hc j hj
  rw [Nat.zero_add] at ci cj
  clear hc
  unfold gtI
  go_enter Try.func154, Try.ntmps154
  go_wp2
  go_quiet (fail)
  go_wp2
  go_ret
  exact ⟨rfl, nq, rfl⟩
set_option maxRecDepth 100000 in
set_option maxHeartbeats 2000000 in
theorem sort_gt (gb bx c base : Nat) (d : List Int) (w : World) (h12 : d.length ≤ 12) (hx : Bx w bx 43 #[.slice (some ⟨gb, 0, none⟩) d.length c]) (ho : w.ownsRow base 2 1 (.slice (some ⟨gb, 0, none⟩) d.length c) d.length (ints d)) (hne : bx ≠ gb) :
    Calls Try.prog 153 #[.iface 43 (.slice (some ⟨gb, 0, none⟩) d.length c), .func (.func 154) #[] #[.pointer (some ⟨bx, 0, none⟩)]] w fun e w' => e = .returned (.tuple #[]) ∧ w'.ownsRow base 2 1 (.slice (some ⟨gb, 0, none⟩) d.length c) d.length (ints (d.mergeSort geB)) ∧ Bx w' bx 43 #[.slice (some ⟨gb, 0, none⟩) d.length c] ∧ Below base w w' := by
  obtain ⟨hH, hgl, hbg⟩ := own_holds ho
  by_cases h2 : 2 ≤ d.length
  · have hless : LessReads Try.prog 154 #[.pointer (some ⟨bx, 0, none⟩)] (Value.int .i64) gtI gb 0 d.toArray.size w := by
      intro m os dk hs i j hi hj
      have hsz : d.toArray.size = d.length := by simp
      rw [hsz] at hi hj hs
      refine less_gt gb c bx d.length _ (fun t => dk[t]!) ?_ (fun t ht => ?_) i j hi hj h12
      · have := hx.lt
        have hk : (sortWorld (Value.int .i64) w gb 0 m dk os).heap[bx]? = w.heap[bx]? := sorted_block this hne
        exact (World.cell?_of_block (w := w) (a := ⟨bx, 0, none⟩) hk).trans (hx.cell 0)
      · rcases ho.2 with ⟨h3, _⟩ | ⟨g', cap, cur, h3, hge, hh, hnc, hcm, hcs, htk⟩
        · cases h3
        · injection h3 with h4 h5 h6
          injection h4 with h4
          injection h4 with h4 _ _
          subst h4 h6
          have hr : (sortWorld (Value.int .i64) w gb 0 m dk os).heap[gb]? = some (.cells (Sort.putCells (Value.int .i64) 0 dk cur) 2 (0, 0)) := sorted_row hh
          rw [Nat.zero_add, cell_of_row _ gb t _ _ _ hr]
          unfold Sort.putCells
          have hic : t < cur.size := by omega
          rw [Array.getElem?_mapIdx, Array.getElem?_eq_getElem hic, Option.map_some, if_pos ⟨Nat.zero_le _, by omega⟩]
          rfl
    have hS := Any.sort_Slice_small_sorted sl6 43 2 tiT tiE (by kernel_rfl) (by kernel_rfl) (by kernel_rfl) (by kernel_rfl) 6 (fun _ => by kernel_rfl) (by kernel_rfl) (fun _ => by kernel_rfl) (Value.int .i64) (fun _ => rfl) gtI gt_swo 154 _
      (enters_of Try.func154 (by kernel_rfl) rfl) gb 0 c d.toArray (by simpa using h2) (by simpa using h12) 185 (by rw [tiK _ (by simpa using h2)]; kernel_rfl) true
      (fun args W => run_callFunc_extern Try.func185 (by kernel_rfl) (by kernel_rfl) (by kernel_rfl) (e := Extern.ReflectliteSwapper.swap true) (by kernel_rfl) args W) w hless hH hgl
    have hsz : d.toArray.size = d.length := by simp
    rw [hsz] at hS
    refine hS.mono ?_
    rintro e w' ⟨rfl, d', q, os, hp, hso, rfl⟩
    have hf := fall_eq d.toArray d' (by rw [hsz]; exact hp) (by rw [hsz]; exact hso)
    have hf2 : d' = (d.mergeSort geB).toArray := by
      have : d'.toList = d.mergeSort geB := by simpa using hf
      rw [← this]
    rw [hf2]
    exact ⟨rfl, sorted_own ho (by simp), (sorted_block hx.lt hne).trans hx, sorted_below hbg (by omega)⟩
  · have hK : Lib.swapperK d.length tiE 6 = d.length + 1 := by
      rcases Nat.eq_zero_or_pos d.length with h | h
      · rw [h]; simp [Lib.swapperK]
      · have h1 : d.length = 1 := by omega
        rw [h1]; simp [Lib.swapperK]
    have hm : d.mergeSort geB = d := by
      match d, h2 with
      | [], _ => simp
      | [x], _ => simp
      | x :: y :: r, h2 => simp at h2
    have hfi : ∃ f, Try.prog.funcs.findIdx? (·.name == "internal/reflectlite" ++ ".Swapper$" ++ toString (Lib.swapperK d.length tiE 6)) = some f := by
      rw [hK]
      rcases Nat.eq_zero_or_pos d.length with h | h
      · rw [h]; exact ⟨181, by kernel_rfl⟩
      · have h1 : d.length = 1 := by omega
        rw [h1]; exact ⟨182, by kernel_rfl⟩
    obtain ⟨f, hfi⟩ := hfi
    have hS := Any.sort_Slice_tiny sl6 43 2 tiT tiE (by kernel_rfl) (by kernel_rfl) (by kernel_rfl) (by kernel_rfl) 6 (fun _ => by kernel_rfl) (some ⟨gb, 0, none⟩) d.length c (by omega) f hfi (.func 154) #[] #[.pointer (some ⟨bx, 0, none⟩)] w
    refine hS.mono ?_
    rintro e w' ⟨rfl, os, rfl⟩
    have hb : Below w.heap.size w (Sort.grow w os) := ⟨rfl, rfl, rfl, by simp, fun k hk => Sort.heap_grow_old w os hk⟩
    rw [hm]
    exact ⟨rfl, own_below ho hb, hx.below hb hx.lt, hb.mono (by omega)⟩
end Go.Proofs.Ytlbhfjbbkkkldaa

/- Contract of sortBeat. -/
namespace Go.Proofs.Ytlbhfjbbkkkldaa
open Go.RowKit
set_option linter.unusedVariables false

set_option maxRecDepth 100000 in
set_option maxHeartbeats 2000000 in
theorem sortBeat_any (A : Option Addr) (n c : Nat) (l : List Int) (w : World) (hn : n ≤ 12) (h0 : ∀ x ∈ l, 0 ≤ x) (hr : Rd w w.heap.size 1 A n (ints l)) :
    Calls Try.prog 108 #[.slice A n c] w fun e w' => (∃ A' c', e = .returned (.slice A' (rSortZ l).length c') ∧ w'.ownsRow w.heap.size 2 1 (.slice A' (rSortZ l).length c') (rSortZ l).length (ints (rSortZ l))) ∧ Below w.heap.size w w' := by
  have hlen := hr.len
  have HR := hid hr
  have HL := hid hlen
  have H0 := hid h0
  have hst0 : Hid (nz (l.take 0) = []) := by show _ = _; rw [List.take_zero]; rfl
  clear hr hlen h0
  go_enter Try.func108, Try.ntmps108
  have HX0 : Hid (Bx ((w.alloc (Obj.cells #[] 2)).alloc (Obj.cells #[.slice (some ⟨w.heap.size, 0, none⟩) 0 0] 43)) (w.heap.size + 1) 43 #[.slice (some ⟨w.heap.size, 0, none⟩) 0 0]) := by
    have h := Bx.new (w.alloc (Obj.cells #[] 2)) 43 #[.slice (some ⟨w.heap.size, 0, none⟩) 0 0]
    rw [World.size_alloc] at h
    exact h
  go_wp2
  go_loopw [9] (fun i wr => Hid (∃ (k : Nat) (out : List Int) (g0 c0 : Nat), k ≤ n ∧ i = .int .i64 k ∧ Hid (nz (l.take k) = out) ∧ out.length ≤ k ∧ Bx wr (w.heap.size + 1) 43 #[.slice (some ⟨g0, 0, none⟩) out.length c0] ∧ wr.ownsRow w.heap.size 2 1 (.slice (some ⟨g0, 0, none⟩) out.length c0) out.length (ints out) ∧ Below w.heap.size w wr)) (fun i _ => n - (intOf i).toNat)
  case atStart => exact hid ⟨0, [], w.heap.size, 0, Nat.zero_le _, rfl, hst0, by simp, HX0.out, own_below (World.ownsRow_lit _ _ 0 (Nat.le_refl _) (by simp [maxLen]) rfl) (by repeat' (first | exact Below.refl _ _ | (with_reducible assumption) | (with_reducible refine Below.alloc ?_ ?_ _) | (with_reducible refine Below.setCell ?_ ?_ _) | (with_reducible refine Below.drew ?_) | (with_reducible refine below_drewN ?_ _) | (refine Below.trans ?_ (Below.mono (by assumption) ?_)) | (with_reducible exact Nat.le_refl _) | (with_reducible assumption) | (exact Below.size (by assumption)) | omega | go_size | (simp at *; omega))), (by repeat' (first | exact Below.refl _ _ | (with_reducible assumption) | (with_reducible refine Below.alloc ?_ ?_ _) | (with_reducible refine Below.setCell ?_ ?_ _) | (with_reducible refine Below.drew ?_) | (with_reducible refine below_drewN ?_ _) | (refine Below.trans ?_ (Below.mono (by assumption) ?_)) | (with_reducible exact Nat.le_refl _) | (with_reducible assumption) | (exact Below.size (by assumption)) | omega | go_size | (simp at *; omega)))⟩
  case round =>
    obtain ⟨k, out, g0, c0, hk, rfl, hF, hol, hX, ho, hb0⟩ := hrel.out
    clear hrel hst0 HX0
    have hz0 := hb0.size
    have x0 := bx_q0 hX
    have f0 := hX.frozen 0
    have hbl := hX.lt
    by_cases hlt : k < n
    · obtain ⟨b, off, x, rfl, hb, hx, hd, hc0⟩ := HR.out.at_ hlt
      have hc := (hb0.cell (p := ⟨b, off + k, none⟩) hb).trans hc0
      have hbw : b < wr.heap.size := by omega
      have hNZ := nz_step hx
      rw [hF.out] at hNZ
      have hx0 := H0.out x (List.mem_of_getElem? hx)
      by_cases hq : 0 < x
      · rw [if_neg (by omega)] at hNZ
        obtain ⟨out2, hout2⟩ : ∃ o, out ++ [x] = o := ⟨_, rfl⟩
        have HL2 : Hid (out2.length = out.length + 1) := by show _ = _; rw [← hout2]; simp
        rw [hout2] at hNZ
        have HOUT := hid hout2
        have HNZ := hid hNZ
        clear hout2
        have hbne := own_bne ho hX (by decide)
        have HX := hid hX
        have HB0 := hid hb0
        clear hx hd hc0 hNZ hF hX hb0
        go_wp2_with (at_builtin; refine push_int ho x _ Try.underlying43 inf_int rfl rfl _ _ rfl rfl rfl (by omega) (by omega) ?_; intro v1 w1 ho1 hb1 hg1; rw [HOUT.out] at ho1; obtain ⟨g1, c1, rfl, _⟩ := own_some ho1 (by rw [HL2.out]; omega); have hX1 := HX.out.grown hg1 (Ne.symm hbne); have x1 := bx_q0 hX1; have f1 := hX1.frozen 0; have hl1 := hX1.lt)
        have hXs := hX1.set_ 0 (.slice (some ⟨g1, 0, none⟩) out2.length c1)
        have HXs : Hid (Bx (w1.setCell ⟨w.heap.size + 1, 0, none⟩ (.slice (some ⟨g1, 0, none⟩) out2.length c1)) (w.heap.size + 1) 43 #[.slice (some ⟨g1, 0, none⟩) out2.length c1]) := hXs
        have HOs := hid (own_keepb (u := .slice (some ⟨g1, 0, none⟩) out2.length c1) ho1 hX1 (by decide))
        have HBs : Hid (Below w.heap.size w (w1.setCell ⟨w.heap.size + 1, 0, none⟩ (.slice (some ⟨g1, 0, none⟩) out2.length c1))) := (HB0.out.trans hb1).setCell (by show w.heap.size ≤ w.heap.size + 1; omega) _
        go_roundw
        case rel => exact hid ⟨k + 1, out2, g1, c1, by omega, by go_num, HNZ, by rw [HL2.out]; omega, HXs.out, HOs.out, HBs.out⟩
        case measure => simp [intOf]; omega
      · have hx0' : x = 0 := by omega
        rw [if_pos hx0', List.append_nil] at hNZ
        have HNZ := hid hNZ
        clear hx hd hc0 hNZ hF hx0'
        go_wp2
        go_roundw
        case rel => exact hid ⟨k + 1, out, g0, c0, by omega, by go_num, HNZ, by omega, hX, ho, hb0⟩
        case measure => simp [intOf]; omega
    · have hkn : k = n := by omega
      have hE : nz l = out := by
        have h := hF.out
        rwa [List.take_of_length_le (by rw [HL.out]; omega)] at h
      have HE := hid hE
      clear hE hF
      by_cases hz : out.length = 0
      · have ho2 : out = [] := List.eq_nil_of_length_eq_zero hz
        have HS : Hid (rSortZ l = [0]) := by
          show _ = _
          have h1 : rSrt l = [] := by rw [rSrt, HE.out, ho2]; simp
          rw [rSortZ, if_pos h1]
        subst ho2
        clear hX ho
        go_wp2
        refine bodyPost_ret (v := .slice (some ⟨wr.heap.size, 0, none⟩) 1 1) ?_ rfl ?_
        · simp (maxDischargeDepth := 8) [results, Try.results108, go_sem, *]
        rw [HS.out]
        refine ⟨⟨some ⟨wr.heap.size, 0, none⟩, 1, rfl, ?_⟩, (by repeat' (first | exact Below.refl _ _ | (with_reducible assumption) | (with_reducible refine Below.alloc ?_ ?_ _) | (with_reducible refine Below.setCell ?_ ?_ _) | (with_reducible refine Below.drew ?_) | (with_reducible refine below_drewN ?_ _) | (refine Below.trans ?_ (Below.mono (by assumption) ?_)) | (with_reducible exact Nat.le_refl _) | (with_reducible assumption) | (exact Below.size (by assumption)) | omega | go_size | (simp at *; omega)))⟩
        exact World.ownsRow_lit _ _ 1 (by omega) (by simp [maxLen]) rfl
      · have HS : Hid (rSortZ l = out.mergeSort geB) := by
          show _ = _
          have h1 : rSrt l = out.mergeSort geB := by rw [rSrt, HE.out]
          have h2 : rSrt l ≠ [] := by
            intro e
            rw [h1] at e
            have := congrArg List.length e
            simp at this
            exact hz (by rw [this]; rfl)
          rw [rSortZ, if_neg h2, h1]
        have hbne := own_bne ho hX (by decide)
        have hg0 : g0 < wr.heap.size := (own_holds ho).2.1
        have HW := hid (sort_gt g0 (w.heap.size + 1) c0 w.heap.size out wr (by omega) hX ho (by intro e; exact hbne (by rw [e]; rfl)))
        have hln : ((out.length : Int) == 0) = false := by simpa using hz
        have HB0 := hid hb0
        clear hX ho hb0 hbne
        go_wp2_with fail
        refine HW.out.mono ?_
        rintro e w2 ⟨rfl, ho2, hX2, hb2⟩
        have x2 := bx_q0 hX2
        have f2 := hX2.frozen 0
        have HB2 := hid (HB0.out.trans hb2)
        have HO2 := hid ho2
        clear HW HB0 hb2 ho2 hX2
        go_wp2
        refine bodyPost_ret (v := .slice (some ⟨g0, 0, none⟩) out.length c0) ?_ rfl ?_
        · simp (maxDischargeDepth := 8) [results, Try.results108, go_sem, *]
        rw [HS.out]
        have hl : (out.mergeSort geB).length = out.length := List.length_mergeSort out
        rw [hl]
        exact ⟨⟨_, c0, rfl, HO2.out⟩, HB2.out⟩
end Go.Proofs.Ytlbhfjbbkkkldaa

/- Contract of AddMulti. -/
namespace Go.Proofs.Ytlbhfjbbkkkldaa
open Go.RowKit
set_option linter.unusedVariables false

theorem addR_bad {a b : List (List Int)} {k : Nat} {x y : List Int} (ha : a[k]? = some x) (hb : b[k]? = some y) (h : ¬ (rSortZ (x ++ y)).length ≤ 4) : mOk (addR a b) = false := by
  cases hq : mOk (addR a b) with
  | false => rfl
  | true =>
    refine absurd (addR_four hq (rSortZ (x ++ y)) (List.mem_of_getElem? (i := k) ?_)) h
    rw [addR, List.getElem?_zipWith, ha, hb]
set_option maxRecDepth 100000 in
set_option maxHeartbeats 4000000 in
theorem AddMulti_any (A : Option Addr) (n c : Nat) (a : List (List Int)) (B : Option Addr) (m d : Nat) (b : List (List Int)) (w : World) (hn : n ≤ 1099511627776) (hm : m ≤ 1099511627776) (hla : ∀ r ∈ a, r.length ≤ 1099511627776) (hlb : ∀ r ∈ b, r.length ≤ 1099511627776) (ha : RdG w w.heap.size A n a) (hb : RdG w w.heap.size B m b) :
    Calls Try.prog 40 #[.agg #[.slice A n c], .agg #[.slice B m d]] w fun e w' => AmRes w.heap.size (rAddMulti a b) e w' ∧ Below w.heap.size w w' := by
  have HLA := hid ha.len
  have HLB := hid hb.len
  have HRA := hid ha
  have HRB := hid hb
  obtain ⟨W, hW⟩ : ∃ W, ((w.alloc (Obj.cells #[.slice A n c] 26)).alloc (Obj.cells #[.slice B m d] 26)).alloc (Obj.cells #[.slice none 0 0] 26) = W := ⟨_, rfl⟩
  have hbW : Below w.heap.size w W := by rw [← hW]; exact (by repeat' (first | exact Below.refl _ _ | (with_reducible assumption) | (with_reducible refine Below.alloc ?_ ?_ _) | (with_reducible refine Below.setCell ?_ ?_ _) | (with_reducible refine Below.drew ?_) | (with_reducible refine below_drewN ?_ _) | (refine Below.trans ?_ (Below.mono (by assumption) ?_)) | (with_reducible exact Nat.le_refl _) | (with_reducible assumption) | (exact Below.size (by assumption)) | omega | go_size | (simp at *; omega)))
  have hXA : Bx W w.heap.size 26 #[.slice A n c] := by rw [← hW]; exact ((Bx.new _ _ _).alloc _).alloc _
  have hXB : Bx W (w.heap.size + 1) 26 #[.slice B m d] := by
    have h := Bx.new (w.alloc (Obj.cells #[.slice A n c] 26)) 26 #[.slice B m d]
    rw [World.size_alloc] at h
    rw [← hW]; exact h.alloc _
  have hXR : Bx W (w.heap.size + 1 + 1) 26 #[.slice none 0 0] := by
    have h := Bx.new ((w.alloc (Obj.cells #[.slice A n c] 26)).alloc (Obj.cells #[.slice B m d] 26)) 26 #[.slice none 0 0]
    rw [World.size_alloc, World.size_alloc] at h
    rw [← hW]; exact h
  have HVA := hid (ValidMulti_any A n c a W hn hla ((ha.below hbW (Nat.le_refl _)).more hbW.size))
  have HVB := hid (fun (w1 : World) (b1 : Below w.heap.size w w1) => ValidMulti_any B m d b w1 hm hlb ((hb.below b1 (Nat.le_refl _)).more b1.size))
  have HBW := hid hbW
  have HXA := hid hXA
  have HXB := hid hXB
  have HXR := hid hXR
  rw [← hW] at HVA HBW HXA HXB HXR
  clear hla hlb ha hb hbW hXA hXB hXR hW W
  go_enter Try.func40, Try.ntmps40
  go_wp2_with fail
  refine HVA.out.mono ?_
  rintro e w1 ⟨rfl, hb1⟩
  have hB1 := bchain HBW.out hb1
  have X1 := hid (HXA.out.below hb1 HXA.out.lt)
  have Y1 := hid (HXB.out.below hb1 HXB.out.lt)
  have R1 := hid (HXR.out.below hb1 HXR.out.lt)
  clear HVA HXA HXB HXR hb1 HBW
  cases hpa : mOk a with
  | false =>
    have HZ := hid (rAdd_1 (b := b) (Or.inl hpa))
    have r0 : w1.cell? ⟨w.heap.size + 1 + 1, 0, none⟩ = some (.slice none 0 0) := R1.out.cell 0
    have s0 := R1.out.frozen 0
    clear hpa
    go_wp2
    refine bodyPost_ret (v := .tuple #[.agg #[.slice none 0 0], .int .i64 1]) ?_ rfl ?_
    · simp (maxDischargeDepth := 8) [results, Try.results40, go_sem, *]
    rw [HZ.out]
    exact ⟨AmRes.no _ _ _, (by repeat' (first | exact Below.refl _ _ | (with_reducible assumption) | (with_reducible refine Below.alloc ?_ ?_ _) | (with_reducible refine Below.setCell ?_ ?_ _) | (with_reducible refine Below.drew ?_) | (with_reducible refine below_drewN ?_ _) | (refine Below.trans ?_ (Below.mono (by assumption) ?_)) | (with_reducible exact Nat.le_refl _) | (with_reducible assumption) | (exact Below.size (by assumption)) | omega | go_size | (simp at *; omega)))⟩
  | true =>
    have HPA := hid hpa
    clear hpa
    have y1c : w1.cell? ⟨w.heap.size + 1, 0, none⟩ = some (.slice B m d) := Y1.out.cell 0
    go_wp2_with fail
    refine (HVB.out w1 hB1).mono ?_
    rintro e w2 ⟨rfl, hb2⟩
    have hB2 := bchain hB1 hb2
    have X2 := hid (X1.out.below hb2 X1.out.lt)
    have Y2 := hid (Y1.out.below hb2 Y1.out.lt)
    have R2 := hid (R1.out.below hb2 R1.out.lt)
    have r0 : w2.cell? ⟨w.heap.size + 1 + 1, 0, none⟩ = some (.slice none 0 0) := R2.out.cell 0
    have s0 := R2.out.frozen 0
    clear HVB X1 Y1 R1 hb2 hB1 y1c
    cases hpb : mOk b with
    | false =>
      have HZ := hid (rAdd_1 (a := a) (Or.inr hpb))
      clear hpb
      go_wp2
      refine bodyPost_ret (v := .tuple #[.agg #[.slice none 0 0], .int .i64 1]) ?_ rfl ?_
      · simp (maxDischargeDepth := 8) [results, Try.results40, go_sem, *]
      rw [HZ.out]
      exact ⟨AmRes.no _ _ _, (by repeat' (first | exact Below.refl _ _ | (with_reducible assumption) | (with_reducible refine Below.alloc ?_ ?_ _) | (with_reducible refine Below.setCell ?_ ?_ _) | (with_reducible refine Below.drew ?_) | (with_reducible refine below_drewN ?_ _) | (refine Below.trans ?_ (Below.mono (by assumption) ?_)) | (with_reducible exact Nat.le_refl _) | (with_reducible assumption) | (exact Below.size (by assumption)) | omega | go_size | (simp at *; omega)))⟩
    | true =>
      have HPB := hid hpb
      have x0 : w2.cell? ⟨w.heap.size, 0, none⟩ = some (.slice A n c) := X2.out.cell 0
      have y0 : w2.cell? ⟨w.heap.size + 1, 0, none⟩ = some (.slice B m d) := Y2.out.cell 0
      clear hpb
      by_cases hnm : n = m
      · subst hnm
        obtain ⟨⟨hn1, hn12⟩, hma⟩ := msSh_iff.1 (mOk_iff.1 HPA.out).1
        have hmb := (msSh_iff.1 (mOk_iff.1 HPB.out).1).2
        rw [HLA.out] at hn1 hn12
        have HLN : Hid (a.length = b.length) := by show _ = _; rw [HLA.out, HLB.out]
        have HZ := hid (rAdd_z HPA.out HPB.out HLN.out)
        have HQL : Hid ((addR a b).length = n) := by show _ = _; rw [addR_len HLN.out, HLA.out]
        have HPA0 := HPA
        have HPB0 := HPB
        have HMA := hid hma
        have HMB := hid hmb
        have HB2 := hid hB2
        have hst : Hid ((addR a b).take 0 = []) := List.take_zero
        have hGx : w.heap.size + 1 + 1 < w2.heap.size := R2.out.lt
        have hGy : w.heap.size + 1 < w2.heap.size := Y2.out.lt
        have hGz : w.heap.size < w2.heap.size := X2.out.lt
        clear hma hmb hB2 HPA HPB
        go_wp2
        go_loopw [30] (fun i wr => Hid (∃ (k : Nat) (A3 : Option Addr) (c3 : Nat), k ≤ n ∧ i = .int .i64 k ∧ Bx wr w2.heap.size 26 #[.slice A3 k c3] ∧ Grid wr (w2.heap.size + 1) wr.heap.size (.slice A3 k c3) ((addR a b).take k) ∧ Hid (∀ r ∈ (addR a b).take k, r.length ≤ 4) ∧ Below w2.heap.size w2 wr)) (fun i _ => n - (intOf i).toNat)
        case atStart => exact hid ⟨0, none, 0, Nat.zero_le _, rfl, Bx.new _ _ _, by rw [hst.out]; exact Grid.nil _ _ _, by rw [hst.out]; exact hid (by simp), (by repeat' (first | exact Below.refl _ _ | (with_reducible assumption) | (with_reducible refine Below.alloc ?_ ?_ _) | (with_reducible refine Below.setCell ?_ ?_ _) | (with_reducible refine Below.drew ?_) | (with_reducible refine below_drewN ?_ _) | (refine Below.trans ?_ (Below.mono (by assumption) ?_)) | (with_reducible exact Nat.le_refl _) | (with_reducible assumption) | (exact Below.size (by assumption)) | omega | go_size | (simp at *; omega)))⟩
        case round =>
          clear r0 s0 x0 y0 hst
          obtain ⟨k, A3, c3, hk, rfl, hXG, hG, h4, hb0⟩ := hrel.out
          clear hrel
          have hz0 := hb0.size
          have hzG := hXG.lt
          have hBr := bchain HB2.out hb0
          have XA := hid (X2.out.below hb0 X2.out.lt)
          have XB := hid (Y2.out.below hb0 Y2.out.lt)
          have XR := hid (R2.out.below hb0 R2.out.lt)
          have xa : wr.cell? ⟨w.heap.size, 0, none⟩ = some (.slice A n c) := XA.out.cell 0
          have xb : wr.cell? ⟨w.heap.size + 1, 0, none⟩ = some (.slice B n d) := XB.out.cell 0
          have xr : wr.cell? ⟨w.heap.size + 1 + 1, 0, none⟩ = some (.slice none 0 0) := XR.out.cell 0
          have fr := XR.out.frozen 0
          have xg : wr.cell? ⟨w2.heap.size, 0, none⟩ = some (.slice A3 k c3) := hXG.cell 0
          have fg := hXG.frozen 0
          by_cases hlt : k < n
          · obtain ⟨ba, oa, x, Ax, cx, rfl, hba, hx, hxd, hxc, hxr⟩ := HRA.out.at_ hlt
            obtain ⟨bb, ob, y, Ay, cy, rfl, hbb, hy, hyd, hyc, hyr⟩ := HRB.out.at_ hlt
            have hmx := (mstOk_iff.1 (HMA.out x (List.mem_of_getElem? hx))).1
            have hmy := (mstOk_iff.1 (HMB.out y (List.mem_of_getElem? hy))).1
            obtain ⟨l, hl⟩ : ∃ l, x ++ y = l := ⟨_, rfl⟩
            obtain ⟨L, hL⟩ : ∃ L, l.length = L := ⟨_, rfl⟩
            have hst := addR_step hx hy
            rw [hl] at hst
            have HST := hid hst
            have HXY := hid hl
            have HLl := hid hL
            have hL8 : L ≤ 8 := by rw [← hL, ← hl, List.length_append]; omega
            clear hst hl hL
            have HCA := hid (fun (w1 : World) (b1 : Below wr.heap.size wr w1) => show w1.cell? ⟨ba, oa + k, none⟩ = some (.slice Ax x.length cx) from ((bchain hBr b1).cell (p := ⟨ba, oa + k, none⟩) hba).trans hxc)
            have HCB := hid (fun (w1 : World) (b1 : Below wr.heap.size wr w1) => show w1.cell? ⟨bb, ob + k, none⟩ = some (.slice Ay y.length cy) from ((bchain hBr b1).cell (p := ⟨bb, ob + k, none⟩) hbb).trans hyc)
            obtain ⟨pxb, pxo, rfl, _, _⟩ := hxr.2 (by omega)
            obtain ⟨pyb, pyo, rfl, _, _⟩ := hyr.2 (by omega)
            have HL0 : Hid (∀ t ∈ l, 0 ≤ t) := fun t ht => by
              rw [← HXY.out] at ht
              rcases List.mem_append.1 ht with h | h
              · exact (mstOk_bd (HMA.out x (List.mem_of_getElem? hx)) h).1
              · exact (mstOk_bd (HMB.out y (List.mem_of_getElem? hy)) h).1
            obtain ⟨Z, hZ⟩ : ∃ Z, rSortZ l = Z := ⟨_, rfl⟩
            have HZ9 := hid hZ
            clear hZ
            have HBAD := hid (fun (h : ¬ Z.length ≤ 4) => addR_bad hx hy (by rw [HXY.out, HZ9.out]; exact h))
            have HC9 := hid (fun (w' : World) (b1 : Below wr.heap.size wr w') => (copyNumbers_any (some ⟨pxb, pxo, none⟩) x.length cx x w' (by omega) (fun h => by cases h) ((hxr.below (bchain hBr b1) (Nat.le_refl _)).more (bchain hBr b1).size)).mono (fun e w'' h => show ∃ A c, e = .returned (.slice A x.length c) ∧ w''.ownsRow wr.heap.size 2 1 (.slice A x.length c) x.length (ints x) ∧ Below w'.heap.size w' w'' by
              obtain ⟨v, h1, h2, h3⟩ := h
              obtain ⟨A, c, rfl⟩ := own_form h2
              exact ⟨A, c, h1, own_more h2 b1.size, h3⟩))
            have HRY := hid (fun (w1 : World) (b1 : Below wr.heap.size wr w1) => show Rd w1 w1.heap.size 1 (some ⟨pyb, pyo, none⟩) y.length (ints y) from (hyr.below (bchain hBr b1) (Nat.le_refl _)).more (bchain hBr b1).size)
            have HPX := hid (fun (w1 : World) (b1 : Below wr.heap.size wr w1) => (show w1.cell? ⟨w.heap.size, 0, none⟩ = some (.slice (some ⟨ba, oa, none⟩) n c) from (XA.out.below b1 XA.out.lt).cell 0))
            have HPY := hid (fun (w1 : World) (b1 : Below wr.heap.size wr w1) => (show w1.cell? ⟨w.heap.size + 1, 0, none⟩ = some (.slice (some ⟨bb, ob, none⟩) n d) from (XB.out.below b1 XB.out.lt).cell 0))
            have HPG := hid (fun (w1 : World) (b1 : Below (w2.heap.size + 1) wr w1) => (show w1.cell? ⟨w2.heap.size, 0, none⟩ = some (.slice A3 k c3) ∧ w1.frozen? ⟨w2.heap.size, 0, none⟩ = false from ⟨(hXG.below b1 (by omega)).cell 0, (hXG.below b1 (by omega)).frozen 0⟩))
            have HTL : Hid (((addR a b).take k).length = k) := by show _ = _; rw [List.length_take, HQL.out]; omega
            have HL8 : Hid (((addR a b).take k ++ [rSortZ l]).length = k + 1) := by show _ = _; rw [List.length_append, HTL.out]; rfl
            have HBr := hid hBr
            have HXG := hid hXG
            have HG := hid hG
            have hca := HCA.out wr (Below.refl _ _)
            have hcb := HCB.out wr (Below.refl _ _)
            have hbaw : ba < wr.heap.size := World.block_lt_of_cell? wr (a := ⟨ba, oa + k, none⟩) hca
            have hbbw : bb < wr.heap.size := World.block_lt_of_cell? wr (a := ⟨bb, ob + k, none⟩) hcb
            clear hx hy hxd hyd hxc hyc hxr hyr hba hbb hBr hXG hG
            go_wp2
            go_region_law (first
              | (refine step_app_ints (base := wr.heap.size) (xs := x) (by first | exact ho5 | exact own_drewA ho5) _ _ _ y (HRY.out _ (by repeat' (first | (with_reducible exact hB5) | (with_reducible refine Below.drew ?_) | (with_reducible refine below_drewN ?_ _)))) (fun h => by cases h) Try.underlying43 inf_int rfl rfl _ _ rfl rfl rfl (by omega) (by first | exact hz5 | (simp; omega)) ?_; intro v6 w6 ho6 hb6 hg6; have hb6w : Below wr.heap.size wr w6 := Below.trans (by repeat' (first | (with_reducible exact hB5) | (with_reducible refine Below.drew ?_) | (with_reducible refine below_drewN ?_ _))) hb6; rw [HXY.out, HLl.out] at ho6; obtain ⟨A6, c6, rfl⟩ := own_form ho6; have HS6 := hid (fun (w' : World) (b1 : Below w6.heap.size w6 w') => sortBeat_any A6 L c6 l w' (by omega) HL0.out (((Rd.of_own ho6).below b1 (Nat.le_refl _)).more b1.size)); rw [HZ9.out] at HS6; clear hb6 hg6 hb5 ho5 hB5 hz5 hca5 hcb5 xa5 xb5)
              | (go_simp; go_wp2_with (first
                | (go_at_call 109; refine (HC9.out _ ?_).mono ?_; (exact (by repeat' (first | exact Below.refl _ _ | (with_reducible assumption) | (with_reducible refine Below.alloc ?_ ?_ _) | (with_reducible refine Below.setCell ?_ ?_ _) | (with_reducible refine Below.drew ?_) | (with_reducible refine below_drewN ?_ _) | (refine Below.trans ?_ (Below.mono (by assumption) ?_)) | (with_reducible exact Nat.le_refl _) | (with_reducible assumption) | (exact Below.size (by assumption)) | omega | go_size | (simp at *; omega)))); rintro e w5 ⟨A5, c5, rfl, ho5, hb5⟩; have hB5 : Below wr.heap.size wr w5 := bchain (show Below wr.heap.size wr _ by repeat' (first | (with_reducible exact Below.refl _ _) | (with_reducible refine Below.drew ?_) | (with_reducible refine below_drewN ?_ _))) hb5; have hca5 := HCA.out w5 hB5; have hcb5 := HCB.out w5 hB5; have hz5 := hB5.size; have xa5 := HPX.out w5 hB5; have xb5 := HPY.out w5 hB5)
                | (go_at_call 108; with_reducible refine (HS6.out _ ?_).mono ?_; (exact (by repeat' (first | exact Below.refl _ _ | (with_reducible assumption) | (with_reducible refine Below.alloc ?_ ?_ _) | (with_reducible refine Below.setCell ?_ ?_ _) | (with_reducible refine Below.drew ?_) | (with_reducible refine below_drewN ?_ _) | (refine Below.trans ?_ (Below.mono (by assumption) ?_)) | (with_reducible exact Nat.le_refl _) | (with_reducible assumption) | (exact Below.size (by assumption)) | omega | go_size | (simp at *; omega)))); rintro e w7 ⟨⟨A7, c7, rfl, ho7⟩, hb7⟩; have hb76 := bchain (show Below w6.heap.size w6 _ by repeat' (first | (with_reducible exact Below.refl _ _) | (with_reducible refine Below.drew ?_) | (with_reducible refine below_drewN ?_ _))) hb7; replace ho7 := own_more ho7 (show w6.heap.size ≤ _ by first | exact Nat.le_refl _ | (simp; done) | (simp; omega)); clear hb7))))
            all_goals
              have hST := HST.out
              have hBAD := HBAD.out
              rw [HZ9.out] at hST
              have hb7w : Below wr.heap.size wr w7 := bchain hb6w hb76
              have hz7 := hb7w.size
              have hz6 := hb6w.size
              obtain ⟨xg7, fg7⟩ := HPG.out w7 (Below.mono hb7w (by omega))
              have hB7 := bchain HBr.out hb7w
              have hG7 := Grid.fitv (HG.out.below hb7w) HTL.out
              have hum7 := own_ge ho7 (show wr.heap.size ≤ _ by first | exact hz6 | (simp; omega))
              replace ho7 := own_more ho7 (show w2.heap.size + 1 ≤ _ by first | omega | (simp; omega))
              have HX7 := hid (HXG.out.below (Below.mono hb7w (by omega)) (Nat.lt_succ_self _))
              have HR7 := hid (XR.out.below hb7w XR.out.lt)
              have xr7 := bx_q0 HR7.out
              have fr7 := HR7.out.frozen 0
              have HB7 := hid hB7
              have HBW := hid hb7w
              have h4W := h4
              clear h4
              by_cases h4z : Z.length ≤ 4
              · have HL8 : Hid (((addR a b).take k ++ [Z]).length = k + 1) := by show _ = _; rw [List.length_append, HTL.out]; rfl
                have H4 : Hid (∀ r ∈ (addR a b).take (k + 1), r.length ≤ 4) := by
                  show ∀ r ∈ _, _
                  rw [hST]
                  intro r hr
                  rcases List.mem_append.1 hr with h | h
                  · exact h4W.out r h
                  · simp at h; rw [h]; exact h4z
                have HST2 := hid hST
                have h4I : ¬ (4 : Int) < (Z.length : Int) := by omega
                clear hST hBAD HBAD h4W hb7w hB7 hb6w hb76 xr7 fr7 HZ9
                go_wp2_with (at_builtin; refine push_row hG7 ho7 hum7 hz7 43 Try.underlying24 inf_row rfl _ _ rfl (by rw [HTL.out]; rfl) rfl (by rw [HTL.out]; omega) (by omega) ?_; intro v8 w8 hG8 hb8 hg8; obtain ⟨A8, c8, rfl⟩ := Grid.formN hG8 HL8.out; have hb8w : Below (w2.heap.size + 1) wr w8 := Below.trans (Below.mono HBW.out (by omega)) hb8; obtain ⟨xg8, fg8⟩ := HPG.out w8 hb8w; have hzg8 : w2.heap.size < w8.heap.size := World.block_lt_of_cell? w8 (a := ⟨w2.heap.size, 0, none⟩) xg8; replace hG8 := hG8.up (show w7.heap.size ≤ w8.heap.size from hb8.size))
                rw [← HST2.out] at hG8
                have HG8 := hid (hG8.setk (p := ⟨w2.heap.size, 0, none⟩) (by show w2.heap.size < _; omega) (.slice A8 (k + 1) c8)).size
                have HX8 := hid ((HXG.out.below hb8w (by omega)).set_ 0 (.slice A8 (k + 1) c8))
                have HB8 : Hid (Below w2.heap.size w2 w8) := hb0.trans (Below.mono hb8w (by omega))
                clear hG8 hb8w HST2 HL8 HS6 HC9 HRY HPX HPY HPG HCA HCB
                go_roundw
                case rel => exact hid ⟨k + 1, A8, c8, by omega, by go_num, HX8.out, HG8.out, H4, (by repeat' (first | exact Below.refl _ _ | (with_reducible assumption) | (with_reducible refine Below.alloc ?_ ?_ _) | (with_reducible refine Below.setCell ?_ ?_ _) | (with_reducible refine Below.drew ?_) | (with_reducible refine below_drewN ?_ _) | (refine Below.trans ?_ (Below.mono (by assumption) ?_)) | (with_reducible exact Nat.le_refl _) | (with_reducible assumption) | (exact Below.size (by assumption)) | omega | go_size | (simp at *; omega)))⟩
                case measure => simp [intOf]; omega
              · have hbad := hBAD h4z
                have HB := hid hbad
                have h4I : (4 : Int) < (Z.length : Int) := by omega
                clear hbad hST hBAD HBAD h4W hb7w hB7 hb6w hb76 HZ9 hG7 hum7 ho7 HS6 HC9 HRY HPX HPY HPG HCA HCB
                go_wp2
                refine bodyPost_ret (v := .tuple #[.agg #[.slice none 0 0], .int .i64 5]) ?_ rfl ?_
                · simp (maxDischargeDepth := 8) [results, Try.results40, go_sem, *]
                rw [HZ.out, HB.out]
                have HBz := HB7.out
                exact ⟨AmRes.no _ _ _, (by repeat' (first | exact Below.refl _ _ | (with_reducible assumption) | (with_reducible refine Below.alloc ?_ ?_ _) | (with_reducible refine Below.setCell ?_ ?_ _) | (with_reducible refine Below.drew ?_) | (with_reducible refine below_drewN ?_ _) | (refine Below.trans ?_ (Below.mono (by assumption) ?_)) | (with_reducible exact Nat.le_refl _) | (with_reducible assumption) | (exact Below.size (by assumption)) | omega | go_size | (simp at *; omega)))⟩
          · have hkn : k = n := by omega
            have hE : (addR a b).take k = addR a b := List.take_of_length_le (by rw [HQL.out]; omega)
            rw [hE] at hG h4
            have hok : mOk (addR a b) = true := addR_ok HPA0.out HPB0.out HLN.out h4.out
            have HOK := hid hok
            have hG2 := hG.setk (p := ⟨w.heap.size + 1 + 1, 0, none⟩) (by show w.heap.size + 1 + 1 < _; omega) (.slice A3 k c3)
            have HG5 := hid (hG2.more (show w.heap.size ≤ w2.heap.size + 1 by omega)).size
            subst hkn
            clear hok hG hG2 hE h4
            go_wp2
            refine bodyPost_ret (v := .tuple #[.agg #[.slice A3 k c3], .int .i64 0]) ?_ rfl ?_
            · simp (maxDischargeDepth := 8) [results, Try.results40, go_sem, *]
            rw [HZ.out, HOK.out]
            exact ⟨AmRes.mk HQL.out HG5.out, (by repeat' (first | exact Below.refl _ _ | (with_reducible assumption) | (with_reducible refine Below.alloc ?_ ?_ _) | (with_reducible refine Below.setCell ?_ ?_ _) | (with_reducible refine Below.drew ?_) | (with_reducible refine below_drewN ?_ _) | (refine Below.trans ?_ (Below.mono (by assumption) ?_)) | (with_reducible exact Nat.le_refl _) | (with_reducible assumption) | (exact Below.size (by assumption)) | omega | go_size | (simp at *; omega)))⟩
      · have HZ := hid (rAdd_6 HPA.out HPB.out (by rw [HLA.out, HLB.out]; exact hnm))
        have hne : ((n : Int) != (m : Int)) = true := by simp; omega
        have hne2 : ((n : Int) == (m : Int)) = false := by simp; omega
        go_wp2
        refine bodyPost_ret (v := .tuple #[.agg #[.slice none 0 0], .int .i64 6]) ?_ rfl ?_
        · simp (maxDischargeDepth := 8) [results, Try.results40, go_sem, *]
        rw [HZ.out]
        exact ⟨AmRes.no _ _ _, (by repeat' (first | exact Below.refl _ _ | (with_reducible assumption) | (with_reducible refine Below.alloc ?_ ?_ _) | (with_reducible refine Below.setCell ?_ ?_ _) | (with_reducible refine Below.drew ?_) | (with_reducible refine below_drewN ?_ _) | (refine Below.trans ?_ (Below.mono (by assumption) ?_)) | (with_reducible exact Nat.le_refl _) | (with_reducible assumption) | (exact Below.size (by assumption)) | omega | go_size | (simp at *; omega)))⟩
end Go.Proofs.Ytlbhfjbbkkkldaa
