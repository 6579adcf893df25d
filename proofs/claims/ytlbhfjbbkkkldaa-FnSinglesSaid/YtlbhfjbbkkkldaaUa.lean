/- Several texts in one: Sy, Sz, Sv, Rd, Sa, Sb, Sf, Sg, Rj, Sh, Si, Se, Sj. -/
import Derived.Test.YtlbhfjbbkkkldaaKit
import Derived.Test.YtlbhfjbbkkkldaaProg
import Derived.Shelf.GgSortFunc.Small
import Derived.Shelf.GgSortFunc.Tiny
import Derived.Test.YtlbhfjbbkkkldaaMs
import Derived.Test.YtlbhfjbbkkkldaaAp
import Derived.Test.YtlbhfjbbkkkldaaDw
import Derived.Sort.LotA
import Derived.Deep.QuietTactic
import Derived.Test.YtlbhfjbbkkkldaaMa
import Derived.Test.YtlbhfjbbkkkldaaNk
import Derived.Test.YtlbhfjbbkkkldaaMd
import Derived.Test.YtlbhfjbbkkkldaaMo
import Derived.Test.YtlbhfjbbkkkldaaMg
import Derived.Test.YtlbhfjbbkkkldaaO
/- The shelf's laying of sort.Slice at this program, in plain words (printed by gen_sortlay.py). -/
namespace Go.Proofs.Ytlbhfjbbkkkldaa
open Go.Shelf
def sl6_ren : Go.Shelf.Ren := ⟨fun | 6 => 153 | 10 => 169 | 11 => 170 | 12 => 171 | 13 => 172 | 14 => 173 | 24 => 190 | 25 => 191 | 26 => 192 | 27 => 193 | 28 => 194 | 29 => 195 | 30 => 196 | 31 => 197 | 32 => 198 | 33 => 199 | 34 => 211 | 35 => 212 | 36 => 213 | 37 => 214 | 38 => 215 | 39 => 218 | n => n, fun | 20 => 20 | 26 => 140 | 35 => 148 | 0 => 0 | 37 => 150 | 3 => 3 | 41 => 144 | 44 => 156 | 49 => 164 | 51 => 120 | 4 => 4 | 54 => 168 | 53 => 167 | 58 => 172 | 5 => 5 | 9 => 9 | 60 => 184 | 64 => 188 | 66 => 191 | 67 => 114 | 17 => 17 | 32 => 145 | 33 => 146 | 82 => 207 | 12 => 12 | 75 => 200 | 76 => 201 | 77 => 202 | 78 => 203 | 79 => 204 | 80 => 205 | n => n, fun | n => n⟩
theorem sl6 : Go.Proofs.LaysGg.n6 Try.prog sl6_ren := {
  mixed := by kernel_rfl
  f6 := Try.func153.trans (congrArg some (by kernel_rfl))
  f10 := Try.func169.trans (congrArg some (by kernel_rfl))
  f11 := Try.func170.trans (congrArg some (by kernel_rfl))
  f12 := Try.func171.trans (congrArg some (by kernel_rfl))
  f13 := Try.func172.trans (congrArg some (by kernel_rfl))
  f14 := Try.func173.trans (congrArg some (by kernel_rfl))
  f24 := Try.func190.trans (congrArg some (by kernel_rfl))
  f25 := Try.func191.trans (congrArg some (by kernel_rfl))
  f26 := Try.func192.trans (congrArg some (by kernel_rfl))
  f27 := Try.func193.trans (congrArg some (by kernel_rfl))
  f28 := Try.func194.trans (congrArg some (by kernel_rfl))
  f29 := Try.func195.trans (congrArg some (by kernel_rfl))
  f30 := Try.func196.trans (congrArg some (by kernel_rfl))
  f31 := Try.func197.trans (congrArg some (by kernel_rfl))
  f32 := Try.func198.trans (congrArg some (by kernel_rfl))
  f33 := Try.func199.trans (congrArg some (by kernel_rfl))
  f34 := Try.func211.trans (congrArg some (by kernel_rfl))
  f35 := Try.func212.trans (congrArg some (by kernel_rfl))
  f36 := Try.func213.trans (congrArg some (by kernel_rfl))
  f37 := Try.func214.trans (congrArg some (by kernel_rfl))
  f38 := Try.func215.trans (congrArg some (by kernel_rfl))
  f39 := Try.func218.trans (congrArg some (by kernel_rfl))
  t0 := Try.underlying0
  a0 := Try.isAgg0
  z0 := Try.sizeOf0
  v0 := Try.zeroValue0
  i0 := by kernel_rfl
  t3 := Try.underlying3
  a3 := Try.isAgg3
  z3 := Try.sizeOf3
  v3 := Try.zeroValue3
  i3 := by kernel_rfl
  t4 := Try.underlying4
  a4 := Try.isAgg4
  z4 := Try.sizeOf4
  v4 := Try.zeroValue4
  i4 := by kernel_rfl
  t5 := Try.underlying5
  a5 := Try.isAgg5
  z5 := Try.sizeOf5
  v5 := Try.zeroValue5
  i5 := by kernel_rfl
  t9 := Try.underlying9
  a9 := Try.isAgg9
  z9 := Try.sizeOf9
  v9 := Try.zeroValue9
  i9 := by kernel_rfl
  t12 := Try.underlying12
  a12 := Try.isAgg12
  z12 := Try.sizeOf12
  v12 := Try.zeroValue12
  i12 := by kernel_rfl
  t17 := Try.underlying17
  a17 := Try.isAgg17
  z17 := Try.sizeOf17
  v17 := Try.zeroValue17
  i17 := by kernel_rfl
  t20 := Try.underlying20
  a20 := Try.isAgg20
  z20 := Try.sizeOf20
  v20 := Try.zeroValue20
  i20 := by kernel_rfl
  t26 := Try.underlying140
  a26 := Try.isAgg140
  z26 := Try.sizeOf140
  v26 := Try.zeroValue140
  i26 := by kernel_rfl
  t32 := Try.underlying145
  a32 := Try.isAgg145
  z32 := Try.sizeOf145
  v32 := Try.zeroValue145
  i32 := by kernel_rfl
  t33 := Try.underlying146
  a33 := Try.isAgg146
  z33 := Try.sizeOf146
  v33 := Try.zeroValue146
  i33 := by kernel_rfl
  t35 := Try.underlying148
  a35 := Try.isAgg148
  z35 := Try.sizeOf148
  v35 := Try.zeroValue148
  i35 := by kernel_rfl
  t37 := Try.underlying150
  a37 := Try.isAgg150
  z37 := Try.sizeOf150
  v37 := Try.zeroValue150
  i37 := by kernel_rfl
  t41 := Try.underlying144
  a41 := Try.isAgg144
  z41 := Try.sizeOf144
  v41 := Try.zeroValue144
  i41 := by kernel_rfl
  t44 := Try.underlying156
  a44 := Try.isAgg156
  z44 := Try.sizeOf156
  v44 := Try.zeroValue156
  i44 := by kernel_rfl
  t49 := Try.underlying164
  a49 := Try.isAgg164
  z49 := Try.sizeOf164
  v49 := Try.zeroValue164
  i49 := by kernel_rfl
  t51 := Try.underlying120
  a51 := Try.isAgg120
  z51 := Try.sizeOf120
  v51 := Try.zeroValue120
  i51 := by kernel_rfl
  t53 := Try.underlying167
  a53 := Try.isAgg167
  z53 := Try.sizeOf167
  v53 := Try.zeroValue167
  i53 := by kernel_rfl
  t54 := Try.underlying168
  a54 := Try.isAgg168
  z54 := Try.sizeOf168
  v54 := Try.zeroValue168
  i54 := by kernel_rfl
  t58 := Try.underlying172
  a58 := Try.isAgg172
  z58 := Try.sizeOf172
  v58 := Try.zeroValue172
  i58 := by kernel_rfl
  t60 := Try.underlying184
  a60 := Try.isAgg184
  z60 := Try.sizeOf184
  v60 := Try.zeroValue184
  i60 := by kernel_rfl
  t64 := Try.underlying188
  a64 := Try.isAgg188
  z64 := Try.sizeOf188
  v64 := Try.zeroValue188
  i64 := by kernel_rfl
  t66 := Try.underlying191
  a66 := Try.isAgg191
  z66 := Try.sizeOf191
  v66 := Try.zeroValue191
  i66 := by kernel_rfl
  t67 := Try.underlying114
  a67 := Try.isAgg114
  z67 := Try.sizeOf114
  v67 := Try.zeroValue114
  i67 := by kernel_rfl
  t75 := Try.underlying200
  a75 := Try.isAgg200
  z75 := Try.sizeOf200
  v75 := Try.zeroValue200
  i75 := by kernel_rfl
  t76 := Try.underlying201
  a76 := Try.isAgg201
  z76 := Try.sizeOf201
  v76 := Try.zeroValue201
  i76 := by kernel_rfl
  t77 := Try.underlying202
  a77 := Try.isAgg202
  z77 := Try.sizeOf202
  v77 := Try.zeroValue202
  i77 := by kernel_rfl
  t78 := Try.underlying203
  a78 := Try.isAgg203
  z78 := Try.sizeOf203
  v78 := Try.zeroValue203
  i78 := by kernel_rfl
  t79 := Try.underlying204
  a79 := Try.isAgg204
  z79 := Try.sizeOf204
  v79 := Try.zeroValue204
  i79 := by kernel_rfl
  t80 := Try.underlying205
  a80 := Try.isAgg205
  z80 := Try.sizeOf205
  v80 := Try.zeroValue205
  i80 := by kernel_rfl
  t82 := Try.underlying207
  a82 := Try.isAgg207
  z82 := Try.sizeOf207
  v82 := Try.zeroValue207
  i82 := by kernel_rfl }
end Go.Proofs.Ytlbhfjbbkkkldaa

/- Contract of sort.Slice at a row of integers that is sorted in falling order (the shelf's contract). -/
namespace Go.Proofs.Ytlbhfjbbkkkldaa
open Go.RowKit
set_option linter.unusedVariables false

theorem bx_q0 {w : World} {g : Nat} {t : TypeId} {v : Value} (h : Bx w g t #[v]) : w.cell? ⟨g, 0, none⟩ = some v := h.cell 0
theorem own_keepb {w : World} {base n g : Nat} {v u : Value} {xs : List Value} {t : TypeId} {cs : Array Value} (h : w.ownsRow base 2 1 v n xs) (hx : Bx w g t cs) (hne : 2 ≠ t) : (w.setCell ⟨g, 0, none⟩ u).ownsRow base 2 1 v n xs := by
  have hb := own_bne h hx hne
  refine ⟨h.1, ?_⟩
  rcases h.2 with h3 | ⟨g', cap, cur, h3, hge, hh, r⟩
  · exact Or.inl h3
  · exact Or.inr ⟨g', cap, cur, h3, hge, by rw [Below.heap_setCell _ _ _ _ (by intro e; apply hb; rw [h3]; exact congrArg some e)]; exact hh, r⟩
def gtI (a b : Int) : Bool := decide (b < a)
theorem gt_swo : Sort.SWO gtI where
  irrefl x := by simp [gtI]
  trans x y z h1 h2 := by simp only [gtI, decide_eq_true_eq] at *; omega
  ntrans x y z h1 h2 := by simp only [gtI, decide_eq_false_iff_not] at *; omega
theorem fall_eq (d d' : Array Int) (hp : Sort.PermIn 0 d.size d d') (hs : Sort.SortedIn gtI 0 d.size d') : d'.toList = d.toList.mergeSort geB := by
  have h := Sort.sorted_unique_holds (lt := gtI) gt_swo (fun x y h1 h2 => by simp only [gtI, decide_eq_false_iff_not] at h1 h2; omega) d d' hp hs
  have e : (fun x y : Int => !gtI y x) = geB := by
    funext x y
    simp only [gtI, geB]
    by_cases h : y ≤ x
    · have h2 : ¬ x < y := by omega
      simp [h, h2]
    · have h2 : x < y := by omega
      simp [h, h2]
  rw [e] at h
  exact h
section
variable {w : World} {g off : Nat} {d d' : Array Int} {n : Nat} {os : Array Obj}
theorem sorted_size : w.heap.size ≤ (Sort.grow (Sort.putRow (Value.int .i64) (Sort.ahead w n) g off d') os).heap.size := by
  rw [Sort.size_grow]
  unfold Sort.putRow Sort.mapBlock Sort.ahead
  simp
theorem sorted_block {k : Nat} (hk : k < w.heap.size) (hg : k ≠ g) : (Sort.grow (Sort.putRow (Value.int .i64) (Sort.ahead w n) g off d') os).heap[k]? = w.heap[k]? := by
  rw [Sort.heap_grow_old _ _ (by unfold Sort.putRow Sort.mapBlock Sort.ahead; simpa using hk)]
  unfold Sort.putRow Sort.mapBlock Sort.ahead
  simp only [Array.getElem?_modify]
  rw [if_neg (fun e => hg e.symm)]
theorem sorted_row {cur : Array Value} {e : TypeId} {fz : Nat × Nat} (hh : w.heap[g]? = some (.cells cur e fz)) : (Sort.grow (Sort.putRow (Value.int .i64) (Sort.ahead w n) g off d') os).heap[g]? = some (.cells (Sort.putCells (Value.int .i64) off d' cur) e fz) := by
  have hg : g < w.heap.size := (Array.getElem?_eq_some_iff.1 hh).1
  rw [Sort.heap_grow_old _ _ (by unfold Sort.putRow Sort.mapBlock Sort.ahead; simpa using hg)]
  unfold Sort.putRow Sort.mapBlock Sort.ahead
  simp only [Array.getElem?_modify, if_true]
  show (w.heap[g]?).map _ = _
  rw [hh]; rfl
theorem sorted_below {B : Nat} (hB : B ≤ g) (hBw : B ≤ w.heap.size) : Below B w (Sort.grow (Sort.putRow (Value.int .i64) (Sort.ahead w n) g off d') os) :=
  ⟨rfl, rfl, rfl, sorted_size, fun k hk => sorted_block (by omega) (by omega)⟩
theorem sorted_own {base m c : Nat} {xs ys : List Int} (h : w.ownsRow base 2 1 (.slice (some ⟨g, 0, none⟩) m c) m (ints xs)) (hy : ys.length = m) :
    (Sort.grow (Sort.putRow (Value.int .i64) (Sort.ahead w n) g 0 ys.toArray) os).ownsRow base 2 1 (.slice (some ⟨g, 0, none⟩) m c) m (ints ys) := by
  refine ⟨by simp [ints, hy], Or.inr ?_⟩
  rcases h.2 with ⟨h3, _⟩ | ⟨g', cap, cur, h3, hge, hh, hnc, hcm, hcs, ht⟩
  · cases h3
  · injection h3 with h4 h5 h6
    injection h4 with h4
    injection h4 with h4 _ _
    subst h4 h6
    refine ⟨g, c, Sort.putCells (Value.int .i64) 0 ys.toArray cur, rfl, hge, sorted_row hh, hnc, hcm, by rw [← hcs]; simp [Sort.putCells], ?_⟩
    have hcl : m ≤ cur.size := by omega
    apply List.ext_getElem?
    intro i
    rw [List.getElem?_take, Nat.mul_one]
    by_cases hi : i < m
    · have hic : i < cur.size := by omega
      rw [if_pos hi, Array.getElem?_toList]
      unfold Sort.putCells
      rw [Array.getElem?_mapIdx, Array.getElem?_eq_getElem hic, Option.map_some, if_pos ⟨Nat.zero_le _, by simp [hy]; omega⟩]
      have hiy : i < ys.length := by omega
      unfold ints
      rw [List.getElem?_map, List.getElem?_eq_getElem hiy]
      simp [hiy]
    · rw [if_neg hi]
      exact (List.getElem?_eq_none (by simp [ints, hy]; omega)).symm
theorem own_holds {base m c : Nat} {xs : List Int} (h : w.ownsRow base 2 1 (.slice (some ⟨g, 0, none⟩) m c) m (ints xs)) : Sort.Holds (Value.int .i64) w g 0 xs.toArray ∧ g < w.heap.size ∧ base ≤ g := by
  have hl : xs.length = m := by have := h.1; simpa [ints] using this
  refine ⟨fun j hj => ⟨?_, ?_⟩, (h.lt g rfl).2, (h.lt g rfl).1⟩
  · have hj2 : j < xs.length := by simpa using hj
    rw [Nat.zero_add, h.cellAt j (by omega)]
    unfold ints
    rw [List.getElem?_map, List.getElem?_eq_getElem hj2]
    simp [hj2]
  · rw [Nat.zero_add]; exact h.frozenAt j
end
noncomputable def tiT : TypeInfo := (Try.prog.info? 43).get (by kernel_rfl)
noncomputable def tiE : TypeInfo := (Try.prog.info? 2).get (by kernel_rfl)
theorem tiK (n : Nat) (h2 : 2 ≤ n) : Lib.swapperK n tiE 6 = 5 := by
  have a : tiE.hasPointers = false := by kernel_rfl
  have b : tiE.bytes = 8 := by kernel_rfl
  have c : (n == 0) = false := by simp; omega
  have d : (n == 1) = false := by simp; omega
  simp [Lib.swapperK, a, b, c, d]
set_option maxHeartbeats 2000000 in
theorem less_gt (blk c Bs size : Nat) (W : World) (G : Nat → Int) (hs : W.cell? ⟨Bs, 0, none⟩ = some (.slice (some ⟨blk, 0, none⟩) size c))
    (hc : ∀ t, t < size → W.cell? ⟨blk, 0 + t, none⟩ = some (.int .i64 (G t))) (i j : Nat) (hi : i < size) (hj : j < size) (hsz : size ≤ 12) :
    Calls Try.prog 154 #[.int .i64 i, .int .i64 j, .pointer (some ⟨Bs, 0, none⟩)] W fun e w' => e = .returned (.bool (gtI (G i) (G j))) ∧ ∃ q, w' = W.drewN q := by
  have ci := hc i hi
  have cj := hc j hj
  rw [Nat.zero_add] at ci cj
  clear hc
  unfold gtI
  go_enter Try.func154, Try.ntmps154
  go_wp2
  go_quiet (fail)
  go_wp2
  go_ret
  exact ⟨rfl, nq, rfl⟩
set_option maxRecDepth 100000 in
set_option maxHeartbeats 2000000 in
theorem sort_gt (gb bx c base : Nat) (d : List Int) (w : World) (h12 : d.length ≤ 12) (hx : Bx w bx 43 #[.slice (some ⟨gb, 0, none⟩) d.length c]) (ho : w.ownsRow base 2 1 (.slice (some ⟨gb, 0, none⟩) d.length c) d.length (ints d)) (hne : bx ≠ gb) :
    Calls Try.prog 153 #[.iface 43 (.slice (some ⟨gb, 0, none⟩) d.length c), .func (.func 154) #[] #[.pointer (some ⟨bx, 0, none⟩)]] w fun e w' => e = .returned (.tuple #[]) ∧ w'.ownsRow base 2 1 (.slice (some ⟨gb, 0, none⟩) d.length c) d.length (ints (d.mergeSort geB)) ∧ Bx w' bx 43 #[.slice (some ⟨gb, 0, none⟩) d.length c] ∧ Below base w w' := by
  obtain ⟨hH, hgl, hbg⟩ := own_holds ho
  by_cases h2 : 2 ≤ d.length
  · have hless : LessReads Try.prog 154 #[.pointer (some ⟨bx, 0, none⟩)] (Value.int .i64) gtI gb 0 d.toArray.size w := by
      intro m os dk hs i j hi hj
      have hsz : d.toArray.size = d.length := by simp
      rw [hsz] at hi hj hs
      refine less_gt gb c bx d.length _ (fun t => dk[t]!) ?_ (fun t ht => ?_) i j hi hj h12
      · have := hx.lt
        have hk : (sortWorld (Value.int .i64) w gb 0 m dk os).heap[bx]? = w.heap[bx]? := sorted_block this hne
        exact (World.cell?_of_block (w := w) (a := ⟨bx, 0, none⟩) hk).trans (hx.cell 0)
      · rcases ho.2 with ⟨h3, _⟩ | ⟨g', cap, cur, h3, hge, hh, hnc, hcm, hcs, htk⟩
        · cases h3
        · injection h3 with h4 h5 h6
          injection h4 with h4
          injection h4 with h4 _ _
          subst h4 h6
          have hr : (sortWorld (Value.int .i64) w gb 0 m dk os).heap[gb]? = some (.cells (Sort.putCells (Value.int .i64) 0 dk cur) 2 (0, 0)) := sorted_row hh
          rw [Nat.zero_add, cell_of_row _ gb t _ _ _ hr]
          unfold Sort.putCells
          have hic : t < cur.size := by omega
          rw [Array.getElem?_mapIdx, Array.getElem?_eq_getElem hic, Option.map_some, if_pos ⟨Nat.zero_le _, by omega⟩]
          rfl
    have hS := Any.sort_Slice_small_sorted sl6 43 2 tiT tiE (by kernel_rfl) (by kernel_rfl) (by kernel_rfl) (by kernel_rfl) 6 (fun _ => by kernel_rfl) (by kernel_rfl) (fun _ => by kernel_rfl) (Value.int .i64) (fun _ => rfl) gtI gt_swo 154 _
      (enters_of Try.func154 (by kernel_rfl) rfl) gb 0 c d.toArray (by simpa using h2) (by simpa using h12) 185 (by rw [tiK _ (by simpa using h2)]; kernel_rfl) true
      (fun args W => run_callFunc_extern Try.func185 (by kernel_rfl) (by kernel_rfl) (by kernel_rfl) (e := Extern.ReflectliteSwapper.swap true) (by kernel_rfl) args W) w hless hH hgl
    have hsz : d.toArray.size = d.length := by simp
    rw [hsz] at hS
    refine hS.mono ?_
    rintro e w' ⟨rfl, d', q, os, hp, hso, rfl⟩
    have hf := fall_eq d.toArray d' (by rw [hsz]; exact hp) (by rw [hsz]; exact hso)
    have hf2 : d' = (d.mergeSort geB).toArray := by
      have : d'.toList = d.mergeSort geB := by simpa using hf
      rw [← this]
    rw [hf2]
    exact ⟨rfl, sorted_own ho (by simp), (sorted_block hx.lt hne).trans hx, sorted_below hbg (by omega)⟩
  · have hK : Lib.swapperK d.length tiE 6 = d.length + 1 := by
      rcases Nat.eq_zero_or_pos d.length with h | h
      · rw [h]; simp [Lib.swapperK]
      · have h1 : d.length = 1 := by omega
        rw [h1]; simp [Lib.swapperK]
    have hm : d.mergeSort geB = d := by
      match d, h2 with
      | [], _ => simp
      | [x], _ => simp
      | x :: y :: r, h2 => simp at h2
    have hfi : ∃ f, Try.prog.funcs.findIdx? (·.name == "internal/reflectlite" ++ ".Swapper$" ++ toString (Lib.swapperK d.length tiE 6)) = some f := by
      rw [hK]
      rcases Nat.eq_zero_or_pos d.length with h | h
      · rw [h]; exact ⟨181, by kernel_rfl⟩
      · have h1 : d.length = 1 := by omega
        rw [h1]; exact ⟨182, by kernel_rfl⟩
    obtain ⟨f, hfi⟩ := hfi
    have hS := Any.sort_Slice_tiny sl6 43 2 tiT tiE (by kernel_rfl) (by kernel_rfl) (by kernel_rfl) (by kernel_rfl) 6 (fun _ => by kernel_rfl) (some ⟨gb, 0, none⟩) d.length c (by omega) f hfi (.func 154) #[] #[.pointer (some ⟨bx, 0, none⟩)] w
    refine hS.mono ?_
    rintro e w' ⟨rfl, os, rfl⟩
    have hb : Below w.heap.size w (Sort.grow w os) := ⟨rfl, rfl, rfl, by simp, fun k hk => Sort.heap_grow_old w os hk⟩
    rw [hm]
    exact ⟨rfl, own_below ho hb, hx.below hb hx.lt, hb.mono (by omega)⟩
end Go.Proofs.Ytlbhfjbbkkkldaa

/- Contract of sortBeat. -/
namespace Go.Proofs.Ytlbhfjbbkkkldaa
open Go.RowKit
set_option linter.unusedVariables false

set_option maxRecDepth 100000 in
set_option maxHeartbeats 2000000 in
theorem sortBeat_any (A : Option Addr) (n c : Nat) (l : List Int) (w : World) (hn : n ≤ 12) (h0 : ∀ x ∈ l, 0 ≤ x) (hr : Rd w w.heap.size 1 A n (ints l)) :
    Calls Try.prog 108 #[.slice A n c] w fun e w' => (∃ A' c', e = .returned (.slice A' (rSortZ l).length c') ∧ w'.ownsRow w.heap.size 2 1 (.slice A' (rSortZ l).length c') (rSortZ l).length (ints (rSortZ l))) ∧ Below w.heap.size w w' := by
  have hlen := hr.len
  have HR := hid hr
  have HL := hid hlen
  have H0 := hid h0
  have hst0 : Hid (nz (l.take 0) = []) := by show _ = _; rw [List.take_zero]; rfl
  clear hr hlen h0
  go_enter Try.func108, Try.ntmps108
  have HX0 : Hid (Bx ((w.alloc (Obj.cells #[] 2)).alloc (Obj.cells #[.slice (some ⟨w.heap.size, 0, none⟩) 0 0] 43)) (w.heap.size + 1) 43 #[.slice (some ⟨w.heap.size, 0, none⟩) 0 0]) := by
    have h := Bx.new (w.alloc (Obj.cells #[] 2)) 43 #[.slice (some ⟨w.heap.size, 0, none⟩) 0 0]
    rw [World.size_alloc] at h
    exact h
  go_wp2
  go_loopw [9] (fun i wr => Hid (∃ (k : Nat) (out : List Int) (g0 c0 : Nat), k ≤ n ∧ i = .int .i64 k ∧ Hid (nz (l.take k) = out) ∧ out.length ≤ k ∧ Bx wr (w.heap.size + 1) 43 #[.slice (some ⟨g0, 0, none⟩) out.length c0] ∧ wr.ownsRow w.heap.size 2 1 (.slice (some ⟨g0, 0, none⟩) out.length c0) out.length (ints out) ∧ Below w.heap.size w wr)) (fun i _ => n - (intOf i).toNat)
  case atStart => exact hid ⟨0, [], w.heap.size, 0, Nat.zero_le _, rfl, hst0, by simp, HX0.out, own_below (World.ownsRow_lit _ _ 0 (Nat.le_refl _) (by simp [maxLen]) rfl) (by repeat' (first | exact Below.refl _ _ | (with_reducible assumption) | (with_reducible refine Below.alloc ?_ ?_ _) | (with_reducible refine Below.setCell ?_ ?_ _) | (with_reducible refine Below.drew ?_) | (with_reducible refine below_drewN ?_ _) | (refine Below.trans ?_ (Below.mono (by assumption) ?_)) | (with_reducible exact Nat.le_refl _) | (with_reducible assumption) | (exact Below.size (by assumption)) | omega | go_size | (simp at *; omega))), (by repeat' (first | exact Below.refl _ _ | (with_reducible assumption) | (with_reducible refine Below.alloc ?_ ?_ _) | (with_reducible refine Below.setCell ?_ ?_ _) | (with_reducible refine Below.drew ?_) | (with_reducible refine below_drewN ?_ _) | (refine Below.trans ?_ (Below.mono (by assumption) ?_)) | (with_reducible exact Nat.le_refl _) | (with_reducible assumption) | (exact Below.size (by assumption)) | omega | go_size | (simp at *; omega)))⟩
  case round =>
    obtain ⟨k, out, g0, c0, hk, rfl, hF, hol, hX, ho, hb0⟩ := hrel.out
    clear hrel hst0 HX0
    have hz0 := hb0.size
    have x0 := bx_q0 hX
    have f0 := hX.frozen 0
    have hbl := hX.lt
    by_cases hlt : k < n
    · obtain ⟨b, off, x, rfl, hb, hx, hd, hc0⟩ := HR.out.at_ hlt
      have hc := (hb0.cell (p := ⟨b, off + k, none⟩) hb).trans hc0
      have hbw : b < wr.heap.size := by omega
      have hNZ := nz_step hx
      rw [hF.out] at hNZ
      have hx0 := H0.out x (List.mem_of_getElem? hx)
      by_cases hq : 0 < x
      · rw [if_neg (by omega)] at hNZ
        obtain ⟨out2, hout2⟩ : ∃ o, out ++ [x] = o := ⟨_, rfl⟩
        have HL2 : Hid (out2.length = out.length + 1) := by show _ = _; rw [← hout2]; simp
        rw [hout2] at hNZ
        have HOUT := hid hout2
        have HNZ := hid hNZ
        clear hout2
        have hbne := own_bne ho hX (by decide)
        have HX := hid hX
        have HB0 := hid hb0
        clear hx hd hc0 hNZ hF hX hb0
        go_wp2_with (at_builtin; refine push_int ho x _ Try.underlying43 inf_int rfl rfl _ _ rfl rfl rfl (by omega) (by omega) ?_; intro v1 w1 ho1 hb1 hg1; rw [HOUT.out] at ho1; obtain ⟨g1, c1, rfl, _⟩ := own_some ho1 (by rw [HL2.out]; omega); have hX1 := HX.out.grown hg1 (Ne.symm hbne); have x1 := bx_q0 hX1; have f1 := hX1.frozen 0; have hl1 := hX1.lt)
        have hXs := hX1.set_ 0 (.slice (some ⟨g1, 0, none⟩) out2.length c1)
        have HXs : Hid (Bx (w1.setCell ⟨w.heap.size + 1, 0, none⟩ (.slice (some ⟨g1, 0, none⟩) out2.length c1)) (w.heap.size + 1) 43 #[.slice (some ⟨g1, 0, none⟩) out2.length c1]) := hXs
        have HOs := hid (own_keepb (u := .slice (some ⟨g1, 0, none⟩) out2.length c1) ho1 hX1 (by decide))
        have HBs : Hid (Below w.heap.size w (w1.setCell ⟨w.heap.size + 1, 0, none⟩ (.slice (some ⟨g1, 0, none⟩) out2.length c1))) := (HB0.out.trans hb1).setCell (by show w.heap.size ≤ w.heap.size + 1; omega) _
        go_roundw
        case rel => exact hid ⟨k + 1, out2, g1, c1, by omega, by go_num, HNZ, by rw [HL2.out]; omega, HXs.out, HOs.out, HBs.out⟩
        case measure => simp [intOf]; omega
      · have hx0' : x = 0 := by omega
        rw [if_pos hx0', List.append_nil] at hNZ
        have HNZ := hid hNZ
        clear hx hd hc0 hNZ hF hx0'
        go_wp2
        go_roundw
        case rel => exact hid ⟨k + 1, out, g0, c0, by omega, by go_num, HNZ, by omega, hX, ho, hb0⟩
        case measure => simp [intOf]; omega
    · have hkn : k = n := by omega
      have hE : nz l = out := by
        have h := hF.out
        rwa [List.take_of_length_le (by rw [HL.out]; omega)] at h
      have HE := hid hE
      clear hE hF
      by_cases hz : out.length = 0
      · have ho2 : out = [] := List.eq_nil_of_length_eq_zero hz
        have HS : Hid (rSortZ l = [0]) := by
          show _ = _
          have h1 : rSrt l = [] := by rw [rSrt, HE.out, ho2]; simp
          rw [rSortZ, if_pos h1]
        subst ho2
        clear hX ho
        go_wp2
        refine bodyPost_ret (v := .slice (some ⟨wr.heap.size, 0, none⟩) 1 1) ?_ rfl ?_
        · simp (maxDischargeDepth := 8) [results, Try.results108, go_sem, *]
        rw [HS.out]
        refine ⟨⟨some ⟨wr.heap.size, 0, none⟩, 1, rfl, ?_⟩, (by repeat' (first | exact Below.refl _ _ | (with_reducible assumption) | (with_reducible refine Below.alloc ?_ ?_ _) | (with_reducible refine Below.setCell ?_ ?_ _) | (with_reducible refine Below.drew ?_) | (with_reducible refine below_drewN ?_ _) | (refine Below.trans ?_ (Below.mono (by assumption) ?_)) | (with_reducible exact Nat.le_refl _) | (with_reducible assumption) | (exact Below.size (by assumption)) | omega | go_size | (simp at *; omega)))⟩
        exact World.ownsRow_lit _ _ 1 (by omega) (by simp [maxLen]) rfl
      · have HS : Hid (rSortZ l = out.mergeSort geB) := by
          show _ = _
          have h1 : rSrt l = out.mergeSort geB := by rw [rSrt, HE.out]
          have h2 : rSrt l ≠ [] := by
            intro e
            rw [h1] at e
            have := congrArg List.length e
            simp at this
            exact hz (by rw [this]; rfl)
          rw [rSortZ, if_neg h2, h1]
        have hbne := own_bne ho hX (by decide)
        have hg0 : g0 < wr.heap.size := (own_holds ho).2.1
        have HW := hid (sort_gt g0 (w.heap.size + 1) c0 w.heap.size out wr (by omega) hX ho (by intro e; exact hbne (by rw [e]; rfl)))
        have hln : ((out.length : Int) == 0) = false := by simpa using hz
        have HB0 := hid hb0
        clear hX ho hb0 hbne
        go_wp2_with fail
        refine HW.out.mono ?_
        rintro e w2 ⟨rfl, ho2, hX2, hb2⟩
        have x2 := bx_q0 hX2
        have f2 := hX2.frozen 0
        have HB2 := hid (HB0.out.trans hb2)
        have HO2 := hid ho2
        clear HW HB0 hb2 ho2 hX2
        go_wp2
        refine bodyPost_ret (v := .slice (some ⟨g0, 0, none⟩) out.length c0) ?_ rfl ?_
        · simp (maxDischargeDepth := 8) [results, Try.results108, go_sem, *]
        rw [HS.out]
        have hl : (out.mergeSort geB).length = out.length := List.length_mergeSort out
        rw [hl]
        exact ⟨⟨_, c0, rfl, HO2.out⟩, HB2.out⟩
end Go.Proofs.Ytlbhfjbbkkkldaa

/- Contracts of MultiLandings, impl's and the reference's. -/
namespace Go.Proofs.Ytlbhfjbbkkkldaa
open Go.RowKit
set_option linter.unusedVariables false

def rMultiLandings (rows : List (List Int)) : List Int × Int := if mOk rows then (rLand rows, 0) else ([], 1)
def LnRes (B : Nat) (r : List Int × Int) (e : Ending) (w : World) : Prop := ∃ A c, e = .returned (.tuple #[.slice A r.1.length c, .int .i64 r.2]) ∧ w.ownsRow B 2 1 (.slice A r.1.length c) r.1.length (ints r.1)
theorem LnRes.no (B : Nat) (w : World) (x : Int) : LnRes B ([], x) (.returned (.tuple #[.slice none 0 0, .int .i64 x])) w := ⟨none, 0, rfl, World.ownsRow_nil _ _ _ _⟩
theorem LnRes.mk {B : Nat} {w : World} {A : Option Addr} {c n : Nat} {q : List Int} {x : Int} (hn : q.length = n) (h : w.ownsRow B 2 1 (.slice A n c) n (ints q)) : LnRes B (q, x) (.returned (.tuple #[.slice A n c, .int .i64 x])) w := by subst hn; exact ⟨A, c, rfl, h⟩
set_option maxRecDepth 100000 in
set_option maxHeartbeats 1000000 in
theorem MultiLandings_any (A : Option Addr) (n c : Nat) (rows : List (List Int)) (w : World) (hn : n ≤ 1099511627776) (hl : ∀ r ∈ rows, r.length ≤ 1099511627776) (hr : RdG w w.heap.size A n rows) :
    Calls Try.prog 43 #[.agg #[.slice A n c]] w fun e w' => LnRes w.heap.size (rMultiLandings rows) e w' ∧ Below w.heap.size w w' := by
  have hlen := hr.len
  have hbx : Below w.heap.size w (w.alloc (Obj.cells #[.slice A n c] 26)) := (by repeat' (first | exact Below.refl _ _ | (with_reducible assumption) | (with_reducible refine Below.alloc ?_ ?_ _) | (with_reducible refine Below.setCell ?_ ?_ _) | (with_reducible refine Below.drew ?_) | (with_reducible refine below_drewN ?_ _) | (refine Below.trans ?_ (Below.mono (by assumption) ?_)) | (with_reducible exact Nat.le_refl _) | (with_reducible assumption) | (exact Below.size (by assumption)) | omega | go_size | (simp at *; omega)))
  have hX := Bx.new w 26 #[.slice A n c]
  have hV := ValidMulti_any A n c rows (w.alloc (Obj.cells #[.slice A n c] 26)) hn hl ((hr.below hbx (Nat.le_refl _)).more hbx.size)
  have HR := hid hr
  clear hr
  cases hp : mOk rows with
  | false =>
    have HZ : Hid (rMultiLandings rows = ([], 1)) := by show _ = _; rw [rMultiLandings, hp]; rfl
    rw [hp] at hV
    have hV := hid hV
    clear hp hX hlen hl
    go_enter Try.func43, Try.ntmps43
    go_wp2_with fail
    refine hV.out.mono ?_
    rintro e w1 ⟨rfl, hb1⟩
    go_wp2
    go_ret2
    exact ⟨by rw [HZ.out]; exact LnRes.no _ _ _, (by repeat' (first | exact Below.refl _ _ | (with_reducible assumption) | (with_reducible refine Below.alloc ?_ ?_ _) | (with_reducible refine Below.setCell ?_ ?_ _) | (with_reducible refine Below.drew ?_) | (with_reducible refine below_drewN ?_ _) | (refine Below.trans ?_ (Below.mono (by assumption) ?_)) | (with_reducible exact Nat.le_refl _) | (with_reducible assumption) | (exact Below.size (by assumption)) | omega | go_size | (simp at *; omega)))⟩
  | true =>
    have HZ : Hid (rMultiLandings rows = (rLand rows, 0)) := by show _ = _; rw [rMultiLandings, if_pos hp]
    rw [hp] at hV
    have hV := hid hV
    have HSH := hid (mOk_iff.1 hp).1
    have HLN : Hid ((rLand rows).length = n) := by show _ = _; rw [rLand_len]; exact hlen
    clear hp hlen hl
    go_enter Try.func43, Try.ntmps43
    go_wp2_with fail
    refine hV.out.mono ?_
    rintro e w1 ⟨rfl, hb1⟩
    have hB1 : Below w.heap.size w w1 := (by repeat' (first | exact Below.refl _ _ | (with_reducible assumption) | (with_reducible refine Below.alloc ?_ ?_ _) | (with_reducible refine Below.setCell ?_ ?_ _) | (with_reducible refine Below.drew ?_) | (with_reducible refine below_drewN ?_ _) | (refine Below.trans ?_ (Below.mono (by assumption) ?_)) | (with_reducible exact Nat.le_refl _) | (with_reducible assumption) | (exact Below.size (by assumption)) | omega | go_size | (simp at *; omega)))
    have hX1 := hX.below hb1 hX.lt
    have c0 : w1.cell? ⟨w.heap.size, 0, none⟩ = some (.slice A n c) := bx_c0 hX1
    have hgw : w.heap.size < w1.heap.size := hX1.lt
    have hC := hid (landingCounts_any A n c rows w1 HSH.out ((HR.out.below hB1 (Nat.le_refl _)).more hB1.size))
    clear hX hX1 hV hb1
    go_wp2_with fail
    refine hC.out.mono ?_
    rintro e w2 ⟨A2, c2, rfl, ho2, hb2⟩
    have hB2 := bchain hB1 hb2
    have HO := hid ho2
    clear ho2 hC
    go_wp2
    go_ret2
    refine ⟨?_, hB2⟩
    rw [HZ.out]
    exact LnRes.mk HLN.out (own_more HO.out (Nat.le_of_lt hgw))
set_option maxRecDepth 100000 in
set_option maxHeartbeats 1000000 in
theorem specMultiLandings_any (A : Option Addr) (n c : Nat) (rows : List (List Int)) (w : World) (hn : n ≤ 1099511627776) (hl : ∀ r ∈ rows, r.length ≤ 1099511627776) (hr : RdG w w.heap.size A n rows) :
    Calls Try.prog 44 #[.agg #[.slice A n c]] w fun e w' => LnRes w.heap.size (rMultiLandings rows) e w' ∧ Below w.heap.size w w' := by
  have hlen := hr.len
  have hbx : Below w.heap.size w (w.alloc (Obj.cells #[.slice A n c] 26)) := (by repeat' (first | exact Below.refl _ _ | (with_reducible assumption) | (with_reducible refine Below.alloc ?_ ?_ _) | (with_reducible refine Below.setCell ?_ ?_ _) | (with_reducible refine Below.drew ?_) | (with_reducible refine below_drewN ?_ _) | (refine Below.trans ?_ (Below.mono (by assumption) ?_)) | (with_reducible exact Nat.le_refl _) | (with_reducible assumption) | (exact Below.size (by assumption)) | omega | go_size | (simp at *; omega)))
  have hX := Bx.new w 26 #[.slice A n c]
  have hV := l04Ok_any w.heap.size A n c rows (w.alloc (Obj.cells #[.slice A n c] 26)) hn hl hX (((hr.below hbx (Nat.le_refl _)).more hbx.size))
  have HR := hid hr
  clear hr
  cases hp : mOk rows with
  | false =>
    have HZ : Hid (rMultiLandings rows = ([], 1)) := by show _ = _; rw [rMultiLandings, hp]; rfl
    rw [hp] at hV
    have hV := hid hV
    clear hp hX hlen hl
    go_enter Try.func44, Try.ntmps44
    go_wp2_with fail
    refine hV.out.mono ?_
    rintro e w1 ⟨rfl, hb1⟩
    go_wp2
    go_ret2
    exact ⟨by rw [HZ.out]; exact LnRes.no _ _ _, (by repeat' (first | exact Below.refl _ _ | (with_reducible assumption) | (with_reducible refine Below.alloc ?_ ?_ _) | (with_reducible refine Below.setCell ?_ ?_ _) | (with_reducible refine Below.drew ?_) | (with_reducible refine below_drewN ?_ _) | (refine Below.trans ?_ (Below.mono (by assumption) ?_)) | (with_reducible exact Nat.le_refl _) | (with_reducible assumption) | (exact Below.size (by assumption)) | omega | go_size | (simp at *; omega)))⟩
  | true =>
    have HZ : Hid (rMultiLandings rows = (rLand rows, 0)) := by show _ = _; rw [rMultiLandings, if_pos hp]
    rw [hp] at hV
    have hV := hid hV
    have HSH := hid (mOk_iff.1 hp).1
    have HLN : Hid ((rLand rows).length = n) := by show _ = _; rw [rLand_len]; exact hlen
    clear hp hlen hl
    go_enter Try.func44, Try.ntmps44
    go_wp2_with fail
    refine hV.out.mono ?_
    rintro e w1 ⟨rfl, hb1⟩
    have hB1 : Below w.heap.size w w1 := (by repeat' (first | exact Below.refl _ _ | (with_reducible assumption) | (with_reducible refine Below.alloc ?_ ?_ _) | (with_reducible refine Below.setCell ?_ ?_ _) | (with_reducible refine Below.drew ?_) | (with_reducible refine below_drewN ?_ _) | (refine Below.trans ?_ (Below.mono (by assumption) ?_)) | (with_reducible exact Nat.le_refl _) | (with_reducible assumption) | (exact Below.size (by assumption)) | omega | go_size | (simp at *; omega)))
    have hX1 := hX.below hb1 hX.lt
    have c0 : w1.cell? ⟨w.heap.size, 0, none⟩ = some (.slice A n c) := bx_c0 hX1
    have hgw : w.heap.size < w1.heap.size := hX1.lt
    have hC := hid (l04Landings_any w.heap.size A n c rows w1 HSH.out hX1 ((HR.out.below hB1 (Nat.le_refl _)).more hB1.size))
    clear hX hX1 hV hb1
    go_wp2_with fail
    refine hC.out.mono ?_
    rintro e w2 ⟨A2, c2, rfl, ho2, hb2⟩
    have hB2 := bchain hB1 hb2
    have HO := hid ho2
    clear ho2 hC
    go_wp2
    go_ret2
    refine ⟨?_, hB2⟩
    rw [HZ.out]
    exact LnRes.mk HLN.out (own_more HO.out (Nat.le_of_lt hgw))
end Go.Proofs.Ytlbhfjbbkkkldaa

/- Contracts of MultiOf, impl's and the reference's. -/
namespace Go.Proofs.Ytlbhfjbbkkkldaa
open Go.RowKit
set_option linter.unusedVariables false

set_option maxRecDepth 100000 in
set_option maxHeartbeats 2000000 in
theorem multiOf_any (A : Option Addr) (n c : Nat) (p : List Int) (w : World) (hn : n ≤ 1099511627775) (hr : Rd w w.heap.size 1 A n (ints p)) :
    Calls Try.prog 117 #[.slice A n c] w fun e w' => MsRes w.heap.size (rSing p) e w' ∧ Below w.heap.size w w' := by
  have hlen := hr.len
  have HR := hid hr
  have HL := hid hlen
  have hXX : (w.alloc (Obj.cells #[.slice none 0 0] 26)).heap.size = w.heap.size + 1 := by simp
  have hX2 := hid ((Bx.new w 26 #[.slice none 0 0]).alloc (Obj.cells #[.slice none 0 0] 26))
  have hX4 := Bx.new (w.alloc (Obj.cells #[.slice none 0 0] 26)) 26 #[.slice none 0 0]
  rw [hXX] at hX4
  have hX4 := hid hX4
  clear hXX hr hlen
  go_enter Try.func117, Try.ntmps117
  go_wp2

  go_loopw [9] (fun i wr => Hid (∃ (k : Nat) (A2 : Option Addr) (c2 : Nat), k ≤ n ∧ i = .int .i64 k ∧ Bx wr w.heap.size 26 #[.slice none 0 0] ∧ Bx wr (w.heap.size + 1) 26 #[.slice A2 k c2] ∧ Grid wr (w.heap.size + 1 + 1) wr.heap.size (.slice A2 k c2) (rSing (p.take k)) ∧ Below w.heap.size w wr)) (fun i _ => n - (intOf i).toNat)
  case atStart => exact hid ⟨0, none, 0, Nat.zero_le _, rfl, hX2.out, hX4.out, Grid.nil _ _ _, (by repeat' (first | exact Below.refl _ _ | (with_reducible assumption) | (with_reducible refine Below.alloc ?_ ?_ _) | (with_reducible refine Below.setCell ?_ ?_ _) | (with_reducible refine Below.drew ?_) | (with_reducible refine below_drewN ?_ _) | (refine Below.trans ?_ (Below.mono (by assumption) ?_)) | (with_reducible exact Nat.le_refl _) | (with_reducible assumption) | (exact Below.size (by assumption)) | omega | go_size | (simp at *; omega)))⟩
  case round =>
    clear hX2 hX4
    obtain ⟨k, A2, c2, hk, rfl, hX2, hX4, hG, hb0⟩ := hrel.out
    clear hrel
    have hz0 := hb0.size
    have hz4 := hX4.lt
    have e2 : wr.cell? ⟨w.heap.size, 0, none⟩ = some (.slice none 0 0) := hX2.cell 0
    have f2 := hX2.frozen 0
    have e4 : wr.cell? ⟨w.heap.size + 1, 0, none⟩ = some (.slice A2 k c2) := hX4.cell 0
    have f4 := hX4.frozen 0
    by_cases hlt : k < n
    · obtain ⟨b, off, x, rfl, hb, hx, hd, hc0⟩ := HR.out.at_ hlt
      have hc : wr.cell? ⟨b, off + k, none⟩ = some (.int .i64 x) := (hb0.cell (p := ⟨b, off + k, none⟩) hb).trans hc0
      have HST := hid (rSing_step hx)
      have HTL : Hid ((rSing (p.take k)).length = k) := by show _ = _; rw [rSing_len, List.length_take, HL.out]; omega
      have HL5 : Hid ((rSing (p.take k) ++ [[x]]).length = k + 1) := by show _ = _; rw [List.length_append, HTL.out]; rfl
      have hbw : b < wr.heap.size := by omega
      have hbA : Below wr.heap.size wr (wr.alloc (Obj.cells #[.int .i64 x] 2)) := (by repeat' (first | exact Below.refl _ _ | (with_reducible assumption) | (with_reducible refine Below.alloc ?_ ?_ _) | (with_reducible refine Below.setCell ?_ ?_ _) | (with_reducible refine Below.drew ?_) | (with_reducible refine below_drewN ?_ _) | (refine Below.trans ?_ (Below.mono (by assumption) ?_)) | (with_reducible exact Nat.le_refl _) | (with_reducible assumption) | (exact Below.size (by assumption)) | omega | go_size | (simp at *; omega)))
      have hG2 := hG.below hbA
      have hz1 := hbA.size
      have hsz : Hid ((wr.alloc (Obj.cells #[.int .i64 x] 2)).heap.size = wr.heap.size + 1) := by show _ = _; simp
      have ho : (wr.alloc (Obj.cells #[.int .i64 x] 2)).ownsRow wr.heap.size 2 1 (.slice (some ⟨wr.heap.size, 0, none⟩) 1 1) [x].length (ints [x]) := World.ownsRow_lit _ _ 1 (Nat.le_refl _) (by simp [maxLen]) rfl
      have hum : ∀ g, (Value.slice (some ⟨wr.heap.size, 0, none⟩) 1 1).ownBlock = some g → wr.heap.size ≤ g := fun g h => (ho.lt g h).1
      replace ho := own_more ho (show w.heap.size + 1 + 1 ≤ wr.heap.size by omega)
      replace hG2 := Grid.fitv hG2 HTL.out
      have HX2 := hid hX2
      have HX4 := hid hX4
      have HB := hid hb0
      clear hx hd hc0 hX2 hX4 hG hb0
      have hbB := hid hbA
      clear hbA
      go_wp2_with (at_builtin; refine push_row hG2 ho hum hz1 _ Try.underlying24 inf_row rfl _ _ rfl (by rw [HTL.out]; rfl) (by rw [hsz.out]; rfl) (by rw [HTL.out]; omega) (by rw [hsz.out]; omega) ?_; intro v5 w5 hG5 hb5 hg5; obtain ⟨A5, c5, rfl⟩ := Grid.formN hG5 HL5.out; have hB5 : Below (w.heap.size + 1 + 1) wr w5 := Below.trans (Below.mono hbB.out (by omega)) hb5; have X2 := hid (HX2.out.below hB5 (by omega)); have X4 := hid (HX4.out.below hB5 (by omega)); have x4 := bx_c0 X4.out; have y4 := X4.out.frozen 0; have hl5 := X4.out.lt; replace hG5 := hG5.up (show _ ≤ w5.heap.size from hb5.size))
      rw [← HST.out] at hG5
      have HG5 := hid (hG5.setk (p := ⟨w.heap.size + 1, 0, none⟩) (by show w.heap.size + 1 < _; omega) (.slice A5 (k + 1) c5)).size
      have HX4' := hid (X4.out.set_ 0 (.slice A5 (k + 1) c5))
      have HX2' := hid (X2.out.far (p := ⟨w.heap.size + 1, 0, none⟩) (by simp) (.slice A5 (k + 1) c5))
      have HB5 : Hid (Below w.heap.size w (w5.setCell ⟨w.heap.size + 1, 0, none⟩ (.slice A5 (k + 1) c5))) := (HB.out.trans (Below.mono hB5 (by omega))).setCell (by show w.heap.size ≤ w.heap.size + 1; omega) _
      clear X2 X4 hG5 hb5 hg5 hB5
      go_roundw
      case rel => exact hid ⟨k + 1, A5, c5, by omega, by go_num, HX2'.out, HX4'.out, HG5.out, HB5.out⟩
      case measure => simp [intOf]; omega
    · have hkn : k = n := by omega
      have hE : rSing (p.take k) = rSing p := by rw [List.take_of_length_le (by rw [HL.out]; omega)]
      rw [hE] at hG
      have hLn : (rSing p).length = k := by rw [rSing_len, HL.out, hkn]
      have HG := hid (MsRes.mk hLn ((hG.setk (p := ⟨w.heap.size, 0, none⟩) (by show w.heap.size < _; omega) (.slice A2 k c2)).more (show w.heap.size ≤ w.heap.size + 1 + 1 by omega)).size)
      clear hE hkn hLn hX2 hX4 hG
      go_wp2
      refine bodyPost_ret (v := .agg #[.slice A2 k c2]) ?_ rfl ?_
      · simp (maxDischargeDepth := 8) [results, Try.results117, go_sem, *]
      exact ⟨HG.out, (by repeat' (first | exact Below.refl _ _ | (with_reducible assumption) | (with_reducible refine Below.alloc ?_ ?_ _) | (with_reducible refine Below.setCell ?_ ?_ _) | (with_reducible refine Below.drew ?_) | (with_reducible refine below_drewN ?_ _) | (refine Below.trans ?_ (Below.mono (by assumption) ?_)) | (with_reducible exact Nat.le_refl _) | (with_reducible assumption) | (exact Below.size (by assumption)) | omega | go_size | (simp at *; omega)))⟩
def rMultiOf (p : List Int) : List (List Int) × Int := if okP p then (rSing p, 0) else ([], 1)
set_option maxRecDepth 100000 in
set_option maxHeartbeats 1000000 in
theorem MultiOf_any (A : Option Addr) (n c : Nat) (p : List Int) (w : World) (hn : n ≤ 1099511627775) (hr : Rd w w.heap.size 1 A n (ints p)) :
    Calls Try.prog 50 #[.slice A n c] w fun e w' => AmRes w.heap.size (rMultiOf p) e w' ∧ Below w.heap.size w w' := by
  have hB0 : Below w.heap.size w (w.alloc (Obj.cells #[.slice none 0 0] 26)) := (by repeat' (first | exact Below.refl _ _ | (with_reducible assumption) | (with_reducible refine Below.alloc ?_ ?_ _) | (with_reducible refine Below.setCell ?_ ?_ _) | (with_reducible refine Below.drew ?_) | (with_reducible refine below_drewN ?_ _) | (refine Below.trans ?_ (Below.mono (by assumption) ?_)) | (with_reducible exact Nat.le_refl _) | (with_reducible assumption) | (exact Below.size (by assumption)) | omega | go_size | (simp at *; omega)))
  have hX := hid (Bx.new w 26 #[.slice none 0 0])
  have hV := ValidPattern_any A n c p (w.alloc (Obj.cells #[.slice none 0 0] 26)) (by omega) ((hr.below hB0 (Nat.le_refl _)).more hB0.size)
  have HR := hid hr
  have HB0 := hid hB0
  cases hp : okP p with
  | false =>
    rw [hp] at hV
    have hV := hid hV
    have HO : Hid (rMultiOf p = ([], 1)) := by show _ = _; rw [rMultiOf, hp]; rfl
    clear hr hp hB0
    go_enter Try.func50, Try.ntmps50
    go_wp2_with fail
    refine hV.out.mono ?_
    rintro e w1 ⟨rfl, hb1⟩
    have hX1 := hX.out.below hb1 hX.out.lt
    have x1 := bx_c0 hX1
    have f1 := hX1.frozen 0
    have HB1 := hid (bchain HB0.out hb1)
    clear hb1 hX1
    go_wp2
    refine bodyPost_ret (v := .tuple #[.agg #[.slice none 0 0], .int .i64 1]) ?_ rfl ?_
    · simp (maxDischargeDepth := 8) [results, Try.results50, go_sem, *]
    rw [HO.out]
    have hb := HB1.out
    exact ⟨AmRes.no _ _ _, (by repeat' (first | exact Below.refl _ _ | (with_reducible assumption) | (with_reducible refine Below.alloc ?_ ?_ _) | (with_reducible refine Below.setCell ?_ ?_ _) | (with_reducible refine Below.drew ?_) | (with_reducible refine below_drewN ?_ _) | (refine Below.trans ?_ (Below.mono (by assumption) ?_)) | (with_reducible exact Nat.le_refl _) | (with_reducible assumption) | (exact Below.size (by assumption)) | omega | go_size | (simp at *; omega)))⟩
  | true =>
    rw [hp] at hV
    have hV := hid hV
    have HO : Hid (rMultiOf p = (rSing p, 0)) := by show _ = _; rw [rMultiOf, hp]; rfl
    have HC := hid (fun (w1 : World) (b : Below w.heap.size w w1) => multiOf_any A n c p w1 hn ((HR.out.below b (Nat.le_refl _)).more b.size))
    clear hr hp hB0
    go_enter Try.func50, Try.ntmps50
    go_wp2_with fail
    refine hV.out.mono ?_
    rintro e w1 ⟨rfl, hb1⟩
    have hX1 := hid (hX.out.below hb1 hX.out.lt)
    have HB1 := hid (bchain HB0.out hb1)
    clear hb1
    go_wp2_with fail
    refine (HC.out w1 HB1.out).mono ?_
    rintro e w2 ⟨⟨A2, c2, rfl, hG⟩, hb2⟩
    have hX2 := hX1.out.below hb2 hX1.out.lt
    have x2 := bx_c0 hX2
    have f2 := hX2.frozen 0
    have HB2 := hid (bchain HB1.out hb2)
    have hl1 := hX1.out.lt
    have HG := hid (((hG.setk (p := ⟨w.heap.size, 0, none⟩) hl1 (.slice A2 (rSing p).length c2)).more (Nat.le_of_lt hl1)).size)
    obtain ⟨m, hm⟩ : ∃ m, (rSing p).length = m := ⟨_, rfl⟩
    rw [hm] at HG ⊢
    have HM := hid hm
    clear hb2 hX2 hG hm HC
    go_wp2
    refine bodyPost_ret (v := .tuple #[.agg #[.slice A2 m c2], .int .i64 0]) ?_ rfl ?_
    · simp (maxDischargeDepth := 8) [results, Try.results50, go_sem, *]
    rw [HO.out]
    have hb := HB2.out
    exact ⟨AmRes.mk HM.out HG.out, (by repeat' (first | exact Below.refl _ _ | (with_reducible assumption) | (with_reducible refine Below.alloc ?_ ?_ _) | (with_reducible refine Below.setCell ?_ ?_ _) | (with_reducible refine Below.drew ?_) | (with_reducible refine below_drewN ?_ _) | (refine Below.trans ?_ (Below.mono (by assumption) ?_)) | (with_reducible exact Nat.le_refl _) | (with_reducible assumption) | (exact Below.size (by assumption)) | omega | go_size | (simp at *; omega)))⟩
set_option maxRecDepth 100000 in
set_option maxHeartbeats 1000000 in
theorem specMultiOf_any (A : Option Addr) (n c : Nat) (p : List Int) (w : World) (hn : n ≤ 1099511627775) (hr : Rd w w.heap.size 1 A n (ints p)) :
    Calls Try.prog 51 #[.slice A n c] w fun e w' => AmRes w.heap.size (rMultiOf p) e w' ∧ Below w.heap.size w w' := by
  have hB0 : Below w.heap.size w (w.alloc (Obj.cells #[.slice none 0 0] 26)) := (by repeat' (first | exact Below.refl _ _ | (with_reducible assumption) | (with_reducible refine Below.alloc ?_ ?_ _) | (with_reducible refine Below.setCell ?_ ?_ _) | (with_reducible refine Below.drew ?_) | (with_reducible refine below_drewN ?_ _) | (refine Below.trans ?_ (Below.mono (by assumption) ?_)) | (with_reducible exact Nat.le_refl _) | (with_reducible assumption) | (exact Below.size (by assumption)) | omega | go_size | (simp at *; omega)))
  have hX := hid (Bx.new w 26 #[.slice none 0 0])
  have hV := specValidPattern_any A n c p (w.alloc (Obj.cells #[.slice none 0 0] 26)) (by omega) ((hr.below hB0 (Nat.le_refl _)).more hB0.size)
  have HR := hid hr
  have HB0 := hid hB0
  cases hp : okP p with
  | false =>
    rw [hp] at hV
    have hV := hid hV
    have HO : Hid (rMultiOf p = ([], 1)) := by show _ = _; rw [rMultiOf, hp]; rfl
    clear hr hp hB0
    go_enter Try.func51, Try.ntmps51
    go_wp2_with fail
    refine hV.out.mono ?_
    rintro e w1 ⟨rfl, hb1⟩
    have hX1 := hX.out.below hb1 hX.out.lt
    have x1 := bx_c0 hX1
    have f1 := hX1.frozen 0
    have HB1 := hid (bchain HB0.out hb1)
    clear hb1 hX1
    go_wp2
    refine bodyPost_ret (v := .tuple #[.agg #[.slice none 0 0], .int .i64 1]) ?_ rfl ?_
    · simp (maxDischargeDepth := 8) [results, Try.results51, go_sem, *]
    rw [HO.out]
    have hb := HB1.out
    exact ⟨AmRes.no _ _ _, (by repeat' (first | exact Below.refl _ _ | (with_reducible assumption) | (with_reducible refine Below.alloc ?_ ?_ _) | (with_reducible refine Below.setCell ?_ ?_ _) | (with_reducible refine Below.drew ?_) | (with_reducible refine below_drewN ?_ _) | (refine Below.trans ?_ (Below.mono (by assumption) ?_)) | (with_reducible exact Nat.le_refl _) | (with_reducible assumption) | (exact Below.size (by assumption)) | omega | go_size | (simp at *; omega)))⟩
  | true =>
    rw [hp] at hV
    have hV := hid hV
    have HO : Hid (rMultiOf p = (rSing p, 0)) := by show _ = _; rw [rMultiOf, hp]; rfl
    have HC := hid (fun (w1 : World) (b : Below w.heap.size w w1) => l04Single_any A n c p w1 hn ((HR.out.below b (Nat.le_refl _)).more b.size))
    clear hr hp hB0
    go_enter Try.func51, Try.ntmps51
    go_wp2_with fail
    refine hV.out.mono ?_
    rintro e w1 ⟨rfl, hb1⟩
    have hX1 := hid (hX.out.below hb1 hX.out.lt)
    have HB1 := hid (bchain HB0.out hb1)
    clear hb1
    go_wp2_with fail
    refine (HC.out w1 HB1.out).mono ?_
    rintro e w2 ⟨⟨A2, c2, rfl, hG⟩, hb2⟩
    have hX2 := hX1.out.below hb2 hX1.out.lt
    have x2 := bx_c0 hX2
    have f2 := hX2.frozen 0
    have HB2 := hid (bchain HB1.out hb2)
    have hl1 := hX1.out.lt
    have HG := hid (((hG.setk (p := ⟨w.heap.size, 0, none⟩) hl1 (.slice A2 (rSing p).length c2)).more (Nat.le_of_lt hl1)).size)
    obtain ⟨m, hm⟩ : ∃ m, (rSing p).length = m := ⟨_, rfl⟩
    rw [hm] at HG ⊢
    have HM := hid hm
    clear hb2 hX2 hG hm HC
    go_wp2
    refine bodyPost_ret (v := .tuple #[.agg #[.slice A2 m c2], .int .i64 0]) ?_ rfl ?_
    · simp (maxDischargeDepth := 8) [results, Try.results51, go_sem, *]
    rw [HO.out]
    have hb := HB2.out
    exact ⟨AmRes.mk HM.out HG.out, (by repeat' (first | exact Below.refl _ _ | (with_reducible assumption) | (with_reducible refine Below.alloc ?_ ?_ _) | (with_reducible refine Below.setCell ?_ ?_ _) | (with_reducible refine Below.drew ?_) | (with_reducible refine below_drewN ?_ _) | (refine Below.trans ?_ (Below.mono (by assumption) ?_)) | (with_reducible exact Nat.le_refl _) | (with_reducible assumption) | (exact Below.size (by assumption)) | omega | go_size | (simp at *; omega)))⟩
end Go.Proofs.Ytlbhfjbbkkkldaa

/- Contracts of SingleOf, impl's and the reference's. -/
namespace Go.Proofs.Ytlbhfjbbkkkldaa
open Go.RowKit
set_option linter.unusedVariables false

def hds (m : List (List Int)) : List Int := m.map fun r => r.headD 0
def lows (m : List (List Int)) : Bool := m.all fun r => decide (r.length ≤ 1)
def rSingleOf (m : List (List Int)) : List Int × Int := if mOk m then (if lows m then (hds m, 0) else ([], 10)) else ([], 1)
theorem hds_step {m : List (List Int)} {k : Nat} {x : Int} {r : List Int} (h : m[k]? = some r) (hx : r[0]? = some x) : hds (m.take (k + 1)) = hds (m.take k) ++ [x] := by
  rw [List.take_add_one, h]
  unfold hds
  rw [List.map_append]
  cases r with
  | nil => simp at hx
  | cons y t => simp at hx; subst hx; rfl
theorem lows_step {m : List (List Int)} {k : Nat} {r : List Int} (h : m[k]? = some r) (hl : lows (m.take k) = true) (hr : ¬ 1 < r.length) : lows (m.take (k + 1)) = true := by
  rw [List.take_add_one, h]
  unfold lows at *
  rw [List.all_append, hl]
  simp; omega
theorem lows_bad {m : List (List Int)} {k : Nat} {r : List Int} (h : m[k]? = some r) (hr : 1 < r.length) : lows m = false := by
  cases hq : lows m with
  | false => rfl
  | true =>
    have h1 := List.all_eq_true.1 hq r (List.mem_of_getElem? h)
    simp at h1; omega
theorem hds_len (m : List (List Int)) : (hds m).length = m.length := by simp [hds]
set_option maxRecDepth 100000 in
set_option maxHeartbeats 2000000 in
theorem SingleOf_any (A : Option Addr) (n c : Nat) (rows : List (List Int)) (w : World) (hn : n ≤ 1099511627776) (hl : ∀ r ∈ rows, r.length ≤ 1099511627776) (hr : RdG w w.heap.size A n rows) :
    Calls Try.prog 53 #[.agg #[.slice A n c]] w fun e w' => LnRes w.heap.size (rSingleOf rows) e w' ∧ Below w.heap.size w w' := by
  have hlen := hr.len
  have hbx : Below w.heap.size w (w.alloc (Obj.cells #[.slice A n c] 26)) := (by repeat' (first | exact Below.refl _ _ | (with_reducible assumption) | (with_reducible refine Below.alloc ?_ ?_ _) | (with_reducible refine Below.setCell ?_ ?_ _) | (with_reducible refine Below.drew ?_) | (with_reducible refine below_drewN ?_ _) | (refine Below.trans ?_ (Below.mono (by assumption) ?_)) | (with_reducible exact Nat.le_refl _) | (with_reducible assumption) | (exact Below.size (by assumption)) | omega | go_size | (simp at *; omega)))
  have hX := hid (Bx.new w 26 #[.slice A n c])
  have hV := ValidMulti_any A n c rows (w.alloc (Obj.cells #[.slice A n c] 26)) hn hl ((hr.below hbx (Nat.le_refl _)).more hbx.size)
  have HR := hid hr
  have HL := hid hlen
  have HB0 := hid hbx
  cases hp : mOk rows with
  | false =>
    rw [hp] at hV
    have hV := hid hV
    have HO : Hid (rSingleOf rows = ([], 1)) := by show _ = _; rw [rSingleOf, hp]; rfl
    clear hr hp hlen hl hbx
    go_enter Try.func53, Try.ntmps53
    go_wp2_with fail
    refine hV.out.mono ?_
    rintro e w1 ⟨rfl, hb1⟩
    have HB1 := hid (bchain HB0.out hb1)
    clear hb1
    go_wp2
    go_ret2
    rw [HO.out]
    exact ⟨LnRes.no _ _ _, HB1.out⟩
  | true =>
    rw [hp] at hV
    have hV := hid hV
    have HO : Hid (rSingleOf rows = if lows rows then (hds rows, 0) else ([], 10)) := by show _ = _; rw [rSingleOf, hp]; rfl
    have hs := msSh_iff.1 (mOk_iff.1 hp).1
    obtain ⟨⟨h1, h12⟩, hst⟩ := hs
    rw [hlen] at h1 h12
    have HST := hid hst
    have hst0 : Hid (hds (rows.take 0) = [] ∧ lows (rows.take 0) = true) := by show _ ∧ _; rw [List.take_zero]; exact ⟨rfl, rfl⟩
    clear hr hp hlen hl hbx hst
    go_enter Try.func53, Try.ntmps53
    go_wp2_with fail
    refine hV.out.mono ?_
    rintro e w1 ⟨rfl, hb1⟩
    have hX1 := hX.out.below hb1 hX.out.lt
    have hB1 := bchain HB0.out hb1
    have x1 := bx_c0 hX1
    have l1 := hX1.lt
    have HX1 := hid hX1
    have HB1 := hid hB1
    clear hV hb1 hX1 hB1
    go_wp2
    go_loopw [4, 14] (fun v i wr => Hid (∃ (k : Nat) (A2 : Option Addr) (c2 : Nat) (out : List Int), k ≤ n ∧ i = .int .i64 k ∧ v = .slice A2 k c2 ∧ out.length = k ∧ Hid (hds (rows.take k) = out ∧ lows (rows.take k) = true) ∧ wr.ownsRow w1.heap.size 2 1 (.slice A2 k c2) k (ints out) ∧ Below w1.heap.size w1 wr)) (fun _ i _ => n - (intOf i).toNat)
    case atStart => exact hid ⟨0, _, _, [], Nat.zero_le _, rfl, rfl, rfl, hst0, World.ownsRow_lit _ _ 0 (Nat.le_refl _) (by simp [maxLen]) rfl, (by repeat' (first | exact Below.refl _ _ | (with_reducible assumption) | (with_reducible refine Below.alloc ?_ ?_ _) | (with_reducible refine Below.setCell ?_ ?_ _) | (with_reducible refine Below.drew ?_) | (with_reducible refine below_drewN ?_ _) | (refine Below.trans ?_ (Below.mono (by assumption) ?_)) | (with_reducible exact Nat.le_refl _) | (with_reducible assumption) | (exact Below.size (by assumption)) | omega | go_size | (simp at *; omega)))⟩
    case round =>
      obtain ⟨k, A2, c2, out, hk, rfl, rfl, ho, hF, hO, hb0⟩ := hrel.out
      clear hrel hst0
      have hz0 := hb0.size
      have xr := bx_c0 (HX1.out.below hb0 HX1.out.lt)
      have hBr := bchain HB1.out hb0
      by_cases hlt : k < n
      · obtain ⟨b, off, row, Ai, ci, rfl, hb, hx, hd, hc, hrow⟩ := HR.out.at_ hlt
        have hm := HST.out row (List.mem_of_getElem? hx)
        have hl4 := (mstOk_iff.1 hm).1
        obtain ⟨bb, ofb, t, rfl, hbb, hxj, hdj, hcj⟩ := hrow.at_ (show 0 < row.length by omega)
        rw [Nat.add_zero] at hcj
        have hcr := (hBr.cell (p := ⟨b, off + k, none⟩) hb).trans hc
        have hct := (hBr.cell (p := ⟨bb, ofb, none⟩) hbb).trans hcj
        have hbw : b < wr.heap.size := by omega
        have hbbw : bb < wr.heap.size := by omega
        obtain ⟨L, hL⟩ : ∃ L, row.length = L := ⟨_, rfl⟩
        rw [hL] at hcr hl4
        have hho : Hid (out.length = k) := ho
        by_cases h1L : 1 < L
        · have HBAD := hid (lows_bad hx (by omega))
          have HBR := hid hBr
          clear hx hd hc hrow hxj hdj hcj hF hO ho hL hb0 hBr hm
          go_wp2
          go_ret2
          rw [HO.out, HBAD.out]
          exact ⟨LnRes.no _ _ _, HBR.out⟩
        · have HST2 := hid (hds_step hx hxj)
          have HST3 := hid (lows_step hx hF.out.2 (by omega))
          have HBR := hid hBr
          have HB0 := hid hb0
          rw [← ho] at hO
          have HF := hid hF.out.1
          clear hx hd hc hrow hxj hdj hcj hF ho hL hb0 hBr hm
          go_wp2_with (at_builtin; refine push_int hO t _ Try.underlying43 inf_int rfl rfl _ _ rfl (by rw [hho.out]; rfl) rfl (by rw [hho.out]; omega) (by omega) ?_; intro v1 w2 ho1 hb1 hg1; rw [List.length_append, List.length_singleton, hho.out] at ho1; obtain ⟨A3, c3, rfl⟩ := own_form ho1)
          have HB2 : Hid (Below w1.heap.size w1 w2) := HB0.out.trans hb1
          go_roundw
          case rel => exact hid ⟨k + 1, A3, c3, out ++ [t], by omega, by go_num, rfl, by rw [List.length_append, hho.out]; rfl, hid ⟨by rw [HST2.out, HF.out], HST3.out⟩, ho1, HB2.out⟩
          case measure => simp [intOf]; omega
      · have hkn : k = n := by omega
        subst hkn
        have hF2 := hF.out
        rw [List.take_of_length_le (by rw [HL.out]; omega)] at hF2
        obtain ⟨h8, h9⟩ := hF2
        have H8 := hid h8
        have H9 := hid h9
        have HOO := hid (own_more hO (Nat.le_of_lt l1))
        have HBR := hid hBr
        have hho : Hid (out.length = k) := ho
        clear h8 h9 hF ho hO hb0 hBr
        go_wp2
        go_ret2
        rw [HO.out, H9.out, H8.out]
        exact ⟨LnRes.mk hho.out HOO.out, HBR.out⟩
set_option maxRecDepth 100000 in
set_option maxHeartbeats 2000000 in
theorem specSingleOf_any (A : Option Addr) (n c : Nat) (rows : List (List Int)) (w : World) (hn : n ≤ 1099511627776) (hl : ∀ r ∈ rows, r.length ≤ 1099511627776) (hr : RdG w w.heap.size A n rows) :
    Calls Try.prog 54 #[.agg #[.slice A n c]] w fun e w' => LnRes w.heap.size (rSingleOf rows) e w' ∧ Below w.heap.size w w' := by
  have hlen := hr.len
  have hbx : Below w.heap.size w (w.alloc (Obj.cells #[.slice A n c] 26)) := (by repeat' (first | exact Below.refl _ _ | (with_reducible assumption) | (with_reducible refine Below.alloc ?_ ?_ _) | (with_reducible refine Below.setCell ?_ ?_ _) | (with_reducible refine Below.drew ?_) | (with_reducible refine below_drewN ?_ _) | (refine Below.trans ?_ (Below.mono (by assumption) ?_)) | (with_reducible exact Nat.le_refl _) | (with_reducible assumption) | (exact Below.size (by assumption)) | omega | go_size | (simp at *; omega)))
  have hX := hid (Bx.new w 26 #[.slice A n c])
  have hV := l04Ok_any w.heap.size A n c rows (w.alloc (Obj.cells #[.slice A n c] 26)) hn hl hX.out ((hr.below hbx (Nat.le_refl _)).more hbx.size)
  have HR := hid hr
  have HL := hid hlen
  have HB0 := hid hbx
  cases hp : mOk rows with
  | false =>
    rw [hp] at hV
    have hV := hid hV
    have HO : Hid (rSingleOf rows = ([], 1)) := by show _ = _; rw [rSingleOf, hp]; rfl
    clear hr hp hlen hl hbx
    go_enter Try.func54, Try.ntmps54
    go_wp2_with fail
    refine hV.out.mono ?_
    rintro e w1 ⟨rfl, hb1⟩
    have HB1 := hid (bchain HB0.out hb1)
    clear hb1
    go_wp2
    go_ret2
    rw [HO.out]
    exact ⟨LnRes.no _ _ _, HB1.out⟩
  | true =>
    rw [hp] at hV
    have hV := hid hV
    have HO : Hid (rSingleOf rows = if lows rows then (hds rows, 0) else ([], 10)) := by show _ = _; rw [rSingleOf, hp]; rfl
    have hs := msSh_iff.1 (mOk_iff.1 hp).1
    obtain ⟨⟨h1, h12⟩, hst⟩ := hs
    rw [hlen] at h1 h12
    have HST := hid hst
    have hst0 : Hid (hds (rows.take 0) = [] ∧ lows (rows.take 0) = true) := by show _ ∧ _; rw [List.take_zero]; exact ⟨rfl, rfl⟩
    clear hr hp hlen hl hbx hst
    go_enter Try.func54, Try.ntmps54
    go_wp2_with fail
    refine hV.out.mono ?_
    rintro e w1 ⟨rfl, hb1⟩
    have hX1 := hX.out.below hb1 hX.out.lt
    have hB1 := bchain HB0.out hb1
    have x1 := bx_c0 hX1
    have l1 := hX1.lt
    have HX1 := hid hX1
    have HB1 := hid hB1
    clear hV hb1 hX1 hB1
    go_wp2
    go_loopw [4, 5] (fun v i wr => Hid (∃ (k : Nat) (A2 : Option Addr) (c2 : Nat) (out : List Int), k ≤ n ∧ i = .int .i64 k ∧ v = .slice A2 k c2 ∧ out.length = k ∧ Hid (hds (rows.take k) = out ∧ lows (rows.take k) = true) ∧ wr.ownsRow w1.heap.size 2 1 (.slice A2 k c2) k (ints out) ∧ Below w1.heap.size w1 wr)) (fun _ i _ => n - (intOf i).toNat)
    case atStart => exact hid ⟨0, _, _, [], Nat.zero_le _, rfl, rfl, rfl, hst0, World.ownsRow_lit _ _ 0 (Nat.le_refl _) (by simp [maxLen]) rfl, (by repeat' (first | exact Below.refl _ _ | (with_reducible assumption) | (with_reducible refine Below.alloc ?_ ?_ _) | (with_reducible refine Below.setCell ?_ ?_ _) | (with_reducible refine Below.drew ?_) | (with_reducible refine below_drewN ?_ _) | (refine Below.trans ?_ (Below.mono (by assumption) ?_)) | (with_reducible exact Nat.le_refl _) | (with_reducible assumption) | (exact Below.size (by assumption)) | omega | go_size | (simp at *; omega)))⟩
    case round =>
      obtain ⟨k, A2, c2, out, hk, rfl, rfl, ho, hF, hO, hb0⟩ := hrel.out
      clear hrel hst0
      have hz0 := hb0.size
      have xr := bx_c0 (HX1.out.below hb0 HX1.out.lt)
      have hBr := bchain HB1.out hb0
      by_cases hlt : k < n
      · obtain ⟨b, off, row, Ai, ci, rfl, hb, hx, hd, hc, hrow⟩ := HR.out.at_ hlt
        have hm := HST.out row (List.mem_of_getElem? hx)
        have hl4 := (mstOk_iff.1 hm).1
        obtain ⟨bb, ofb, t, rfl, hbb, hxj, hdj, hcj⟩ := hrow.at_ (show 0 < row.length by omega)
        rw [Nat.add_zero] at hcj
        have hcr := (hBr.cell (p := ⟨b, off + k, none⟩) hb).trans hc
        have hct := (hBr.cell (p := ⟨bb, ofb, none⟩) hbb).trans hcj
        have hbw : b < wr.heap.size := by omega
        have hbbw : bb < wr.heap.size := by omega
        obtain ⟨L, hL⟩ : ∃ L, row.length = L := ⟨_, rfl⟩
        rw [hL] at hcr hl4
        have hho : Hid (out.length = k) := ho
        by_cases h1L : 1 < L
        · have HBAD := hid (lows_bad hx (by omega))
          have HBR := hid hBr
          clear hx hd hc hrow hxj hdj hcj hF hO ho hL hb0 hBr hm
          go_wp2
          go_ret2
          rw [HO.out, HBAD.out]
          exact ⟨LnRes.no _ _ _, HBR.out⟩
        · have HST2 := hid (hds_step hx hxj)
          have HST3 := hid (lows_step hx hF.out.2 (by omega))
          have HBR := hid hBr
          have HB0 := hid hb0
          rw [← ho] at hO
          have HF := hid hF.out.1
          clear hx hd hc hrow hxj hdj hcj hF ho hL hb0 hBr hm
          go_wp2_with (at_builtin; refine push_int hO t _ Try.underlying43 inf_int rfl rfl _ _ rfl (by rw [hho.out]; rfl) rfl (by rw [hho.out]; omega) (by omega) ?_; intro v1 w2 ho1 hb1 hg1; rw [List.length_append, List.length_singleton, hho.out] at ho1; obtain ⟨A3, c3, rfl⟩ := own_form ho1)
          have HB2 : Hid (Below w1.heap.size w1 w2) := HB0.out.trans hb1
          go_roundw
          case rel => exact hid ⟨k + 1, A3, c3, out ++ [t], by omega, by go_num, rfl, by rw [List.length_append, hho.out]; rfl, hid ⟨by rw [HST2.out, HF.out], HST3.out⟩, ho1, HB2.out⟩
          case measure => simp [intOf]; omega
      · have hkn : k = n := by omega
        subst hkn
        have hF2 := hF.out
        rw [List.take_of_length_le (by rw [HL.out]; omega)] at hF2
        obtain ⟨h8, h9⟩ := hF2
        have H8 := hid h8
        have H9 := hid h9
        have HOO := hid (own_more hO (Nat.le_of_lt l1))
        have HBR := hid hBr
        have hho : Hid (out.length = k) := ho
        clear h8 h9 hF ho hO hb0 hBr
        go_wp2
        go_ret2
        rw [HO.out, H9.out, H8.out]
        exact ⟨LnRes.mk hho.out HOO.out, HBR.out⟩
end Go.Proofs.Ytlbhfjbbkkkldaa

/- Contract of l04Own. -/
namespace Go.Proofs.Ytlbhfjbbkkkldaa
open Go.RowKit
set_option linter.unusedVariables false

theorem take_stepR {rows : List (List Int)} {k : Nat} {r : List Int} (h : rows[k]? = some r) : rows.take (k + 1) = rows.take k ++ [r] := by rw [List.take_add_one, h]; rfl
set_option maxRecDepth 100000 in
set_option maxHeartbeats 4000000 in
theorem l04Own_any (g : Nat) (A : Option Addr) (n c : Nat) (rows : List (List Int)) (w : World) (hn : n ≤ 1000) (hl : ∀ r ∈ rows, 1 ≤ r.length ∧ r.length ≤ 1000) (hx : Bx w g 26 #[.slice A n c]) (hr : RdG w w.heap.size A n rows) :
    Calls Try.prog 123 #[.pointer (some ⟨g, 0, none⟩)] w fun e w' => MsRes w.heap.size rows e w' ∧ Below w.heap.size w w' := by
  have hlen := hr.len
  have hgl := hx.lt
  have HR := hid hr
  have HL := hid hlen
  have HX := hid hx
  have HLL := hid hl
  have hXX : (w.alloc (Obj.cells #[.slice none 0 0] 26)).heap.size = w.heap.size + 1 := by simp
  have hX2 := hid ((Bx.new w 26 #[.slice none 0 0]).alloc (Obj.cells #[.slice none 0 0] 26))
  have hX4 := Bx.new (w.alloc (Obj.cells #[.slice none 0 0] 26)) 26 #[.slice none 0 0]
  rw [hXX] at hX4
  have hX4 := hid hX4
  clear hXX hr hlen hx hl
  go_enter Try.func123, Try.ntmps123
  go_wp2
  go_loopw [4] (fun i wr => Hid (∃ (k : Nat) (A2 : Option Addr) (c2 : Nat), k ≤ n ∧ i = .int .i64 k ∧ Bx wr w.heap.size 26 #[.slice none 0 0] ∧ Bx wr (w.heap.size + 1) 26 #[.slice A2 k c2] ∧ Grid wr (w.heap.size + 1 + 1) wr.heap.size (.slice A2 k c2) (rows.take k) ∧ Below w.heap.size w wr)) (fun i _ => n - (intOf i).toNat)
  case atStart => exact hid ⟨0, none, 0, Nat.zero_le _, rfl, hX2.out, hX4.out, by rw [List.take_zero]; exact Grid.nil _ _ _, (by repeat' (first | exact Below.refl _ _ | (with_reducible assumption) | (with_reducible refine Below.alloc ?_ ?_ _) | (with_reducible refine Below.setCell ?_ ?_ _) | (with_reducible refine Below.drew ?_) | (with_reducible refine below_drewN ?_ _) | (refine Below.trans ?_ (Below.mono (by assumption) ?_)) | (with_reducible exact Nat.le_refl _) | (with_reducible assumption) | (exact Below.size (by assumption)) | omega | go_size | (simp at *; omega)))⟩
  case round =>
    clear hX2 hX4
    obtain ⟨k, A2, c2, hk, rfl, hX2, hX4, hG, hb0⟩ := hrel.out
    clear hrel
    have hz0 := hb0.size
    have hz4 := hX4.lt
    have xm := bx_c0 (HX.out.below hb0 hgl)
    have e2 := bx_c0 hX2
    have f2 := hX2.frozen 0
    have e4 := bx_c0 hX4
    have f4 := hX4.frozen 0
    have hgr : g < wr.heap.size := by omega
    by_cases hlt : k < n
    · obtain ⟨b, off, x, Ax, cx, rfl, hb, hx, hd, hc, hrow⟩ := HR.out.at_ hlt
      have hcr := (hb0.cell (p := ⟨b, off + k, none⟩) hb).trans hc
      have hbw : b < wr.heap.size := by omega
      obtain ⟨hx1, hx2⟩ := HLL.out x (List.mem_of_getElem? hx)
      obtain ⟨pb, po, rfl, _, _⟩ := hrow.2 (by omega)
      obtain ⟨L, hL⟩ : ∃ L, x.length = L := ⟨_, rfl⟩
      have HST := hid (take_stepR hx)
      have HTL : Hid ((rows.take k).length = k) := by show _ = _; rw [List.length_take, HL.out]; omega
      have HL5 : Hid ((rows.take k ++ [x]).length = k + 1) := by show _ = _; rw [List.length_append, HTL.out]; rfl
      have HCA := hid (fun (w1 : World) (b1 : Below wr.heap.size wr w1) => (show w1.cell? ⟨b, off + k, none⟩ = some (.slice (some ⟨pb, po, none⟩) x.length cx) ∧ w1.cell? ⟨g, 0, none⟩ = some (.slice (some ⟨b, off, none⟩) n c) from ⟨(b1.cell (p := ⟨b, off + k, none⟩) hbw).trans hcr, (b1.cell (p := ⟨g, 0, none⟩) hgr).trans xm⟩))
      have HS6 := hid (fun (w' : World) (b1 : Below wr.heap.size wr w') => (l00Own_any (some ⟨pb, po, none⟩) x.length cx x w' (by omega) (fun h => by cases h) ((hrow.below (bchain hb0 b1) (Nat.le_refl _)).more (bchain hb0 b1).size)).mono (fun e w'' h => show ∃ A c, e = .returned (.slice A x.length c) ∧ w''.ownsRow wr.heap.size 2 1 (.slice A x.length c) x.length (ints x) ∧ Below w'.heap.size w' w'' by
        obtain ⟨v, h1, h2, h3⟩ := h
        obtain ⟨A, c, rfl⟩ := own_form h2
        exact ⟨A, c, h1, own_more h2 b1.size, h3⟩))
      have HPG := hid (fun (w1 : World) (b1 : Below (w.heap.size + 1 + 1) wr w1) => (show w1.cell? ⟨w.heap.size + 1, 0, none⟩ = some (.slice A2 k c2) ∧ w1.frozen? ⟨w.heap.size + 1, 0, none⟩ = false from ⟨(hX4.below b1 (by omega)).cell 0, (hX4.below b1 (by omega)).frozen 0⟩))
      have HG := hid hG
      have HX2 := hid hX2
      have HX4 := hid hX4
      have HB := hid hb0
      clear hX2 hX4 hG hb0 hx hd hc hrow hb hL
      go_wp2
      go_region_law (first
        | (refine step_push_row2 w7 43 (by first | rfl | simp) hG7 ho7 hum7 hM7 rfl Try.underlying24 inf_row rfl _ _ rfl (by rw [HTL.out]; rfl) rfl (by rw [HTL.out]; omega) (by omega) ?_; intro v8 w8 hG8 hb8; obtain ⟨A8, c8, rfl⟩ := Grid.formN hG8 HL5.out; have hb8w : Below (w.heap.size + 1 + 1) wr w8 := Below.trans (by repeat' (first | (with_reducible exact hb7m) | (with_reducible refine Below.drew ?_) | (with_reducible refine below_drewN ?_ _) | (with_reducible refine Below.alloc ?_ ?_ _) | omega)) hb8; obtain ⟨xg8, fg8⟩ := HPG.out w8 hb8w; have hzg8 : w.heap.size + 1 < w8.heap.size := World.block_lt_of_cell? w8 (a := ⟨w.heap.size + 1, 0, none⟩) xg8; clear hb8 hG7 ho7 hum7 hM7 hb7m xg7 fg7 xg7a hz7)
        | (go_simp; go_wp2_with (go_at_call 110; with_reducible refine (HS6.out _ ?_).mono ?_; (exact (by repeat' (first | exact Below.refl _ _ | (with_reducible assumption) | (with_reducible refine Below.alloc ?_ ?_ _) | (with_reducible refine Below.setCell ?_ ?_ _) | (with_reducible refine Below.drew ?_) | (with_reducible refine below_drewN ?_ _) | (refine Below.trans ?_ (Below.mono (by assumption) ?_)) | (with_reducible exact Nat.le_refl _) | (with_reducible assumption) | (exact Below.size (by assumption)) | omega | go_size | (simp at *; omega)))); rintro e w7 ⟨A7, c7, rfl, ho7, hb7⟩; have hb7w := bchain (show Below wr.heap.size wr _ by repeat' (first | (with_reducible exact Below.refl _ _) | (with_reducible refine Below.drew ?_) | (with_reducible refine below_drewN ?_ _))) hb7; have hz7 := hb7w.size; have hG7 := Grid.fitv (HG.out.below hb7w) HTL.out; have hum7 := own_ge ho7 (Nat.le_refl _); have ho7 := own_more ho7 (show w.heap.size + 1 + 1 ≤ _ by omega); have hM7 := hz7; have hb7m := Below.mono hb7w (show w.heap.size + 1 + 1 ≤ wr.heap.size by omega); obtain ⟨xg7, fg7⟩ := HPG.out w7 hb7m; have xg7a := (HPG.out (w7.alloc (Obj.cells #[.slice A7 x.length c7] 43)) (Below.alloc hb7m (by omega) _)).1; clear hb7)))
      all_goals
        rw [← HST.out] at hG8
        have HG8 := hid (hG8.setk (p := ⟨w.heap.size + 1, 0, none⟩) (by show w.heap.size + 1 < _; omega) (.slice A8 (k + 1) c8)).size
        have HX8 := hid ((HX4.out.below hb8w (by omega)).set_ 0 (.slice A8 (k + 1) c8))
        have HX9 := hid ((HX2.out.below hb8w (by omega)).far (p := ⟨w.heap.size + 1, 0, none⟩) (by simp) (.slice A8 (k + 1) c8))
        have HB8 : Hid (Below w.heap.size w w8) := HB.out.trans (Below.mono hb8w (by omega))
        clear hG8 hb8w HST HL5 HS6 HPG HCA HG HX2 HX4 HB
        go_wp2
        go_roundw
        case rel => exact hid ⟨k + 1, A8, c8, by omega, by go_num, HX9.out, HX8.out, HG8.out, (by repeat' (first | exact Below.refl _ _ | (with_reducible assumption) | (with_reducible refine Below.alloc ?_ ?_ _) | (with_reducible refine Below.setCell ?_ ?_ _) | (with_reducible refine Below.drew ?_) | (with_reducible refine below_drewN ?_ _) | (refine Below.trans ?_ (Below.mono (by assumption) ?_)) | (with_reducible exact Nat.le_refl _) | (with_reducible assumption) | (exact Below.size (by assumption)) | omega | go_size | (simp at *; omega)))⟩
        case measure => simp [intOf]; omega
    · have hkn : k = n := by omega
      have hE : rows.take k = rows := by rw [List.take_of_length_le (by rw [HL.out]; omega)]
      rw [hE] at hG
      have HG := hid (MsRes.mk (HL.out.trans hkn.symm) ((hG.setk (p := ⟨w.heap.size, 0, none⟩) (by show w.heap.size < _; omega) (.slice A2 k c2)).more (show w.heap.size ≤ w.heap.size + 1 + 1 by omega)).size)
      clear hE hkn hX2 hX4 hG
      go_wp2
      refine bodyPost_ret (v := .agg #[.slice A2 k c2]) ?_ rfl ?_
      · simp (maxDischargeDepth := 8) [results, Try.results123, go_sem, *]
      exact ⟨HG.out, (by repeat' (first | exact Below.refl _ _ | (with_reducible assumption) | (with_reducible refine Below.alloc ?_ ?_ _) | (with_reducible refine Below.setCell ?_ ?_ _) | (with_reducible refine Below.drew ?_) | (with_reducible refine below_drewN ?_ _) | (refine Below.trans ?_ (Below.mono (by assumption) ?_)) | (with_reducible exact Nat.le_refl _) | (with_reducible assumption) | (exact Below.size (by assumption)) | omega | go_size | (simp at *; omega)))⟩
end Go.Proofs.Ytlbhfjbbkkkldaa

/- Contracts of RotateMulti, impl's and the reference's. -/
namespace Go.Proofs.Ytlbhfjbbkkkldaa
open Go.RowKit
set_option linter.unusedVariables false

def rotN (rows : List (List Int)) (q : Nat) : List (List Int) := (List.range rows.length).map fun i => rows.getD ((i + q) % rows.length) []
def rRotate (rows : List (List Int)) (by_ : Int) : List (List Int) × Int := if mOk rows then (rotN rows (by_ % (rows.length : Int)).toNat, 0) else ([], 1)
theorem rotN_len (rows : List (List Int)) (q : Nat) : (rotN rows q).length = rows.length := by simp [rotN]
theorem rotN_at {rows : List (List Int)} {q i : Nat} {r : List Int} (hi : i < rows.length) (h : rows[(i + q) % rows.length]? = some r) : (rotN rows q)[i]? = some r := by
  unfold rotN
  rw [List.getElem?_map, List.getElem?_range hi, Option.map_some, List.getD_eq_getElem?_getD, h]; rfl
theorem rotN_mem {rows : List (List Int)} {q : Nat} {r : List Int} (h : r ∈ rotN rows q) : r ∈ rows := by
  obtain ⟨i, hi, rfl⟩ := List.mem_map.1 h
  have hi := List.mem_range.1 hi
  have hj : (i + q) % rows.length < rows.length := Nat.mod_lt _ (by omega)
  rw [List.getD_eq_getElem?_getD, List.getElem?_eq_getElem hj]
  exact List.getElem_mem hj
set_option maxRecDepth 100000 in
set_option maxHeartbeats 4000000 in
theorem specRotateMulti_any (A : Option Addr) (n c : Nat) (rows : List (List Int)) (by_ : Int) (w : World) (hby : -9223372036854775808 ≤ by_ ∧ by_ ≤ 9223372036854775807) (hn : n ≤ 1000) (hl : ∀ r ∈ rows, r.length ≤ 1000) (hr : RdG w w.heap.size A n rows) :
    Calls Try.prog 57 #[.agg #[.slice A n c], .int .i64 by_] w fun e w' => AmRes w.heap.size (rRotate rows by_) e w' ∧ Below w.heap.size w w' := by
  have hlen := hr.len
  obtain ⟨W, hW⟩ : ∃ W, (w.alloc (Obj.cells #[.slice A n c] 26)).alloc (Obj.cells #[.slice none 0 0] 26) = W := ⟨_, rfl⟩
  have hbW : Below w.heap.size w W := by rw [← hW]; exact (by repeat' (first | exact Below.refl _ _ | (with_reducible assumption) | (with_reducible refine Below.alloc ?_ ?_ _) | (with_reducible refine Below.setCell ?_ ?_ _) | (with_reducible refine Below.drew ?_) | (with_reducible refine below_drewN ?_ _) | (refine Below.trans ?_ (Below.mono (by assumption) ?_)) | (with_reducible exact Nat.le_refl _) | (with_reducible assumption) | (exact Below.size (by assumption)) | omega | go_size | (simp at *; omega)))
  have hXA : Bx W w.heap.size 26 #[.slice A n c] := by rw [← hW]; exact (Bx.new _ _ _).alloc _
  have hXR : Bx W (w.heap.size + 1) 26 #[.slice none 0 0] := by
    have h := Bx.new (w.alloc (Obj.cells #[.slice A n c] 26)) 26 #[.slice none 0 0]
    rw [World.size_alloc] at h
    rw [← hW]; exact h
  have HV := l04Ok_any w.heap.size A n c rows W (by omega) (fun r hr => by have := hl r hr; omega) hXA ((hr.below hbW (Nat.le_refl _)).more hbW.size)
  have HR := hid hr
  have HL := hid hlen
  have HBW := hid hbW
  have HXA := hid hXA
  have HXR := hid hXR
  rw [← hW] at HV HBW HXA HXR
  cases hp : mOk rows with
  | false =>
    rw [hp] at HV
    have HV := hid HV
    have HO : Hid (rRotate rows by_ = ([], 1)) := by show _ = _; rw [rRotate, hp]; rfl
    clear hr hp hlen hl hbW hXA hXR hW W
    go_enter Try.func57, Try.ntmps57
    go_wp2_with fail
    refine HV.out.mono ?_
    rintro e w1 ⟨rfl, hb1⟩
    have HB1 := hid (bchain HBW.out hb1)
    have hXR1 := HXR.out.below hb1 HXR.out.lt
    have x1 := bx_c0 hXR1
    have f1 := hXR1.frozen 0
    clear hb1 hXR1
    go_wp2
    refine bodyPost_ret (v := .tuple #[.agg #[.slice none 0 0], .int .i64 1]) ?_ rfl ?_
    · simp (maxDischargeDepth := 8) [results, Try.results57, go_sem, *]
    rw [HO.out]
    have hb := HB1.out
    exact ⟨AmRes.no _ _ _, (by repeat' (first | exact Below.refl _ _ | (with_reducible assumption) | (with_reducible refine Below.alloc ?_ ?_ _) | (with_reducible refine Below.setCell ?_ ?_ _) | (with_reducible refine Below.drew ?_) | (with_reducible refine below_drewN ?_ _) | (refine Below.trans ?_ (Below.mono (by assumption) ?_)) | (with_reducible exact Nat.le_refl _) | (with_reducible assumption) | (exact Below.size (by assumption)) | omega | go_size | (simp at *; omega)))⟩
  | true =>
    rw [hp] at HV
    have HV := hid HV
    obtain ⟨⟨hn1, hn12⟩, hst⟩ := msSh_iff.1 (mOk_iff.1 hp).1
    rw [hlen] at hn1 hn12
    obtain ⟨q, hq⟩ : ∃ q : Nat, by_ % (n : Int) = (q : Int) := ⟨(by_ % (n : Int)).toNat, by have := Int.emod_nonneg by_ (show (n : Int) ≠ 0 by omega); omega⟩
    have hqn : q < n := by have := Int.emod_lt_of_pos by_ (show (0 : Int) < n by omega); omega
    have HO : Hid (rRotate rows by_ = (rotN rows q, 0)) := by show _ = _; rw [rRotate, hp, hlen, hq]; rfl
    have hT := tmod_lo by_ (n : Int) (by omega)
    have hq0 : (by_.tmod (n : Int) + (n : Int)) % (n : Int) = (q : Int) := by rw [mod_eq _ _ (by omega), hq]
    have hq1 : (by_.tmod (n : Int) + (n : Int)).tmod (n : Int) = (q : Int) := by rw [Int.tmod_eq_emod_of_nonneg (by omega), hq0]
    have HST0 := hid hst
    have HQL : Hid ((rotN rows q).length = n) := by show _ = _; rw [rotN_len, hlen]
    have hst0 : Hid ((rotN rows q).take 0 = []) := List.take_zero
    obtain ⟨ht1, ht2⟩ := hT
    have HQ := hid hq
    clear hr hp hlen hl hbW hXA hXR hW W hst hq0 hq
    go_enter Try.func57, Try.ntmps57
    go_wp2_with fail
    refine HV.out.mono ?_
    rintro e w1 ⟨rfl, hb1⟩
    have HB1 := hid (bchain HBW.out hb1)
    have HXA1 := hid (HXA.out.below hb1 HXA.out.lt)
    have HXR1 := hid (HXR.out.below hb1 HXR.out.lt)
    have xa := bx_c0 HXA1.out
    have la := HXA1.out.lt
    have lr := HXR1.out.lt
    clear hb1 HV HBW HXA HXR
    go_wp2
    go_loopw [8] (fun i wr => Hid (∃ (k : Nat) (A2 : Option Addr) (c2 : Nat), k ≤ n ∧ i = .int .i64 k ∧ Bx wr w1.heap.size 26 #[.slice A2 k c2] ∧ Grid wr (w1.heap.size + 1) wr.heap.size (.slice A2 k c2) ((rotN rows q).take k) ∧ Below w1.heap.size w1 wr)) (fun i _ => n - (intOf i).toNat)
    case atStart => exact hid ⟨0, none, 0, Nat.zero_le _, rfl, Bx.new _ _ _, by rw [hst0.out]; exact Grid.nil _ _ _, (by repeat' (first | exact Below.refl _ _ | (with_reducible assumption) | (with_reducible refine Below.alloc ?_ ?_ _) | (with_reducible refine Below.setCell ?_ ?_ _) | (with_reducible refine Below.drew ?_) | (with_reducible refine below_drewN ?_ _) | (refine Below.trans ?_ (Below.mono (by assumption) ?_)) | (with_reducible exact Nat.le_refl _) | (with_reducible assumption) | (exact Below.size (by assumption)) | omega | go_size | (simp at *; omega)))⟩
    case round =>
      clear hst0
      obtain ⟨k, A2, c2, hk, rfl, hX4, hG, hb0⟩ := hrel.out
      clear hrel
      have hz0 := hb0.size
      have hz4 := hX4.lt
      have hBr := bchain HB1.out hb0
      have xm := bx_c0 (HXA1.out.below hb0 HXA1.out.lt)
      have hXR := HXR1.out.below hb0 HXR1.out.lt
      have e2 := bx_c0 hXR
      have f2 := hXR.frozen 0
      have e4 := bx_c0 hX4
      have f4 := hX4.frozen 0
      have hgr : w.heap.size < wr.heap.size := by omega
      by_cases hlt : k < n
      · obtain ⟨j, hj⟩ : ∃ j, (k + q) % n = j := ⟨_, rfl⟩
        have hjn : j < n := by rw [← hj]; exact Nat.mod_lt _ (by omega)
        have hj1 : ((k : Int) + (q : Int)).tmod (n : Int) = (j : Int) := by rw [Int.tmod_eq_emod_of_nonneg (by omega), ← hj]; simp
        obtain ⟨b, off, x, Ax, cx, rfl, hb, hx, hd, hc, hrow⟩ := HR.out.at_ hjn
        have hcr := (hBr.cell (p := ⟨b, off + j, none⟩) hb).trans hc
        have hbw : b < wr.heap.size := by omega
        have hm4 := (mstOk_iff.1 (HST0.out x (List.mem_of_getElem? hx))).1
        obtain ⟨hx1, hx2⟩ := hm4
        obtain ⟨pb, po, rfl, _, _⟩ := hrow.2 (by omega)
        have HST := hid (take_stepR (rotN_at (q := q) (i := k) (by rw [HL.out]; exact hlt) (by rw [HL.out, hj]; exact hx)))
        have HTL : Hid (((rotN rows q).take k).length = k) := by show _ = _; rw [List.length_take, HQL.out]; omega
        have HL5 : Hid (((rotN rows q).take k ++ [x]).length = k + 1) := by show _ = _; rw [List.length_append, HTL.out]; rfl
        have HCA := hid (fun (w2 : World) (b1 : Below wr.heap.size wr w2) => (show w2.cell? ⟨b, off + j, none⟩ = some (.slice (some ⟨pb, po, none⟩) x.length cx) ∧ w2.cell? ⟨w.heap.size, 0, none⟩ = some (.slice (some ⟨b, off, none⟩) n c) from ⟨(b1.cell (p := ⟨b, off + j, none⟩) hbw).trans hcr, (b1.cell (p := ⟨w.heap.size, 0, none⟩) hgr).trans xm⟩))
        have HS6 := hid (fun (w' : World) (b1 : Below wr.heap.size wr w') => (l00Own_any (some ⟨pb, po, none⟩) x.length cx x w' (by omega) (fun h => by cases h) ((hrow.below (bchain hBr b1) (Nat.le_refl _)).more (bchain hBr b1).size)).mono (fun e w'' h => show ∃ A c, e = .returned (.slice A x.length c) ∧ w''.ownsRow wr.heap.size 2 1 (.slice A x.length c) x.length (ints x) ∧ Below w'.heap.size w' w'' by
          obtain ⟨v, h1, h2, h3⟩ := h
          obtain ⟨A, c, rfl⟩ := own_form h2
          exact ⟨A, c, h1, own_more h2 b1.size, h3⟩))
        have HPG := hid (fun (w2 : World) (b1 : Below (w1.heap.size + 1) wr w2) => (show w2.cell? ⟨w1.heap.size, 0, none⟩ = some (.slice A2 k c2) ∧ w2.frozen? ⟨w1.heap.size, 0, none⟩ = false from ⟨(hX4.below b1 (by omega)).cell 0, (hX4.below b1 (by omega)).frozen 0⟩))
        have HG := hid hG
        have HX4 := hid hX4
        have HB := hid hb0
        clear hX4 hG hb0 hx hd hc hrow hb hj hBr hXR
        go_wp2
        go_region_law (first
          | (refine step_push_row2 w7 43 (by first | rfl | simp) hG7 ho7 hum7 hM7 rfl Try.underlying24 inf_row rfl _ _ rfl (by rw [HTL.out]; rfl) rfl (by rw [HTL.out]; omega) (by omega) ?_; intro v8 w8 hG8 hb8; obtain ⟨A8, c8, rfl⟩ := Grid.formN hG8 HL5.out; have hb8w : Below (w1.heap.size + 1) wr w8 := Below.trans (by repeat' (first | (with_reducible exact hb7m) | (with_reducible refine Below.drew ?_) | (with_reducible refine below_drewN ?_ _) | (with_reducible refine Below.alloc ?_ ?_ _) | omega)) hb8; obtain ⟨xg8, fg8⟩ := HPG.out w8 hb8w; have hzg8 : w1.heap.size < w8.heap.size := World.block_lt_of_cell? w8 (a := ⟨w1.heap.size, 0, none⟩) xg8; clear hb8 hG7 ho7 hum7 hM7 hb7m xg7 fg7 xg7a hz7)
          | (go_simp; go_wp2_with (go_at_call 110; with_reducible refine (HS6.out _ ?_).mono ?_; (exact (by repeat' (first | exact Below.refl _ _ | (with_reducible assumption) | (with_reducible refine Below.alloc ?_ ?_ _) | (with_reducible refine Below.setCell ?_ ?_ _) | (with_reducible refine Below.drew ?_) | (with_reducible refine below_drewN ?_ _) | (refine Below.trans ?_ (Below.mono (by assumption) ?_)) | (with_reducible exact Nat.le_refl _) | (with_reducible assumption) | (exact Below.size (by assumption)) | omega | go_size | (simp at *; omega)))); rintro e w7 ⟨A7, c7, rfl, ho7, hb7⟩; have hb7w := bchain (show Below wr.heap.size wr _ by repeat' (first | (with_reducible exact Below.refl _ _) | (with_reducible refine Below.drew ?_) | (with_reducible refine below_drewN ?_ _))) hb7; have hz7 := hb7w.size; have hG7 := Grid.fitv (HG.out.below hb7w) HTL.out; have hum7 := own_ge ho7 (Nat.le_refl _); have ho7 := own_more ho7 (show w1.heap.size + 1 ≤ _ by omega); have hM7 := hz7; have hb7m := Below.mono hb7w (show w1.heap.size + 1 ≤ wr.heap.size by omega); obtain ⟨xg7, fg7⟩ := HPG.out w7 hb7m; have xg7a := (HPG.out (w7.alloc (Obj.cells #[.slice A7 x.length c7] 43)) (Below.alloc hb7m (by omega) _)).1; clear hb7)))
        all_goals
          rw [← HST.out] at hG8
          have HG8 := hid (hG8.setk (p := ⟨w1.heap.size, 0, none⟩) (by show w1.heap.size < _; omega) (.slice A8 (k + 1) c8)).size
          have HX8 := hid ((HX4.out.below hb8w (by omega)).set_ 0 (.slice A8 (k + 1) c8))
          have HB8 : Hid (Below w1.heap.size w1 w8) := HB.out.trans (Below.mono hb8w (by omega))
          clear hG8 hb8w HST HL5 HS6 HPG HCA HG HX4 HB
          go_wp2
          go_roundw
          case rel => exact hid ⟨k + 1, A8, c8, by omega, by go_num, HX8.out, HG8.out, (by repeat' (first | exact Below.refl _ _ | (with_reducible assumption) | (with_reducible refine Below.alloc ?_ ?_ _) | (with_reducible refine Below.setCell ?_ ?_ _) | (with_reducible refine Below.drew ?_) | (with_reducible refine below_drewN ?_ _) | (refine Below.trans ?_ (Below.mono (by assumption) ?_)) | (with_reducible exact Nat.le_refl _) | (with_reducible assumption) | (exact Below.size (by assumption)) | omega | go_size | (simp at *; omega)))⟩
          case measure => simp [intOf]; omega
      · have hkn : k = n := by omega
        have hE : (rotN rows q).take k = rotN rows q := by rw [List.take_of_length_le (by rw [HQL.out]; omega)]
        rw [hE] at hG
        have hG2 := hG.setk (p := ⟨w.heap.size + 1, 0, none⟩) (by show w.heap.size + 1 < _; omega) (.slice A2 k c2)
        have HG := hid (hG2.more (show w.heap.size ≤ w1.heap.size + 1 by omega)).size
        have HLK : Hid ((rotN rows q).length = k) := HQL.out.trans hkn.symm
        clear hE hkn hX4 hG hG2 hXR
        go_wp2
        refine bodyPost_ret (v := .tuple #[.agg #[.slice A2 k c2], .int .i64 0]) ?_ rfl ?_
        · simp (maxDischargeDepth := 8) [results, Try.results57, go_sem, *]
        rw [HO.out]
        exact ⟨AmRes.mk HLK.out HG.out, (by repeat' (first | exact Below.refl _ _ | (with_reducible assumption) | (with_reducible refine Below.alloc ?_ ?_ _) | (with_reducible refine Below.setCell ?_ ?_ _) | (with_reducible refine Below.drew ?_) | (with_reducible refine below_drewN ?_ _) | (refine Below.trans ?_ (Below.mono (by assumption) ?_)) | (with_reducible exact Nat.le_refl _) | (with_reducible assumption) | (exact Below.size (by assumption)) | omega | go_size | (simp at *; omega)))⟩
set_option maxRecDepth 100000 in
set_option maxHeartbeats 4000000 in
theorem RotateMulti_any (A : Option Addr) (n c : Nat) (rows : List (List Int)) (by_ : Int) (w : World) (hby : -9223372036854775808 ≤ by_ ∧ by_ ≤ 9223372036854775807) (hn : n ≤ 1000) (hl : ∀ r ∈ rows, r.length ≤ 1000) (hr : RdG w w.heap.size A n rows) :
    Calls Try.prog 56 #[.agg #[.slice A n c], .int .i64 by_] w fun e w' => AmRes w.heap.size (rRotate rows by_) e w' ∧ Below w.heap.size w w' := by
  have hlen := hr.len
  obtain ⟨W, hW⟩ : ∃ W, (w.alloc (Obj.cells #[.slice A n c] 26)).alloc (Obj.cells #[.slice none 0 0] 26) = W := ⟨_, rfl⟩
  have hbW : Below w.heap.size w W := by rw [← hW]; exact (by repeat' (first | exact Below.refl _ _ | (with_reducible assumption) | (with_reducible refine Below.alloc ?_ ?_ _) | (with_reducible refine Below.setCell ?_ ?_ _) | (with_reducible refine Below.drew ?_) | (with_reducible refine below_drewN ?_ _) | (refine Below.trans ?_ (Below.mono (by assumption) ?_)) | (with_reducible exact Nat.le_refl _) | (with_reducible assumption) | (exact Below.size (by assumption)) | omega | go_size | (simp at *; omega)))
  have hXA : Bx W w.heap.size 26 #[.slice A n c] := by rw [← hW]; exact (Bx.new _ _ _).alloc _
  have hXR : Bx W (w.heap.size + 1) 26 #[.slice none 0 0] := by
    have h := Bx.new (w.alloc (Obj.cells #[.slice A n c] 26)) 26 #[.slice none 0 0]
    rw [World.size_alloc] at h
    rw [← hW]; exact h
  have HV := ValidMulti_any A n c rows W (by omega) (fun r hr => by have := hl r hr; omega) ((hr.below hbW (Nat.le_refl _)).more hbW.size)
  have HR := hid hr
  have HL := hid hlen
  have HBW := hid hbW
  have HXA := hid hXA
  have HXR := hid hXR
  rw [← hW] at HV HBW HXA HXR
  cases hp : mOk rows with
  | false =>
    rw [hp] at HV
    have HV := hid HV
    have HO : Hid (rRotate rows by_ = ([], 1)) := by show _ = _; rw [rRotate, hp]; rfl
    clear hr hp hlen hl hbW hXA hXR hW W
    go_enter Try.func56, Try.ntmps56
    go_wp2_with fail
    refine HV.out.mono ?_
    rintro e w1 ⟨rfl, hb1⟩
    have HB1 := hid (bchain HBW.out hb1)
    have hXR1 := HXR.out.below hb1 HXR.out.lt
    have x1 := bx_c0 hXR1
    have f1 := hXR1.frozen 0
    clear hb1 hXR1
    go_wp2
    refine bodyPost_ret (v := .tuple #[.agg #[.slice none 0 0], .int .i64 1]) ?_ rfl ?_
    · simp (maxDischargeDepth := 8) [results, Try.results56, go_sem, *]
    rw [HO.out]
    have hb := HB1.out
    exact ⟨AmRes.no _ _ _, (by repeat' (first | exact Below.refl _ _ | (with_reducible assumption) | (with_reducible refine Below.alloc ?_ ?_ _) | (with_reducible refine Below.setCell ?_ ?_ _) | (with_reducible refine Below.drew ?_) | (with_reducible refine below_drewN ?_ _) | (refine Below.trans ?_ (Below.mono (by assumption) ?_)) | (with_reducible exact Nat.le_refl _) | (with_reducible assumption) | (exact Below.size (by assumption)) | omega | go_size | (simp at *; omega)))⟩
  | true =>
    rw [hp] at HV
    have HV := hid HV
    obtain ⟨⟨hn1, hn12⟩, hst⟩ := msSh_iff.1 (mOk_iff.1 hp).1
    rw [hlen] at hn1 hn12
    obtain ⟨q, hq⟩ : ∃ q : Nat, by_ % (n : Int) = (q : Int) := ⟨(by_ % (n : Int)).toNat, by have := Int.emod_nonneg by_ (show (n : Int) ≠ 0 by omega); omega⟩
    have hqn : q < n := by have := Int.emod_lt_of_pos by_ (show (0 : Int) < n by omega); omega
    have HO : Hid (rRotate rows by_ = (rotN rows q, 0)) := by show _ = _; rw [rRotate, hp, hlen, hq]; rfl
    have hT := tmod_lo by_ (n : Int) (by omega)
    have hq0 : (by_.tmod (n : Int) + (n : Int)) % (n : Int) = (q : Int) := by rw [mod_eq _ _ (by omega), hq]
    have hq1 : (by_.tmod (n : Int) + (n : Int)).tmod (n : Int) = (q : Int) := by rw [Int.tmod_eq_emod_of_nonneg (by omega), hq0]
    have HST0 := hid hst
    have HMOD := hid (fun (w9 : World) => by have h := modulo_any by_ (n : Int) w9 (by omega) (by omega); rw [hq] at h; exact h)
    have HQL : Hid ((rotN rows q).length = n) := by show _ = _; rw [rotN_len, hlen]
    have hst0 : Hid ((rotN rows q).take 0 = []) := List.take_zero
    obtain ⟨ht1, ht2⟩ := hT
    have HQ := hid hq
    clear hr hp hlen hl hbW hXA hXR hW W hst hq0 hq
    go_enter Try.func56, Try.ntmps56
    go_wp2_with fail
    refine HV.out.mono ?_
    rintro e w1 ⟨rfl, hb1⟩
    have HB1 := hid (bchain HBW.out hb1)
    have HXA1 := hid (HXA.out.below hb1 HXA.out.lt)
    have HXR1 := hid (HXR.out.below hb1 HXR.out.lt)
    have xa := bx_c0 HXA1.out
    have la := HXA1.out.lt
    have lr := HXR1.out.lt
    clear hb1 HV HBW HXA HXR
    go_wp2
    go_loopw [18] (fun i wr => Hid (∃ (k : Nat) (A2 : Option Addr) (c2 : Nat), k ≤ n ∧ i = .int .i64 k ∧ Bx wr w1.heap.size 26 #[.slice A2 k c2] ∧ Grid wr (w1.heap.size + 1) wr.heap.size (.slice A2 k c2) ((rotN rows q).take k) ∧ Below w1.heap.size w1 wr)) (fun i _ => n - (intOf i).toNat)
    case atStart => exact hid ⟨0, none, 0, Nat.zero_le _, rfl, Bx.new _ _ _, by rw [hst0.out]; exact Grid.nil _ _ _, (by repeat' (first | exact Below.refl _ _ | (with_reducible assumption) | (with_reducible refine Below.alloc ?_ ?_ _) | (with_reducible refine Below.setCell ?_ ?_ _) | (with_reducible refine Below.drew ?_) | (with_reducible refine below_drewN ?_ _) | (refine Below.trans ?_ (Below.mono (by assumption) ?_)) | (with_reducible exact Nat.le_refl _) | (with_reducible assumption) | (exact Below.size (by assumption)) | omega | go_size | (simp at *; omega)))⟩
    case round =>
      clear hst0
      obtain ⟨k, A2, c2, hk, rfl, hX4, hG, hb0⟩ := hrel.out
      clear hrel
      have hz0 := hb0.size
      have hz4 := hX4.lt
      have hBr := bchain HB1.out hb0
      have xm := bx_c0 (HXA1.out.below hb0 HXA1.out.lt)
      have hXR := HXR1.out.below hb0 HXR1.out.lt
      have e2 := bx_c0 hXR
      have f2 := hXR.frozen 0
      have e4 := bx_c0 hX4
      have f4 := hX4.frozen 0
      have hgr : w.heap.size < wr.heap.size := by omega
      by_cases hlt : k < n
      · obtain ⟨j, hj⟩ : ∃ j, (k + q) % n = j := ⟨_, rfl⟩
        have hjn : j < n := by rw [← hj]; exact Nat.mod_lt _ (by omega)
        have hj1 : ((k : Int) + (q : Int)).tmod (n : Int) = (j : Int) := by rw [Int.tmod_eq_emod_of_nonneg (by omega), ← hj]; simp
        have hwq : IntKind.i64.wrap ((k : Int) + (q : Int)) = (k : Int) + (q : Int) := IntWalk.i64_in _ (by omega)
        have hn0 : n ≠ 0 := by omega
        obtain ⟨b, off, x, Ax, cx, rfl, hb, hx, hd, hc, hrow⟩ := HR.out.at_ hjn
        have hcr := (hBr.cell (p := ⟨b, off + j, none⟩) hb).trans hc
        have hbw : b < wr.heap.size := by omega
        have hm4 := (mstOk_iff.1 (HST0.out x (List.mem_of_getElem? hx))).1
        obtain ⟨hx1, hx2⟩ := hm4
        obtain ⟨pb, po, rfl, _, _⟩ := hrow.2 (by omega)
        have HST := hid (take_stepR (rotN_at (q := q) (i := k) (by rw [HL.out]; exact hlt) (by rw [HL.out, hj]; exact hx)))
        have HTL : Hid (((rotN rows q).take k).length = k) := by show _ = _; rw [List.length_take, HQL.out]; omega
        have HL5 : Hid (((rotN rows q).take k ++ [x]).length = k + 1) := by show _ = _; rw [List.length_append, HTL.out]; rfl
        have HCA := hid (fun (w2 : World) (b1 : Below wr.heap.size wr w2) => (show w2.cell? ⟨b, off + j, none⟩ = some (.slice (some ⟨pb, po, none⟩) x.length cx) ∧ w2.cell? ⟨w.heap.size, 0, none⟩ = some (.slice (some ⟨b, off, none⟩) n c) from ⟨(b1.cell (p := ⟨b, off + j, none⟩) hbw).trans hcr, (b1.cell (p := ⟨w.heap.size, 0, none⟩) hgr).trans xm⟩))
        have HS6 := hid (fun (w' : World) (b1 : Below wr.heap.size wr w') => (copyNumbers_any (some ⟨pb, po, none⟩) x.length cx x w' (by omega) (fun h => by cases h) ((hrow.below (bchain hBr b1) (Nat.le_refl _)).more (bchain hBr b1).size)).mono (fun e w'' h => show ∃ A c, e = .returned (.slice A x.length c) ∧ w''.ownsRow wr.heap.size 2 1 (.slice A x.length c) x.length (ints x) ∧ Below w'.heap.size w' w'' by
          obtain ⟨v, h1, h2, h3⟩ := h
          obtain ⟨A, c, rfl⟩ := own_form h2
          exact ⟨A, c, h1, own_more h2 b1.size, h3⟩))
        have HPG := hid (fun (w2 : World) (b1 : Below (w1.heap.size + 1) wr w2) => (show w2.cell? ⟨w1.heap.size, 0, none⟩ = some (.slice A2 k c2) ∧ w2.frozen? ⟨w1.heap.size, 0, none⟩ = false from ⟨(hX4.below b1 (by omega)).cell 0, (hX4.below b1 (by omega)).frozen 0⟩))
        have HG := hid hG
        have HX4 := hid hX4
        have HB := hid hb0
        clear hX4 hG hb0 hx hd hc hrow hb hj hBr hXR
        go_wp2
        go_region_law (first
          | (refine step_push_row2 w7 43 (by first | rfl | simp) hG7 ho7 hum7 hM7 rfl Try.underlying24 inf_row rfl _ _ rfl (by rw [HTL.out]; rfl) rfl (by rw [HTL.out]; omega) (by omega) ?_; intro v8 w8 hG8 hb8; obtain ⟨A8, c8, rfl⟩ := Grid.formN hG8 HL5.out; have hb8w : Below (w1.heap.size + 1) wr w8 := Below.trans (by repeat' (first | (with_reducible exact hb7m) | (with_reducible refine Below.drew ?_) | (with_reducible refine below_drewN ?_ _) | (with_reducible refine Below.alloc ?_ ?_ _) | omega)) hb8; obtain ⟨xg8, fg8⟩ := HPG.out w8 hb8w; have hzg8 : w1.heap.size < w8.heap.size := World.block_lt_of_cell? w8 (a := ⟨w1.heap.size, 0, none⟩) xg8; clear hb8 hG7 ho7 hum7 hM7 hb7m xg7 fg7 xg7a hz7)
          | (go_simp; go_wp2_with (first | (go_at_call 121; refine (HMOD.out _).mono ?_; rintro e w' ⟨rfl, rfl⟩) | (go_at_call 109; with_reducible refine (HS6.out _ ?_).mono ?_; (exact (by repeat' (first | exact Below.refl _ _ | (with_reducible assumption) | (with_reducible refine Below.alloc ?_ ?_ _) | (with_reducible refine Below.setCell ?_ ?_ _) | (with_reducible refine Below.drew ?_) | (with_reducible refine below_drewN ?_ _) | (refine Below.trans ?_ (Below.mono (by assumption) ?_)) | (with_reducible exact Nat.le_refl _) | (with_reducible assumption) | (exact Below.size (by assumption)) | omega | go_size | (simp at *; omega)))); rintro e w7 ⟨A7, c7, rfl, ho7, hb7⟩; have hb7w := bchain (show Below wr.heap.size wr _ by repeat' (first | (with_reducible exact Below.refl _ _) | (with_reducible refine Below.drew ?_) | (with_reducible refine below_drewN ?_ _))) hb7; have hz7 := hb7w.size; have hG7 := Grid.fitv (HG.out.below hb7w) HTL.out; have hum7 := own_ge ho7 (Nat.le_refl _); have ho7 := own_more ho7 (show w1.heap.size + 1 ≤ _ by omega); have hM7 := hz7; have hb7m := Below.mono hb7w (show w1.heap.size + 1 ≤ wr.heap.size by omega); obtain ⟨xg7, fg7⟩ := HPG.out w7 hb7m; have xg7a := (HPG.out (w7.alloc (Obj.cells #[.slice A7 x.length c7] 43)) (Below.alloc hb7m (by omega) _)).1; clear hb7))))
        all_goals
          rw [← HST.out] at hG8
          have HG8 := hid (hG8.setk (p := ⟨w1.heap.size, 0, none⟩) (by show w1.heap.size < _; omega) (.slice A8 (k + 1) c8)).size
          have HX8 := hid ((HX4.out.below hb8w (by omega)).set_ 0 (.slice A8 (k + 1) c8))
          have HB8 : Hid (Below w1.heap.size w1 w8) := HB.out.trans (Below.mono hb8w (by omega))
          clear hG8 hb8w HST HL5 HS6 HPG HCA HG HX4 HB
          go_wp2
          go_roundw
          case rel => exact hid ⟨k + 1, A8, c8, by omega, by go_num, HX8.out, HG8.out, (by repeat' (first | exact Below.refl _ _ | (with_reducible assumption) | (with_reducible refine Below.alloc ?_ ?_ _) | (with_reducible refine Below.setCell ?_ ?_ _) | (with_reducible refine Below.drew ?_) | (with_reducible refine below_drewN ?_ _) | (refine Below.trans ?_ (Below.mono (by assumption) ?_)) | (with_reducible exact Nat.le_refl _) | (with_reducible assumption) | (exact Below.size (by assumption)) | omega | go_size | (simp at *; omega)))⟩
          case measure => simp [intOf]; omega
      · have hkn : k = n := by omega
        have hE : (rotN rows q).take k = rotN rows q := by rw [List.take_of_length_le (by rw [HQL.out]; omega)]
        rw [hE] at hG
        have hG2 := hG.setk (p := ⟨w.heap.size + 1, 0, none⟩) (by show w.heap.size + 1 < _; omega) (.slice A2 k c2)
        have HG := hid (hG2.more (show w.heap.size ≤ w1.heap.size + 1 by omega)).size
        have HLK : Hid ((rotN rows q).length = k) := HQL.out.trans hkn.symm
        clear hE hkn hX4 hG hG2 hXR
        go_wp2
        refine bodyPost_ret (v := .tuple #[.agg #[.slice A2 k c2], .int .i64 0]) ?_ rfl ?_
        · simp (maxDischargeDepth := 8) [results, Try.results56, go_sem, *]
        rw [HO.out]
        exact ⟨AmRes.mk HLK.out HG.out, (by repeat' (first | exact Below.refl _ _ | (with_reducible assumption) | (with_reducible refine Below.alloc ?_ ?_ _) | (with_reducible refine Below.setCell ?_ ?_ _) | (with_reducible refine Below.drew ?_) | (with_reducible refine below_drewN ?_ _) | (refine Below.trans ?_ (Below.mono (by assumption) ?_)) | (with_reducible exact Nat.le_refl _) | (with_reducible assumption) | (exact Below.size (by assumption)) | omega | go_size | (simp at *; omega)))⟩
end Go.Proofs.Ytlbhfjbbkkkldaa

/- Contract of DrawAddMulti. -/
namespace Go.Proofs.Ytlbhfjbbkkkldaa
open Go.RowKit
set_option linter.unusedVariables false

def TwoMb (B : Nat) (w : World) (e : Ending) : Prop := ∃ A1 n1 c1 A2 n2 c2, e = .returned (.tuple #[.agg #[.slice A1 n1 c1], .agg #[.slice A2 n2 c2]]) ∧ Mb B w A1 n1 ∧ Mb B w A2 n2
set_option maxRecDepth 100000 in
set_option maxHeartbeats 2000000 in
theorem DrawAddMulti_any (A : Option Addr) (n c : Nat) (xs : List Int) (w : World) (hn : n ≤ 1099511627776) (hx : ∀ x ∈ xs, 0 ≤ x ∧ x ≤ 255) (hr : Rd w w.heap.size 1 A n (xs.map (Value.int .u8))) :
    Calls Try.prog 39 #[.slice A n c] w fun e w' => TwoMb w.heap.size w' e ∧ Below w.heap.size w w' := by
  obtain ⟨W, hW⟩ : ∃ W, (w.alloc (Obj.cells #[.slice none 0 0] 26)).alloc (Obj.cells #[.slice none 0 0] 26) = W := ⟨_, rfl⟩
  have hB0 : Below w.heap.size w W := by rw [← hW]; exact (by repeat' (first | exact Below.refl _ _ | (with_reducible assumption) | (with_reducible refine Below.alloc ?_ ?_ _) | (with_reducible refine Below.setCell ?_ ?_ _) | (with_reducible refine Below.drew ?_) | (with_reducible refine below_drewN ?_ _) | (refine Below.trans ?_ (Below.mono (by assumption) ?_)) | (with_reducible exact Nat.le_refl _) | (with_reducible assumption) | (exact Below.size (by assumption)) | omega | go_size | (simp at *; omega)))
  have hzz : W.heap.size = w.heap.size + 1 + 1 := by rw [← hW]; simp
  have hX : Bx W w.heap.size 26 #[.slice none 0 0] := by rw [← hW]; exact (Bx.new _ _ _).alloc _
  have hY : Bx W (w.heap.size + 1) 26 #[.slice none 0 0] := by
    have h := Bx.new (w.alloc (Obj.cells #[.slice none 0 0] 26)) 26 #[.slice none 0 0]
    rw [World.size_alloc] at h
    rw [← hW]; exact h
  have h0 := l00From_any A n c xs W hn hx ((hr.below hB0 (Nat.le_refl _)).more hB0.size)
  rw [hzz] at h0
  have HX := hid hX
  have HY := hid hY
  have HB := hid hB0
  rw [← hW] at h0 HX HY HB
  have h0 := hid h0
  clear hx hr hX hY hB0 hzz hW W
  go_enter Try.func39, Try.ntmps39
  go_wp2_with fail
  refine h0.out.mono ?_
  rintro e w1 ⟨rfl, hs1, hb1⟩
  have l1 := hs1.lt
  have hX1 := hid (HX.out.below hb1 (by omega))
  have hY1 := hid (HY.out.below hb1 (by omega))
  have hB1 : Below w.heap.size w w1 := HB.out.trans (hb1.mono (by omega))
  have hS := hid hs1
  clear h0 HX HY HB hs1 hb1
  go_wp2_with fail
  refine (l04Bent_src _ A n c 0 xs w1 (by omega) hS.out).mono ?_
  rintro e w2 ⟨⟨A2, n2, c2, rfl, rows, hm, hn2, hr2⟩, hs2, hg2⟩
  have hX2 := hX1.out.grown hg2 (fun e => by injection e with e; omega)
  have hY2 := hY1.out.grown hg2 (fun e => by injection e with e; omega)
  have hB2 : Below w.heap.size w w2 := hB1.grown hg2 hB1.size (fun g h => by injection h with h; omega)
  have hz2 := hg2.size
  clear hg2 hX1 hY1 hB1 hS
  obtain ⟨W, hW⟩ : ∃ W, w2.alloc (Obj.cells #[.slice A2 n2 c2] 26) = W := ⟨_, rfl⟩
  have hbW : Below w2.heap.size w2 W := by rw [← hW]; exact (by repeat' (first | exact Below.refl _ _ | (with_reducible assumption) | (with_reducible refine Below.alloc ?_ ?_ _) | (with_reducible refine Below.setCell ?_ ?_ _) | (with_reducible refine Below.drew ?_) | (with_reducible refine below_drewN ?_ _) | (refine Below.trans ?_ (Below.mono (by assumption) ?_)) | (with_reducible exact Nat.le_refl _) | (with_reducible assumption) | (exact Below.size (by assumption)) | omega | go_size | (simp at *; omega)))
  have HP : Hid (Bx W w2.heap.size 26 #[.slice A2 n2 c2]) := by rw [← hW]; exact Bx.new _ _ _
  have HM := hid ((hm.below hbW (Nat.le_refl _)).more (Nat.le_refl _) hbW.size)
  have HX2 := hid (hX2.below hbW hX2.lt)
  have HY2 := hid (hY2.below hbW hY2.lt)
  have HB2 := hid (bchain hB2 hbW)
  have HS2 := hid (hs2.below hbW (by omega))
  have HZ : Hid (w2.heap.size < W.heap.size) := HP.out.lt
  rw [← hW] at HP HM HX2 HY2 HB2 HS2 HZ
  have hw2 : w.heap.size + 1 < w2.heap.size := hY2.lt
  have hcn : n2 ≤ 13 := hn2
  have HR := hid hr2
  clear hW hbW hX2 hY2 hB2 hs2 hm hn2 hr2 W
  go_wp2_with fail
  refine (one_src _ A n c (0 + 400) xs 8 _ (by omega) (by omega) HS2.out).mono ?_
  rintro e w3 ⟨⟨b, rfl⟩, hs3, hg3⟩
  have X3 := hid (HX2.out.grown hg3 (fun e => by injection e with e; omega))
  have Y3 := hid (HY2.out.grown hg3 (fun e => by injection e with e; omega))
  have P3 := hid (HP.out.grown hg3 (fun e => by injection e with e; omega))
  have M3 := hid (HM.out.grown hg3 (by omega) (by have := HZ.out; omega))
  have B3 := hid (HB2.out.grown hg3 HB2.out.size (fun g h => by injection h with h; omega))
  have z3 := hg3.size
  have S3 := hid hs3
  have l3 : w2.heap.size < w3.heap.size := P3.out.lt
  clear HX2 HY2 HP HM HB2 HS2 HZ hs3 hg3 z3
  obtain ⟨we, rfl⟩ : ∃ we : World, we = w3 := ⟨_, rfl⟩
  go_upto_if 15 with fail
  go_cut [6] (fun s wx => Hid (wx = we ∧ ∃ (N : Nat), s = .int .i64 (N : Int) ∧ N ≤ 14))
  case first =>
    cases b
    · go_wp2_with fail
      go_meet
      exact hid ⟨rfl, n2, rfl, by omega⟩
    · go_wp2_with fail
      go_meet
      exact hid ⟨rfl, n2 + 1, by go_num, by omega⟩
  case rest =>
    obtain ⟨rfl, N, rfl, hN⟩ := hcut.out
    clear hcut
    go_upto_if 20 with (go_at_call 95; refine (l00In_any _ _ _ _).mono ?_; rintro e w' ⟨rfl, rfl⟩)
    go_cut [6] (fun s wx => Hid (wx = wc ∧ ∃ (M : Nat), s = .int .i64 (M : Int) ∧ 1 ≤ M ∧ M ≤ 12))
    case first =>
      cases hq : betweenB (N : Int) 1 12 with
      | true =>
        have h2 := (betweenB_iff _ _ _).1 hq
        go_wp2_with fail
        go_meet
        exact hid ⟨rfl, N, rfl, by omega, by omega⟩
      | false =>
        go_wp2_with fail
        go_meet
        exact hid ⟨rfl, 2, rfl, by omega, by omega⟩
    case rest =>
      obtain ⟨rfl, M, rfl, hM1, hM2⟩ := hcut.out
      clear hcut hN N
      have HC := hid (fun (W' : World) (b1 : Below wc.heap.size wc W') => (l04Draw_src (w.heap.size + 1 + 1) A n c (0 + 400 + 2) xs M W' (by omega) hM1 (by omega) (S3.out.below b1 (by omega))).mono (fun e w'' h => show ∃ A5 c5, e = .returned (.agg #[.slice A5 M c5]) ∧ Mv wc.heap.size M w'' A5 c5 ∧ wc.grownBy w'' (some (w.heap.size + 1 + 1)) by
        obtain ⟨⟨A5, c5, h1, q, q1, q2, q3⟩, _, h5⟩ := h
        exact ⟨A5, c5, h1, ⟨q, q1.more b1.size, q2, q3⟩, grown_trans (grown_bl (World.grownBy.refl wc (some (w.heap.size + 1 + 1))) b1 (Nat.le_refl _)) h5⟩))
      have HPX := hid (fun (wx : World) (hg : wc.grownBy wx (some (w.heap.size + 1 + 1))) => show Bx wx w.heap.size 26 #[.slice none 0 0] ∧ Bx wx (w.heap.size + 1) 26 #[.slice none 0 0] ∧ Bx wx w2.heap.size 26 #[.slice A2 n2 c2] ∧ RdH wx w1.heap.size (w2.heap.size + 1) A2 n2 rows from ⟨X3.out.grown hg (fun e => by injection e with e; omega), Y3.out.grown hg (fun e => by injection e with e; omega), P3.out.grown hg (fun e => by injection e with e; omega), (M3.out.more (Nat.le_refl _) (by simp)).grown hg (by omega) (by omega)⟩)
      have p0 := bx_c0 P3.out
      go_wp2
      go_region_law (go_simp; go_wp2_with (go_at_call 107; with_reducible refine (HC.out _ ?_).mono ?_; (exact (by repeat' (first | exact Below.refl _ _ | (with_reducible assumption) | (with_reducible refine Below.alloc ?_ ?_ _) | (with_reducible refine Below.setCell ?_ ?_ _) | (with_reducible refine Below.drew ?_) | (with_reducible refine below_drewN ?_ _) | (refine Below.trans ?_ (Below.mono (by assumption) ?_)) | (with_reducible exact Nat.le_refl _) | (with_reducible assumption) | (exact Below.size (by assumption)) | omega | go_size | (simp at *; omega)))); rintro e w5 ⟨A5, c5, rfl, hM5, hg5⟩; obtain ⟨x5, y5, p5, m5⟩ := HPX.out w5 hg5; have u0 := bx_c0 p5; have u1 := bx_c0 x5; have u2 := bx_c0 y5; have u3 := x5.frozen 0; have u4 := y5.frozen 0))
      all_goals
        have hz5 := hg5.size
        have hb5 := hid (B3.out.grown hg5 B3.out.size (fun g h => by injection h with h; omega))
        obtain ⟨W, hW⟩ : ∃ W, (w5.setCell ⟨w.heap.size, 0, none⟩ (.slice A2 n2 c2)).setCell ⟨w.heap.size + 1, 0, none⟩ (.slice A5 M c5) = W := ⟨_, rfl⟩
        have k2 : Bx W w.heap.size 26 #[.slice A2 n2 c2] := by
          rw [← hW]
          exact (x5.set_ 0 _).far (p := ⟨w.heap.size + 1, 0, none⟩) (by show w.heap.size ≠ w.heap.size + 1; omega) _
        have k3 : Bx W (w.heap.size + 1) 26 #[.slice A5 M c5] := by
          rw [← hW]
          exact (y5.far (p := ⟨w.heap.size, 0, none⟩) (by show w.heap.size + 1 ≠ w.heap.size; omega) _).set_ 0 _
        have HB : Hid (Below w.heap.size w W) := by
          rw [← hW]
          exact (hb5.out.setCell (p := ⟨w.heap.size, 0, none⟩) (by show w.heap.size ≤ w.heap.size; omega) _).setCell (p := ⟨w.heap.size + 1, 0, none⟩) (by show w.heap.size ≤ w.heap.size + 1; omega) _
        have hzW : W.heap.size = w5.heap.size := by rw [← hW]; simp
        have H1 : Hid (Mb w.heap.size W A2 n2) := by
          refine ⟨rows, ?_, hcn, HR.out⟩
          rw [hzW, ← hW]
          exact ((m5.setCell (p := ⟨w.heap.size, 0, none⟩) (.inl (by show w.heap.size < w1.heap.size; omega)) _).setCell (p := ⟨w.heap.size + 1, 0, none⟩) (.inl (by show w.heap.size + 1 < w1.heap.size; omega)) _).more (by omega) (by omega)
        have H2 : Hid (Mb w.heap.size W A5 M) := by
          obtain ⟨q, q1, q2, q3⟩ := hM5
          refine ⟨q, ?_, by omega, fun r hr => by have := (q3 r hr).1; omega⟩
          rw [hzW, ← hW]
          exact ((q1.rdH.setCell (p := ⟨w.heap.size, 0, none⟩) (.inl (by show w.heap.size < wc.heap.size; omega)) _).setCell (p := ⟨w.heap.size + 1, 0, none⟩) (.inl (by show w.heap.size + 1 < wc.heap.size; omega)) _).more (by omega) (Nat.le_refl _)
        have r0 := bx_c0 k2
        have r1 := bx_c0 k3
        rw [hW]
        clear hb5 hzW k2 k3 hW hM5 x5 y5 p5 m5 u0 u1 u2 u3 u4 HC HPX
        go_wp2
        refine bodyPost_ret (v := .tuple #[.agg #[.slice A2 n2 c2], .agg #[.slice A5 M c5]]) ?_ rfl ?_
        · simp (maxDischargeDepth := 8) [results, Try.results39, go_sem, *]
        exact ⟨⟨_, _, _, _, _, _, rfl, H1.out, H2.out⟩, HB.out⟩
end Go.Proofs.Ytlbhfjbbkkkldaa

/- Contracts of DrawRotateMulti, DrawSameMulti. -/
namespace Go.Proofs.Ytlbhfjbbkkkldaa
open Go.RowKit
set_option linter.unusedVariables false

def MbInt (B : Nat) (w : World) (e : Ending) : Prop := ∃ A n c by_, e = .returned (.tuple #[.agg #[.slice A n c], .int .i64 by_]) ∧ (-9223372036854775808 ≤ by_ ∧ by_ ≤ 9223372036854775807) ∧ Mb B w A n
theorem ends_in (w : World) (t : TypeId) : ∀ i, i < 2 → ∃ y : Int, (-9223372036854775808 ≤ y ∧ y ≤ 9223372036854775807) ∧ (w.alloc (Obj.cells #[.int .i64 (-9223372036854775808), .int .i64 9223372036854775807] t)).cell? ⟨w.heap.size, 0 + i, none⟩ = some (.int .i64 y) := by
  intro i hi
  match i, hi with
  | 0, _ => exact ⟨-9223372036854775808, by omega, by simp⟩
  | 1, _ => exact ⟨9223372036854775807, by omega, by simp⟩
set_option maxRecDepth 100000 in
set_option maxHeartbeats 2000000 in
theorem DrawRotateMulti_any (A : Option Addr) (n c : Nat) (xs : List Int) (w : World) (hn : n ≤ 1099511627776) (hx : ∀ x ∈ xs, 0 ≤ x ∧ x ≤ 255) (hr : Rd w w.heap.size 1 A n (xs.map (Value.int .u8))) :
    Calls Try.prog 55 #[.slice A n c] w fun e w' => MbInt w.heap.size w' e ∧ Below w.heap.size w w' := by
  have hX := Bx.new w 26 #[.slice none 0 0]
  have hB0 : Below w.heap.size w (w.alloc (Obj.cells #[.slice none 0 0] 26)) := (by repeat' (first | exact Below.refl _ _ | (with_reducible assumption) | (with_reducible refine Below.alloc ?_ ?_ _) | (with_reducible refine Below.setCell ?_ ?_ _) | (with_reducible refine Below.drew ?_) | (with_reducible refine below_drewN ?_ _) | (refine Below.trans ?_ (Below.mono (by assumption) ?_)) | (with_reducible exact Nat.le_refl _) | (with_reducible assumption) | (exact Below.size (by assumption)) | omega | go_size | (simp at *; omega)))
  have hzz : (w.alloc (Obj.cells #[.slice none 0 0] 26)).heap.size = w.heap.size + 1 := by simp
  have h0 := l00From_any A n c xs (w.alloc (Obj.cells #[.slice none 0 0] 26)) hn hx ((hr.below hB0 (Nat.le_refl _)).more hB0.size)
  rw [hzz] at h0
  have h0 := hid h0
  have HX := hid hX
  have HB := hid hB0
  clear hx hr hX hB0 hzz
  go_enter Try.func55, Try.ntmps55
  go_wp2_with fail
  refine h0.out.mono ?_
  rintro e w1 ⟨rfl, hs1, hb1⟩
  have l1 := hs1.lt
  have hX1 := hid (HX.out.below hb1 (Nat.lt_succ_self _))
  have hB1 := hid (HB.out.trans (hb1.mono (Nat.le_succ _)))
  have hS := hid hs1
  clear h0 HX HB hs1 hb1
  go_wp2_with fail
  refine (l04Bent_src _ A n c 0 xs w1 (by omega) hS.out).mono ?_
  rintro e w2 ⟨⟨A2, n2, c2, rfl, rows, hm, hn2, hr2⟩, hs2, hg2⟩
  have hX2 := hX1.out.grown hg2 (fun e => by injection e with e; omega)
  have hB2 : Below w.heap.size w w2 := hB1.out.grown hg2 hB1.out.size (fun g h => by injection h with h; omega)
  have hz2 := hg2.size
  clear hg2 hX1 hB1 hS
  obtain ⟨W, hW⟩ : ∃ W, w2.alloc (Obj.cells #[.slice A2 n2 c2] 26) = W := ⟨_, rfl⟩
  have hbW : Below w2.heap.size w2 W := by rw [← hW]; exact (by repeat' (first | exact Below.refl _ _ | (with_reducible assumption) | (with_reducible refine Below.alloc ?_ ?_ _) | (with_reducible refine Below.setCell ?_ ?_ _) | (with_reducible refine Below.drew ?_) | (with_reducible refine below_drewN ?_ _) | (refine Below.trans ?_ (Below.mono (by assumption) ?_)) | (with_reducible exact Nat.le_refl _) | (with_reducible assumption) | (exact Below.size (by assumption)) | omega | go_size | (simp at *; omega)))
  have HP : Hid (Bx W w2.heap.size 26 #[.slice A2 n2 c2]) := by rw [← hW]; exact Bx.new _ _ _
  have HM := hid ((hm.below hbW (Nat.le_refl _)).more (Nat.le_refl _) hbW.size)
  have HX2 := hid (hX2.below hbW hX2.lt)
  have HB2 := hid (bchain hB2 hbW)
  have HS2 := hid (hs2.below hbW (by omega))
  have HZ : Hid (w2.heap.size < W.heap.size) := HP.out.lt
  rw [← hW] at HP HM HX2 HB2 HS2 HZ
  have hcn : n2 ≤ 13 := hn2
  have HR := hid hr2
  clear hW hbW hX2 hB2 hs2 hm hn2 hr2 W
  go_wp2_with fail
  refine (pick_src _ A n c (0 + 400) xs 20 _ (by omega) (by omega) HS2.out).mono ?_
  rintro e w3 ⟨⟨y, y0, y1, rfl⟩, hs3, hg3⟩
  have X3 := hid (HX2.out.grown hg3 (fun e => by injection e with e; omega))
  have P3 := hid (HP.out.grown hg3 (fun e => by injection e with e; omega))
  have M3 := hid (HM.out.grown hg3 (by omega) (by have := HZ.out; omega))
  have B3 := hid (HB2.out.grown hg3 HB2.out.size (fun g h => by injection h with h; omega))
  have S3 := hid hs3
  have z3 := hg3.size
  have l3 : w2.heap.size < w3.heap.size := P3.out.lt
  clear HX2 HP HM HB2 HS2 HZ hs3 hg3
  go_wp2_with fail
  refine (one_src _ A n c (0 + 400 + 2) xs 16 w3 (by omega) (by omega) S3.out).mono ?_
  rintro e w4 ⟨⟨b, rfl⟩, hs4, hg4⟩
  have X4 := hid (X3.out.grown hg4 (fun e => by injection e with e; omega))
  have P4 := hid (P3.out.grown hg4 (fun e => by injection e with e; omega))
  have M4 := hid (M3.out.grown hg4 (by omega) (by simp at z3 ⊢; omega))
  have B4 := hid (B3.out.grown hg4 B3.out.size (fun g h => by injection h with h; omega))
  have S4 := hid hs4
  have l4 : w2.heap.size < w4.heap.size := P4.out.lt
  have z4 := hg4.size
  clear X3 P3 M3 B3 S3 hs4 hg4
  obtain ⟨z, hz⟩ : ∃ z : Int, y - 8 = z := ⟨_, rfl⟩
  have hzb : -8 ≤ z ∧ z ≤ 12 := by omega
  cases b with
  | false =>
    have x4 := bx_c0 X4.out
    have f4 := X4.out.frozen 0
    have p4 := bx_c0 P4.out
    have H1 := hid (((M4.out.setCell (p := ⟨w.heap.size, 0, none⟩) (.inl (by show w.heap.size < w1.heap.size; omega)) (.slice A2 n2 c2)).more (show w.heap.size ≤ w1.heap.size by omega) (show _ ≤ (w4.setCell ⟨w.heap.size, 0, none⟩ (.slice A2 n2 c2)).heap.size by simp at z3 ⊢; omega)))
    have hb := B4.out
    have HBB := hid (hb.setCell (p := ⟨w.heap.size, 0, none⟩) (by show w.heap.size ≤ w.heap.size; omega) (.slice A2 n2 c2))
    clear X4 P4 M4 B4 S4 hb
    go_wp2
    refine bodyPost_ret (v := .tuple #[.agg #[.slice A2 n2 c2], .int .i64 (y - 8)]) ?_ rfl ?_
    · simp (maxDischargeDepth := 8) [results, Try.results55, go_sem, *]
    exact ⟨⟨_, _, _, _, rfl, by omega, rows, H1.out, hcn, HR.out⟩, HBB.out⟩
  | true =>
    have hB5 : Below w4.heap.size w4 (w4.alloc (Obj.cells #[.int .i64 (-9223372036854775808), .int .i64 9223372036854775807] 2)) := (by repeat' (first | exact Below.refl _ _ | (with_reducible assumption) | (with_reducible refine Below.alloc ?_ ?_ _) | (with_reducible refine Below.setCell ?_ ?_ _) | (with_reducible refine Below.drew ?_) | (with_reducible refine below_drewN ?_ _) | (refine Below.trans ?_ (Below.mono (by assumption) ?_)) | (with_reducible exact Nat.le_refl _) | (with_reducible assumption) | (exact Below.size (by assumption)) | omega | go_size | (simp at *; omega)))
    have HC := hid (among_in (fun y => -9223372036854775808 ≤ y ∧ y ≤ 9223372036854775807) (w.heap.size + 1) A n c (0 + 400 + 2 + 2) xs w4.heap.size 0 2 2 (w4.alloc (Obj.cells #[.int .i64 (-9223372036854775808), .int .i64 9223372036854775807] 2)) (by omega) (by omega) (by simp) (by omega) (by omega) (ends_in w4 _) (S4.out.below hB5 (by omega)))
    have X5 := hid (X4.out.below hB5 X4.out.lt)
    have P5 := hid (P4.out.below hB5 P4.out.lt)
    have M5 := hid (M4.out.below hB5 (by simp at z3 ⊢; omega))
    have B5 := hid (bchain B4.out hB5)
    have z5 := hB5.size
    clear X4 P4 M4 B4 S4 hB5
    go_wp2_with fail
    refine HC.out.mono ?_
    rintro e w6 ⟨⟨v, hv, rfl⟩, hs6, hg6⟩
    have X6 := hid (X5.out.grown hg6 (fun e => by injection e with e; omega))
    have P6 := hid (P5.out.grown hg6 (fun e => by injection e with e; omega))
    have z6 := hg6.size
    have M6 := hid (M5.out.grown hg6 (by omega) (by simp at z3 z5 ⊢; omega))
    have B6 := hid (B5.out.grown hg6 B5.out.size (fun g h => by injection h with h; omega))
    have x6 := bx_c0 X6.out
    have f6 := X6.out.frozen 0
    have p6 := bx_c0 P6.out
    have H1 := hid (((M6.out.setCell (p := ⟨w.heap.size, 0, none⟩) (.inl (by show w.heap.size < w1.heap.size; omega)) (.slice A2 n2 c2)).more (show w.heap.size ≤ w1.heap.size by omega) (show _ ≤ (w6.setCell ⟨w.heap.size, 0, none⟩ (.slice A2 n2 c2)).heap.size by simp at z3 z5 z6 ⊢; omega)))
    have hb := B6.out
    have HBB := hid (hb.setCell (p := ⟨w.heap.size, 0, none⟩) (by show w.heap.size ≤ w.heap.size; omega) (.slice A2 n2 c2))
    have HV := hid hv
    clear X5 P5 M5 B5 X6 P6 M6 B6 hb HC hs6 hg6 hv
    go_wp2
    refine bodyPost_ret (v := .tuple #[.agg #[.slice A2 n2 c2], .int .i64 v]) ?_ rfl ?_
    · simp (maxDischargeDepth := 8) [results, Try.results55, go_sem, *]
    exact ⟨⟨_, _, _, _, rfl, HV.out, rows, H1.out, hcn, HR.out⟩, HBB.out⟩
end Go.Proofs.Ytlbhfjbbkkkldaa

/- Contract of DrawSameMulti. -/
namespace Go.Proofs.Ytlbhfjbbkkkldaa
open Go.RowKit
set_option linter.unusedVariables false

/-- Two drawn patterns in the boxes ga and gb, the second whatever it is; the boxes of the results are those at the start. -/
def SmE (w0 : World) (ga gb : Nat) (A2 : Option Addr) (N c2 : Nat) (ra : List (List Int)) (A' : Option Addr) (n' c' : Nat) (w : World) : Prop :=
  Below w0.heap.size w0 w ∧ Bx w w0.heap.size 26 #[.slice none 0 0] ∧ Bx w (w0.heap.size + 1) 26 #[.slice none 0 0] ∧ Bx w ga 26 #[.slice A2 N c2] ∧ Bx w gb 26 #[.slice A' n' c'] ∧ RdH w (w0.heap.size + 2) w.heap.size A2 N ra ∧ Mb (w0.heap.size + 2) w A' n'
theorem SmE.drew {w0 w : World} {ga gb N c2 n' c' : Nat} {A2 A' : Option Addr} {ra : List (List Int)} (h : SmE w0 ga gb A2 N c2 ra A' n' c' w) : SmE w0 ga gb A2 N c2 ra A' n' c' w.drew := by
  obtain ⟨h1, h2, h3, h4, h5, h6, h7⟩ := h
  exact ⟨h1.drew, h2, h3, h4, h5, h6, h7⟩
set_option maxRecDepth 100000 in
set_option maxHeartbeats 4000000 in
theorem DrawSameMulti_any (A : Option Addr) (n c : Nat) (xs : List Int) (w : World) (hn : n ≤ 1099511627776) (hx : ∀ x ∈ xs, 0 ≤ x ∧ x ≤ 255) (hr : Rd w w.heap.size 1 A n (xs.map (Value.int .u8))) :
    Calls Try.prog 61 #[.slice A n c] w fun e w' => TwoMb w.heap.size w' e ∧ Below w.heap.size w w' := by
  obtain ⟨W, hW⟩ : ∃ W, (w.alloc (Obj.cells #[.slice none 0 0] 26)).alloc (Obj.cells #[.slice none 0 0] 26) = W := ⟨_, rfl⟩
  have hB0 : Below w.heap.size w W := by rw [← hW]; exact (by repeat' (first | exact Below.refl _ _ | (with_reducible assumption) | (with_reducible refine Below.alloc ?_ ?_ _) | (with_reducible refine Below.setCell ?_ ?_ _) | (with_reducible refine Below.drew ?_) | (with_reducible refine below_drewN ?_ _) | (refine Below.trans ?_ (Below.mono (by assumption) ?_)) | (with_reducible exact Nat.le_refl _) | (with_reducible assumption) | (exact Below.size (by assumption)) | omega | go_size | (simp at *; omega)))
  have hzz : W.heap.size = w.heap.size + 1 + 1 := by rw [← hW]; simp
  have hX : Bx W w.heap.size 26 #[.slice none 0 0] := by rw [← hW]; exact (Bx.new _ _ _).alloc _
  have hY : Bx W (w.heap.size + 1) 26 #[.slice none 0 0] := by
    have h := Bx.new (w.alloc (Obj.cells #[.slice none 0 0] 26)) 26 #[.slice none 0 0]
    rw [World.size_alloc] at h
    rw [← hW]; exact h
  have h0 := l00From_any A n c xs W hn hx ((hr.below hB0 (Nat.le_refl _)).more hB0.size)
  rw [hzz] at h0
  have HX := hid hX
  have HY := hid hY
  have HB := hid hB0
  rw [← hW] at h0 HX HY HB
  have h0 := hid h0
  clear hx hr hX hY hB0 hzz hW W
  go_enter Try.func61, Try.ntmps61
  go_wp2_with fail
  refine h0.out.mono ?_
  rintro e w1 ⟨rfl, hs1, hb1⟩
  have l1 := hs1.lt
  have hX1 := hid (HX.out.below hb1 (by omega))
  have hY1 := hid (HY.out.below hb1 (by omega))
  have hB1 := hid (HB.out.trans (hb1.mono (by omega)))
  have hS := hid hs1
  clear h0 HX HY HB hs1 hb1
  go_wp2_with fail
  refine (pick_src _ A n c 0 xs 5 w1 (by omega) (by omega) hS.out).mono ?_
  rintro e w2 ⟨⟨y, y0, y1, rfl⟩, hs2, hg2⟩
  obtain ⟨N, hN⟩ : ∃ N : Nat, 1 + y = (N : Int) := ⟨(1 + y).toNat, by omega⟩
  have hN1 : 1 ≤ N := by omega
  have hN2 : N ≤ 5 := by omega
  have hX2 := hid (hX1.out.grown hg2 (fun e => by injection e with e; omega))
  have hY2 := hid (hY1.out.grown hg2 (fun e => by injection e with e; omega))
  have hB2 := hid (hB1.out.grown hg2 hB1.out.size (fun g h => by injection h with h; omega))
  have hz2 := hg2.size
  have hS2 := hid hs2
  clear hX1 hY1 hB1 hS hs2 hg2
  go_wp2_with fail
  clear hN y0 y1
  refine (l04Draw_src _ A n c (0 + 2) xs N w2 (by omega) hN1 (by omega) hS2.out).mono ?_
  rintro e w3 ⟨⟨A2, c2, rfl, rows, hG, hrl, hrb⟩, hs3, hg3⟩
  have hX3 := hX2.out.grown hg3 (fun e => by injection e with e; omega)
  have hY3 := hY2.out.grown hg3 (fun e => by injection e with e; omega)
  have hB3 : Below w.heap.size w w3 := hB2.out.grown hg3 hB2.out.size (fun g h => by injection h with h; omega)
  have hz3 := hg3.size
  have hA3 := hG.rdH
  have hRL := hid hrl
  have hRB := hid hrb
  clear hg3 hX2 hY2 hB2 hS2 hG hrl hrb
  obtain ⟨W, hW⟩ : ∃ W, w3.alloc (Obj.cells #[.slice A2 N c2] 26) = W := ⟨_, rfl⟩
  have hbW : Below w3.heap.size w3 W := by rw [← hW]; exact (by repeat' (first | exact Below.refl _ _ | (with_reducible assumption) | (with_reducible refine Below.alloc ?_ ?_ _) | (with_reducible refine Below.setCell ?_ ?_ _) | (with_reducible refine Below.drew ?_) | (with_reducible refine below_drewN ?_ _) | (refine Below.trans ?_ (Below.mono (by assumption) ?_)) | (with_reducible exact Nat.le_refl _) | (with_reducible assumption) | (exact Below.size (by assumption)) | omega | go_size | (simp at *; omega)))
  have hP : Bx W w3.heap.size 26 #[.slice A2 N c2] := by rw [← hW]; exact Bx.new _ _ _
  have hAW := (hA3.below hbW (Nat.le_refl _)).more (Nat.le_refl w2.heap.size) hbW.size
  have hC := (l04Own_any w3.heap.size A2 N c2 rows W (by omega) (fun r hr => by have := (hRB.out r hr).1; omega) hP hAW.rd).mono (fun e w' h => show ∃ A3 c3, e = .returned (.agg #[.slice A3 N c3]) ∧ Grid w' W.heap.size w'.heap.size (.slice A3 N c3) rows ∧ Below W.heap.size W w' by
    obtain ⟨⟨A3, c3, h1, h2⟩, h3⟩ := h
    rw [hRL.out] at h1 h2
    exact ⟨A3, c3, h1, h2, h3⟩)
  have HP := hid hP
  have HA := hid hAW
  have HX3 := hid (hX3.below hbW hX3.lt)
  have HY3 := hid (hY3.below hbW hY3.lt)
  have HB3 := hid (bchain hB3 hbW)
  have HS3 := hid (hs3.below hbW (by omega))
  have HZ : Hid (W.heap.size = w3.heap.size + 1) := by show _ = _; rw [← hW]; simp
  rw [← hW] at hC HP HA HX3 HY3 HB3 HS3 HZ
  have hC := hid hC
  have hw3 : w.heap.size + 1 < w3.heap.size := hY3.lt
  clear hW hbW hX3 hY3 hB3 hs3 hA3 hP hAW W
  go_wp2_with fail
  refine hC.out.mono ?_
  rintro e w4 ⟨A3, c3, rfl, hG4, hb4⟩
  have hX4 := HX3.out.below hb4 HX3.out.lt
  have hY4 := HY3.out.below hb4 HY3.out.lt
  have hP4 := HP.out.below hb4 HP.out.lt
  have hB4 := bchain HB3.out hb4
  have hA4 := HA.out.below hb4 (Nat.le_refl _)
  have hs4 := HS3.out.below hb4 (by have := HZ.out; omega)
  have hz4 := hb4.size
  rw [HZ.out] at hG4 hz4 hA4
  clear hC HP HA HX3 HY3 HB3 HS3 hb4 HZ
  obtain ⟨W, hW⟩ : ∃ W, w4.alloc (Obj.cells #[.slice A3 N c3] 26) = W := ⟨_, rfl⟩
  have hbW : Below w4.heap.size w4 W := by rw [← hW]; exact (by repeat' (first | exact Below.refl _ _ | (with_reducible assumption) | (with_reducible refine Below.alloc ?_ ?_ _) | (with_reducible refine Below.setCell ?_ ?_ _) | (with_reducible refine Below.drew ?_) | (with_reducible refine below_drewN ?_ _) | (refine Below.trans ?_ (Below.mono (by assumption) ?_)) | (with_reducible exact Nat.le_refl _) | (with_reducible assumption) | (exact Below.size (by assumption)) | omega | go_size | (simp at *; omega)))
  have HQ : Hid (Bx W w4.heap.size 26 #[.slice A3 N c3]) := by rw [← hW]; exact Bx.new _ _ _
  have HX4 := hid (hX4.below hbW hX4.lt)
  have HY4 := hid (hY4.below hbW hY4.lt)
  have HP4 := hid (hP4.below hbW hP4.lt)
  have HB4 := hid (bchain hB4 hbW)
  have HA4 := hid (hA4.below hbW (by omega))
  have HG4 := hid ((hG4.below hbW).size)
  have HS4 := hid (hs4.below hbW (by omega))
  have HZ : Hid (W.heap.size = w4.heap.size + 1) := by show _ = _; rw [← hW]; simp
  rw [← hW] at HQ HX4 HY4 HP4 HB4 HA4 HG4 HS4 HZ
  clear hW hbW hX4 hY4 hP4 hB4 hA4 hs4 hG4 W
  go_wp2_with fail
  refine (pick_src _ A n c (0 + 2 + 300) xs 3 _ (by omega) (by omega) HS4.out).mono ?_
  rintro e w5 ⟨⟨y, y0, y1, rfl⟩, hs5, hg5⟩
  have X5 := HX4.out.grown hg5 (fun e => by injection e with e; omega)
  have Y5 := HY4.out.grown hg5 (fun e => by injection e with e; omega)
  have P5 := HP4.out.grown hg5 (fun e => by injection e with e; omega)
  have Q5 := HQ.out.grown hg5 (fun e => by injection e with e; omega)
  have B5 := HB4.out.grown hg5 HB4.out.size (fun g h => by injection h with h; omega)
  have z5 := hg5.size
  rw [HZ.out] at z5
  have A5 := HA4.out.grown hg5 (by omega) (by rw [HZ.out]; omega)
  have G5 := (HG4.out.ask HS4.out hg5).size
  have hra := A5.more (show w.heap.size + 2 ≤ w2.heap.size by omega) (show w3.heap.size + 1 ≤ w5.heap.size by omega)
  have q0 := bx_c0 Q5
  have q1 := Q5.frozen 0
  have l5 := Q5.lt
  have h0r : ∃ r, rows[0]? = some r := ⟨rows[0]'(by rw [hRL.out]; omega), List.getElem?_eq_getElem (by rw [hRL.out]; omega)⟩
  obtain ⟨r0, hr0⟩ := h0r
  have hr0l := (hRB.out r0 (List.mem_of_getElem? hr0)).1
  have hL5 : ∀ r ∈ rows, r.length ≤ 5 := fun r hr => by have := (hRB.out r hr).1; omega
  obtain ⟨gb, Ai, ci, rfl, hgb1, hgb2, hNr, hcb, hob, hpt, hput⟩ := G5.put0 hr0
  clear hNr hpt
  obtain ⟨gr, cr, hAi, _⟩ := own_some hob (by omega)
  injection hAi with hAi _ _
  subst hAi
  have hcn := hob.cellAt 0 (by omega)
  have hfn := hob.frozenAt 0
  have hgr := hob.lt gr rfl
  obtain ⟨q, r2, hqr⟩ : ∃ q r2, r0 = q :: r2 := by cases r0 with | nil => simp at hr0l | cons q r2 => exact ⟨q, r2, rfl⟩
  have hcq : w5.cell? ⟨gr, 0, none⟩ = some (.int .i64 q) := by rw [hcn, hqr]; rfl
  obtain ⟨L, hL⟩ : ∃ L, r0.length = L := ⟨_, rfl⟩
  have hne1 := own_bne hob Q5 (by decide)
  have hneP := own_bne hob P5 (by decide)
  have hneX := own_bne hob X5 (by decide)
  have hneY := own_bne hob Y5 (by decide)
  have HP0 : Hid (∀ z : Int, SmE w w3.heap.size w4.heap.size A2 N c2 rows (some ⟨gb, 0, none⟩) N c3 (w5.setCell ⟨gr, 0, none⟩ (.int .i64 z))) := by
    refine hid fun z => ?_
    obtain ⟨ho5, hg5⟩ := hob.stored 0 (.int .i64 z)
    rw [ints_setD] at ho5
    have hm := hput _ (r0.set 0 z) (by rw [List.length_set]) hg5 ho5
    refine ⟨B5.setCell (by show w.heap.size ≤ gr; omega) _, X5.far (by intro e; exact hneX (by show some gr = _; rw [e])) _, Y5.far (by intro e; exact hneY (by show some gr = _; rw [e])) _, P5.far (by intro e; exact hneP (by show some gr = _; rw [e])) _, Q5.far (by intro e; exact hne1 (by show some gr = _; rw [e])) _, ?_, ?_⟩
    · have := A5.setCell (p := ⟨gr, 0, none⟩) (.inr (by show w3.heap.size + 1 ≤ gr; omega)) (.int .i64 z)
      exact this.more (by omega) (by simp; omega)
    · exact ⟨_, hm.more (by omega) (Nat.le_refl _), by omega, mem_set_len hL5 (by rw [List.length_set]; omega)⟩
  have HP1 : Hid (SmE w w3.heap.size w4.heap.size A2 N c2 rows (some ⟨gb, 0, none⟩) N c3 w5) := ⟨B5, X5, Y5, P5, Q5, hra, rows, G5.rdH.more (by omega) (Nat.le_refl _), by omega, hL5⟩
  have HP2 : Hid (∀ (D : Option Addr) (d : Nat), (D = some ⟨gb, 1, none⟩ ∨ N = 1) → SmE w w3.heap.size w4.heap.size A2 N c2 rows D (N - 1) d (w5.setCell ⟨w4.heap.size, 0, none⟩ (.slice D (N - 1) d))) := by
    refine hid fun D d hD => ?_
    refine ⟨B5.setCell (by show w.heap.size ≤ w4.heap.size; omega) _, X5.far (by show w.heap.size ≠ w4.heap.size; omega) _, Y5.far (by show w.heap.size + 1 ≠ w4.heap.size; omega) _, P5.far (by show w3.heap.size ≠ w4.heap.size; omega) _, Q5.set_ 0 _, ?_, ?_⟩
    · have := A5.setCell (p := ⟨w4.heap.size, 0, none⟩) (.inr (by show w3.heap.size + 1 ≤ w4.heap.size; omega)) (.slice D (N - 1) d)
      exact this.more (by omega) (by simp; omega)
    · have hG6 := (G5.setb Q5 (i := 0) (u := .slice D (N - 1) d) (by decide) (by decide)).size
      have hH := hG6.rdH
      rcases hD with rfl | hD
      · refine ⟨rows.drop 1, (hH.tail hN1).more (by omega) (Nat.le_refl _), by omega, fun r hr => hL5 r (List.mem_of_mem_drop hr)⟩
      · exact ⟨[], ⟨by simp; omega, fun h => by omega⟩, by omega, by simp⟩
  have hcap : N ≤ c3 := by
    obtain ⟨_, _, h3, _, _⟩ := G5
    obtain ⟨_, _, e, _, h⟩ := own_form2 h3
    injection e with _ e1 e
    omega
  rw [hL] at hcb hr0l
  have hN0 : 0 < N := by omega
  have hL0 : 0 < L := by omega
  have hNi : (1 : Int) ≤ (N : Int) := by omega
  clear HX4 HY4 HP4 HQ HB4 HA4 HG4 HS4 HZ hs5 hg5 X5 Y5 P5 Q5 B5 A5 G5 hra hput hob hcn hr0 hL hqr hne1 hneP hneX hneY hgb1 hL5
  go_upto_block 0 with fail
  go_cut [] (fun wx => Hid (∃ (D : Option Addr) (m d : Nat), SmE w w3.heap.size w4.heap.size A2 N c2 rows D m d wx))
  case first =>
    by_cases c0 : y = 0
    · subst c0
      have HF := hid (HP0.out (wrap64 (q + 1)))
      clear HP0 HP1 HP2
      go_wp2_with fail
      go_meet
      exact hid ⟨_, _, _, HF.out⟩
    · by_cases c1 : y = 1
      · subst c1
        clear HP0 HP1
        by_cases hc1 : c3 = 1
        · subst hc1
          have HNN : Hid (N = 1) := by show _ = _; omega
          go_wp2_with fail
          go_meet
          obtain rfl : N = 1 := HNN.out
          exact hid ⟨_, _, _, HP2.out (some ⟨gb, 0, none⟩) 0 (.inr rfl)⟩
        · go_wp2_with fail
          go_meet
          exact hid ⟨_, _, _, HP2.out (some ⟨gb, 1, none⟩) (c3 - 1) (.inl rfl)⟩
      · have k0 : (y == 0) = false := by simpa using c0
        have k1 : (y == 1) = false := by simpa using c1
        clear HP0 HP2
        go_wp2_with fail
        go_meet
        exact hid ⟨_, _, _, HP1.out⟩
  case rest =>
    clear HP0 HP1 HP2 q0 q1 hcb hcq hfn
    obtain ⟨D, m, d, h1, h2, h3, h4, h5, h6, h7⟩ := hcut.out
    clear hcut
    have x0 := bx_c0 h2
    have x1 := h2.frozen 0
    have y0 := bx_c0 h3
    have y1 := h3.frozen 0
    have p0 := bx_c0 h4
    have q0 := bx_c0 h5
    obtain ⟨W, hW⟩ : ∃ W, (wc.setCell ⟨w.heap.size, 0, none⟩ (.slice A2 N c2)).setCell ⟨w.heap.size + 1, 0, none⟩ (.slice D m d) = W := ⟨_, rfl⟩
    have k2 : Bx W w.heap.size 26 #[.slice A2 N c2] := by
      rw [← hW]
      exact (h2.set_ 0 _).far (p := ⟨w.heap.size + 1, 0, none⟩) (by show w.heap.size ≠ w.heap.size + 1; omega) _
    have k3 : Bx W (w.heap.size + 1) 26 #[.slice D m d] := by
      rw [← hW]
      exact (h3.far (p := ⟨w.heap.size, 0, none⟩) (by show w.heap.size + 1 ≠ w.heap.size; omega) _).set_ 0 _
    have HB : Hid (Below w.heap.size w W) := by
      rw [← hW]
      exact (h1.setCell (p := ⟨w.heap.size, 0, none⟩) (by show w.heap.size ≤ w.heap.size; omega) _).setCell (p := ⟨w.heap.size + 1, 0, none⟩) (by show w.heap.size ≤ w.heap.size + 1; omega) _
    have hzW : W.heap.size = wc.heap.size := by rw [← hW]; simp
    have key : ∀ {X : Option Addr} {n' : Nat} {rr : List (List Int)}, RdH wc (w.heap.size + 2) wc.heap.size X n' rr → RdH W w.heap.size W.heap.size X n' rr := by
      intro X n' rr u
      rw [hzW, ← hW]
      exact ((u.setCell (p := ⟨w.heap.size, 0, none⟩) (.inl (by show w.heap.size < w.heap.size + 2; omega)) _).setCell (p := ⟨w.heap.size + 1, 0, none⟩) (.inl (by show w.heap.size + 1 < w.heap.size + 2; omega)) _).more (by omega) (Nat.le_refl _)
    have H6 : Hid (Mb w.heap.size W A2 N) := ⟨rows, key h6, by omega, fun r hr => by have := (hRB.out r hr).1; omega⟩
    have H7 : Hid (Mb w.heap.size W D m) := by
      obtain ⟨rr, u1, u2, u3⟩ := h7
      exact ⟨rr, key u1, u2, u3⟩
    have r0 : W.drew.cell? ⟨w.heap.size, 0, none⟩ = _ := bx_c0 k2
    have r1 : W.drew.cell? ⟨w.heap.size + 1, 0, none⟩ = _ := bx_c0 k3
    have HW := hid hW
    clear h1 h2 h3 h4 h5 h6 h7 key k2 k3 hW hzW
    go_wp2
    go_region
    rw [HW.out]
    go_wp2
    refine bodyPost_ret (v := .tuple #[.agg #[.slice A2 N c2], .agg #[.slice D m d]]) ?_ rfl ?_
    · simp (maxDischargeDepth := 8) [results, Try.results61, go_sem, *]
    exact ⟨⟨_, _, _, _, _, _, rfl, H6.out, H7.out⟩, HB.out.drew⟩
end Go.Proofs.Ytlbhfjbbkkkldaa

/- Contracts of SortBeat, impl's and the reference's. -/
namespace Go.Proofs.Ytlbhfjbbkkkldaa
open Go.RowKit
set_option linter.unusedVariables false

def bets (l : List Int) : Bool := l.all fun x => betweenB x 0 15
def rSortBeat (l : List Int) : List Int × Int := if bets l then (if (rSortZ l).length ≤ 4 then (rSortZ l, 0) else ([], 5)) else ([], 1)
theorem bets_step {l : List Int} {k : Nat} {x : Int} (h : l[k]? = some x) (hl : bets (l.take k) = true) (hx : betweenB x 0 15 = true) : bets (l.take (k + 1)) = true := by
  rw [List.take_add_one, h]
  unfold bets at *
  rw [List.all_append, hl]
  simp [hx]
theorem bets_bad {l : List Int} {k : Nat} {x : Int} (h : l[k]? = some x) (hx : betweenB x 0 15 = false) : bets l = false := by
  cases hq : bets l with
  | false => rfl
  | true =>
    have h1 := List.all_eq_true.1 hq x (List.mem_of_getElem? h)
    rw [hx] at h1; cases h1
theorem bets_pos {l : List Int} (h : bets l = true) : ∀ x ∈ l, 0 ≤ x := fun x hx => ((betweenB_iff _ _ _).1 (List.all_eq_true.1 h x hx)).1
set_option maxRecDepth 100000 in
set_option maxHeartbeats 2000000 in
theorem SortBeat_any (A : Option Addr) (n c : Nat) (l : List Int) (w : World) (hn : n ≤ 12) (hr : Rd w w.heap.size 1 A n (ints l)) :
    Calls Try.prog 59 #[.slice A n c] w fun e w' => LnRes w.heap.size (rSortBeat l) e w' ∧ Below w.heap.size w w' := by
  have hlen := hr.len
  have HR := hid hr
  have HL := hid hlen
  have hst0 : Hid (bets (l.take 0) = true) := by show _ = _; rw [List.take_zero]; rfl
  clear hr hlen
  go_enter Try.func59, Try.ntmps59
  go_wp2
  go_loopw [9] (fun i wr => Hid (∃ (k : Nat), k ≤ n ∧ i = .int .i64 k ∧ Hid (bets (l.take k) = true) ∧ wr = w)) (fun i _ => n - (intOf i).toNat)
  case atStart => exact hid ⟨0, Nat.zero_le _, rfl, hst0, rfl⟩
  case round =>
    obtain ⟨k, hk, rfl, hF, rfl⟩ := hrel.out
    clear hrel hst0
    by_cases hlt : k < n
    · obtain ⟨b, off, x, rfl, hb, hx, hd, hc⟩ := HR.out.at_ hlt
      cases hq : betweenB x 0 15 with
      | true =>
        have HF := hid (bets_step hx hF.out hq)
        clear hx hd hF
        go_wp2_with (go_at_call 122; refine (between_any x 0 15 wr).mono ?_; rw [hq]; rintro e w' ⟨rfl, rfl⟩)
        go_roundw
        case rel => exact hid ⟨k + 1, by omega, by go_num, HF, by first | rfl | trivial⟩
        case measure => simp [intOf]; omega
      | false =>
        have HO : Hid (rSortBeat l = ([], 1)) := by show _ = _; rw [rSortBeat, bets_bad hx hq]; rfl
        clear hx hd hF
        go_wp2_with (go_at_call 122; refine (between_any x 0 15 wr).mono ?_; rw [hq]; rintro e w' ⟨rfl, rfl⟩)
        go_ret2
        rw [HO.out]
        exact ⟨LnRes.no _ _ _, Below.refl _ _⟩
    · have hF2 := hF.out
      rw [List.take_of_length_le (by rw [HL.out]; omega)] at hF2
      have HC := hid (sortBeat_any A n c l wr hn (bets_pos hF2) HR.out)
      have HO : Hid (rSortBeat l = if (rSortZ l).length ≤ 4 then (rSortZ l, 0) else ([], 5)) := by show _ = _; rw [rSortBeat, hF2]; rfl
      obtain ⟨Z, hZ⟩ : ∃ Z, rSortZ l = Z := ⟨_, rfl⟩
      rw [hZ] at HC HO
      clear hF hF2 hZ
      go_wp2_with fail
      refine HC.out.mono ?_
      rintro e w2 ⟨⟨A2, c2, rfl, ho2⟩, hb2⟩
      have HO2 := hid ho2
      have HB2 := hid hb2
      clear ho2 hb2 HC
      by_cases h4 : Z.length ≤ 4
      · have h4I : ¬ (4 : Int) < (Z.length : Int) := by omega
        have HE : Hid (rSortBeat l = (Z, 0)) := by show _ = _; rw [HO.out, if_pos h4]
        clear HO
        go_wp2
        go_ret2
        rw [HE.out]
        exact ⟨⟨A2, c2, rfl, HO2.out⟩, HB2.out⟩
      · have h4I : (4 : Int) < (Z.length : Int) := by omega
        have HE : Hid (rSortBeat l = ([], 5)) := by show _ = _; rw [HO.out, if_neg h4]
        clear HO
        go_wp2
        go_ret2
        rw [HE.out]
        exact ⟨LnRes.no _ _ _, HB2.out⟩
set_option maxRecDepth 100000 in
set_option maxHeartbeats 2000000 in
theorem specSortBeat_any (A : Option Addr) (n c : Nat) (l : List Int) (w : World) (hn : n ≤ 12) (hr : Rd w w.heap.size 1 A n (ints l)) :
    Calls Try.prog 60 #[.slice A n c] w fun e w' => LnRes w.heap.size (rSortBeat l) e w' ∧ Below w.heap.size w w' := by
  have hlen := hr.len
  have HR := hid hr
  have HL := hid hlen
  have hst0 : Hid (bets (l.take 0) = true) := by show _ = _; rw [List.take_zero]; rfl
  clear hr hlen
  go_enter Try.func60, Try.ntmps60
  go_wp2
  go_loopw [4] (fun i wr => Hid (∃ (k : Nat), k ≤ n ∧ i = .int .i64 k ∧ Hid (bets (l.take k) = true) ∧ wr = w)) (fun i _ => n - (intOf i).toNat)
  case atStart => exact hid ⟨0, Nat.zero_le _, rfl, hst0, rfl⟩
  case round =>
    obtain ⟨k, hk, rfl, hF, rfl⟩ := hrel.out
    clear hrel hst0
    by_cases hlt : k < n
    · obtain ⟨b, off, x, rfl, hb, hx, hd, hc⟩ := HR.out.at_ hlt
      cases hq : betweenB x 0 15 with
      | true =>
        have HF := hid (bets_step hx hF.out hq)
        clear hx hd hF
        go_wp2_with (go_at_call 95; refine (l00In_any x 0 15 wr).mono ?_; rw [hq]; rintro e w' ⟨rfl, rfl⟩)
        go_roundw
        case rel => exact hid ⟨k + 1, by omega, by go_num, HF, by first | rfl | trivial⟩
        case measure => simp [intOf]; omega
      | false =>
        have HO : Hid (rSortBeat l = ([], 1)) := by show _ = _; rw [rSortBeat, bets_bad hx hq]; rfl
        clear hx hd hF
        go_wp2_with (go_at_call 95; refine (l00In_any x 0 15 wr).mono ?_; rw [hq]; rintro e w' ⟨rfl, rfl⟩)
        go_ret2
        rw [HO.out]
        exact ⟨LnRes.no _ _ _, Below.refl _ _⟩
    · have hF2 := hF.out
      rw [List.take_of_length_le (by rw [HL.out]; omega)] at hF2
      have HC := hid (l04Sort_any A n c l wr (by omega) HR.out)
      have HO : Hid (rSortBeat l = if (rSortZ l).length ≤ 4 then (rSortZ l, 0) else ([], 5)) := by show _ = _; rw [rSortBeat, hF2]; rfl
      obtain ⟨Z, hZ⟩ : ∃ Z, rSortZ l = Z := ⟨_, rfl⟩
      rw [hZ] at HC HO
      clear hF hF2 hZ
      go_wp2_with fail
      refine HC.out.mono ?_
      rintro e w2 ⟨⟨A2, c2, rfl, ho2⟩, hb2⟩
      have HO2 := hid ho2
      have HB2 := hid hb2
      clear ho2 hb2 HC
      by_cases h4 : Z.length ≤ 4
      · have h4I : ¬ (4 : Int) < (Z.length : Int) := by omega
        have HE : Hid (rSortBeat l = (Z, 0)) := by show _ = _; rw [HO.out, if_pos h4]
        clear HO
        go_wp2
        go_ret2
        rw [HE.out]
        exact ⟨⟨A2, c2, rfl, HO2.out⟩, HB2.out⟩
      · have h4I : (4 : Int) < (Z.length : Int) := by omega
        have HE : Hid (rSortBeat l = ([], 5)) := by show _ = _; rw [HO.out, if_neg h4]
        clear HO
        go_wp2
        go_ret2
        rw [HE.out]
        exact ⟨LnRes.no _ _ _, HB2.out⟩
theorem rSb_bd {l z : List Int} {x : Int} (h : rSortBeat l = (z, x)) : z.length ≤ 4 := by
  unfold rSortBeat at h
  split at h
  · split at h
    · rename_i h4
      injection h with h _; subst h; exact h4
    · injection h with h _; subst h; exact Nat.zero_le _
  · injection h with h _; subst h; exact Nat.zero_le _
end Go.Proofs.Ytlbhfjbbkkkldaa

/- Plain: patterns with one throw at each beat, and turned patterns, are valid multiplex patterns. -/
namespace Go.Proofs.Ytlbhfjbbkkkldaa
open Go.RowKit
set_option linter.unusedVariables false

theorem sing_cons (n k : Nat) (x : Int) (l : List Int) : mLnds n k (rSing (x :: l)) = (if 0 < x then [(k + x.toNat) % n] else []) ++ mLnds n (k + 1) (rSing l) := by
  show mLnd n k [x] ++ mLnds n (k + 1) (rSing l) = _
  unfold mLnd
  by_cases h : 0 < x <;> simp [h]
theorem sing_none (n i : Nat) : ∀ (l : List Int) (k : Nat), (∀ j x, l[j]? = some x → 0 < x → (k + j + x.toNat) % n ≠ i) → (mLnds n k (rSing l)).count i = 0
  | [], _, _ => rfl
  | x :: l, k, h => by
    rw [sing_cons, List.count_append, sing_none n i l (k + 1) (fun j y hj hy => by have := h (j + 1) y (by simpa using hj) hy; rwa [show k + 1 + j = k + (j + 1) by omega])]
    by_cases hx : 0 < x
    · have := h 0 x rfl hx
      rw [Nat.add_zero] at this
      rw [if_pos hx]
      simp [this]
    · rw [if_neg hx]; rfl
theorem sing_one (n i : Nat) : ∀ (l : List Int) (k : Nat) (j : Nat) (x : Int), l[j]? = some x → 0 < x → (k + j + x.toNat) % n = i → (∀ a b y z, l[a]? = some y → l[b]? = some z → 0 < y → 0 < z → (k + a + y.toNat) % n = i → (k + b + z.toNat) % n = i → a = b) → (mLnds n k (rSing l)).count i = 1
  | [], _, _, _, h, _, _, _ => by simp at h
  | y :: l, k, 0, x, h, hx, hj, hu => by
    obtain rfl : y = x := by simpa using h
    rw [sing_cons, List.count_append, if_pos hx, sing_none n i l (k + 1) (fun j z hj2 hz e => by
      have := hu 0 (j + 1) y z rfl (by simpa using hj2) hx hz (by simpa using hj) (by rw [show k + (j + 1) = k + 1 + j by omega]; exact e)
      omega)]
    rw [Nat.add_zero] at hj
    simp [hj]
  | y :: l, k, j + 1, x, h, hx, hj, hu => by
    have ih := sing_one n i l (k + 1) j x (by simpa using h) hx (by rw [show k + 1 + j = k + (j + 1) by omega]; exact hj) (fun a b u v ha hb hu1 hv1 e1 e2 => by
      have := hu (a + 1) (b + 1) u v (by simpa using ha) (by simpa using hb) hu1 hv1 (by rw [show k + (a + 1) = k + 1 + a by omega]; exact e1) (by rw [show k + (b + 1) = k + 1 + b by omega]; exact e2)
      omega)
    rw [sing_cons, List.count_append, ih]
    by_cases hy : 0 < y
    · have hne : (k + y.toNat) % n ≠ i := fun e => by
        have := hu 0 (j + 1) y x rfl (by simpa using h) hy hx (by simpa using e) hj
        omega
      rw [if_pos hy]
      simp [hne]
    · rw [if_neg hy]; rfl
theorem sing_mst {x : Int} (h : 0 ≤ x ∧ x ≤ 15) : mstOk [x] = true := by
  refine mstOk_iff.2 ⟨⟨by simp, by simp⟩, stAll_iff.2 fun k hk => ?_⟩
  have hk0 : k = 0 := by simp at hk; exact hk
  subst hk0
  rw [stK_at (show ([x] : List Int)[0]? = some x from rfl), stE_def, Bool.and_eq_true, Bool.and_eq_true, betweenB_iff]
  exact ⟨⟨h, by simp⟩, by unfold stPrev; rw [if_pos rfl]⟩
theorem Ld_nat {p : List Int} {j : Nat} {x : Int} (h : p[j]? = some x) (hx : 0 ≤ x) : Ld p j = (((j + x.toNat) % p.length : Nat) : Int) := by
  unfold Ld
  rw [List.getD_eq_getElem?_getD, h]
  simp only [Option.getD_some]
  rw [Int.natCast_emod, Int.natCast_add, Int.toNat_of_nonneg hx]
theorem sing_ok {p : List Int} (h : okP p = true) : mOk (rSing p) = true := by
  obtain ⟨hb, h1, h12⟩ := thOk_iff (okP_th h)
  refine mOk_iff.2 ⟨msSh_iff.2 ⟨by rw [rSing_len]; exact ⟨h1, h12⟩, fun r hr => ?_⟩, fun i hi => ?_⟩
  · obtain ⟨x, hx, rfl⟩ := List.mem_map.1 hr
    exact sing_mst (hb x hx)
  · rw [rSing_len] at hi
    have hx : p[i]? = some p[i] := List.getElem?_eq_getElem hi
    have hxb := hb _ (List.getElem_mem hi)
    have hr : (rSing p)[i]? = some [p[i]] := by unfold rSing; rw [List.getElem?_map, hx]; rfl
    rw [mLn_at hr, rSing_len, beq_iff_eq]
    generalize p[i] = x at hx hxb
    have huniq : ∀ a b y z, p[a]? = some y → p[b]? = some z → 0 < y → 0 < z → (0 + a + y.toNat) % p.length = i → (0 + b + z.toNat) % p.length = i → a = b := by
      intro a b y z ha hb2 hy hz e1 e2
      rw [Nat.zero_add] at e1 e2
      apply Classical.byContradiction
      intro hne
      have l1 := Ld_nat ha (by omega)
      have l2 := Ld_nat hb2 (by omega)
      rw [e1] at l1
      rw [e2] at l2
      exact okP_ne h (List.getElem?_eq_some_iff.1 ha).1 (List.getElem?_eq_some_iff.1 hb2).1 hne (l1.trans l2.symm)
    by_cases h0 : x = 0
    · subst h0
      have hself := Ld_nat hx (by omega)
      rw [show (i + (0 : Int).toNat) % p.length = i by rw [show i + (0 : Int).toNat = i from rfl, Nat.mod_eq_of_lt hi]] at hself
      rw [sing_none p.length i p 0 (fun j y hj hy e => by
        rw [Nat.zero_add] at e
        have l1 := Ld_nat hj (by omega)
        rw [e] at l1
        have hij : j = i := Classical.byContradiction fun hne => okP_ne h (List.getElem?_eq_some_iff.1 hj).1 hi hne (l1.trans hself.symm)
        subst hij
        rw [hj] at hx
        injection hx with hx
        omega)]
      rfl
    · obtain ⟨j, hj, hjl⟩ := okP_onto h (i : Int) (by omega) (by omega)
      have hy : p[j]? = some p[j] := List.getElem?_eq_getElem hj
      have hyb := hb _ (List.getElem_mem hj)
      generalize p[j] = y at hy hyb
      have l1 := Ld_nat hy hyb.1
      rw [hjl] at l1
      have l2 : (j + y.toNat) % p.length = i := by omega
      have hy0 : 0 < y := by
        apply Classical.byContradiction
        intro hn
        have : y = 0 := by omega
        subst this
        rw [show j + (0 : Int).toNat = j from rfl, Nat.mod_eq_of_lt hj] at l2
        subst l2
        rw [hy] at hx
        injection hx with hx
        omega
      rw [sing_one p.length i p 0 j y hy hy0 (by rw [Nat.zero_add]; exact l2) huniq]
      unfold thr
      rw [if_neg (by intro e; injection e with e _; exact h0 e)]
      rfl
theorem sing_lows (p : List Int) : lows (rSing p) = true := by
  unfold lows rSing
  rw [List.all_eq_true]
  intro r hr
  obtain ⟨x, _, rfl⟩ := List.mem_map.1 hr
  simp
theorem sing_hds (p : List Int) : hds (rSing p) = p := by
  unfold hds rSing
  rw [List.map_map]
  exact List.map_id' p
theorem single_back {p : List Int} (h : okP p = true) : rSingleOf (rSing p) = (p, 0) := by rw [rSingleOf, sing_ok h, sing_lows, sing_hds]; rfl
theorem mod_shift (a i q n : Nat) : (a + q) % n = (i + q) % n ↔ a % n = i % n := by
  have h := Int.emod_add_cancel_right (m := (a : Int)) (n := (n : Int)) (k := (i : Int)) (q : Int)
  rw [← Int.natCast_add, ← Int.natCast_add, ← Int.natCast_emod, ← Int.natCast_emod, ← Int.natCast_emod, ← Int.natCast_emod, Int.natCast_inj, Int.natCast_inj] at h
  exact h
theorem row_shift (n k q i : Nat) (hi : i < n) (l : List Int) : (l.map fun t => (k + q + t.toNat) % n).count ((i + q) % n) = (l.map fun t => (k + t.toNat) % n).count i := by
  induction l with
  | nil => rfl
  | cons t l ih =>
    rw [List.map_cons, List.map_cons, List.count_cons, List.count_cons, ih]
    have hiff : ((k + q + t.toNat) % n == (i + q) % n) = ((k + t.toNat) % n == i) := by
      rw [Bool.eq_iff_iff, beq_iff_eq, beq_iff_eq, show k + q + t.toNat = (k + t.toNat) + q by omega, mod_shift, Nat.mod_eq_of_lt hi]
    rw [hiff]
theorem rows_shift (n q i : Nat) (hi : i < n) : ∀ (rows : List (List Int)) (k : Nat), (mLnds n (k + q) rows).count ((i + q) % n) = (mLnds n k rows).count i
  | [], _ => rfl
  | r :: rs, k => by
    rw [mLnds, mLnds, List.count_append, List.count_append, show k + q + 1 = (k + 1) + q by omega, rows_shift n q i hi rs (k + 1)]
    congr 1
    exact row_shift n k q i hi _
theorem rows_turn (n : Nat) : ∀ (rows : List (List Int)) (k : Nat), mLnds n (k + n) rows = mLnds n k rows
  | [], _ => rfl
  | r :: rs, k => by
    rw [mLnds, mLnds, show k + n + 1 = (k + 1) + n by omega, rows_turn n rs (k + 1)]
    congr 1
    unfold mLnd
    congr 1
    funext t
    rw [show k + n + t.toNat = (k + t.toNat) + n by omega, Nat.add_mod_right]
theorem rotN_cut {rows : List (List Int)} {q : Nat} (hq : q < rows.length) : rotN rows q = rows.drop q ++ rows.take q := by
  apply List.ext_getElem?
  intro i
  by_cases hi : i < rows.length
  · by_cases h2 : i + q < rows.length
    · rw [rotN_at hi (r := rows[i + q]) (by rw [Nat.mod_eq_of_lt h2]; exact List.getElem?_eq_getElem h2), List.getElem?_append_left (by rw [List.length_drop]; omega), List.getElem?_drop, show q + i = i + q by omega, List.getElem?_eq_getElem h2]
    · have hm : (i + q) % rows.length = i + q - rows.length := by rw [Nat.mod_eq_sub_mod (by omega), Nat.mod_eq_of_lt (by omega)]
      have h3 : i + q - rows.length < rows.length := by omega
      rw [rotN_at hi (r := rows[i + q - rows.length]) (by rw [hm]; exact List.getElem?_eq_getElem h3), List.getElem?_append_right (by rw [List.length_drop]; omega), List.length_drop, List.getElem?_take, if_pos (by omega), show i - (rows.length - q) = i + q - rows.length by omega, List.getElem?_eq_getElem h3]
  · rw [List.getElem?_eq_none (by rw [rotN_len]; omega), List.getElem?_eq_none (by simp; omega)]
theorem rot_ok {rows : List (List Int)} {q : Nat} (h : mOk rows = true) (hq : q < rows.length) : mOk (rotN rows q) = true := by
  obtain ⟨hs, hl⟩ := mOk_iff.1 h
  have hs2 := msSh_iff.1 hs
  refine mOk_iff.2 ⟨msSh_iff.2 ⟨by rw [rotN_len]; exact hs2.1, fun r hr => hs2.2 r (rotN_mem hr)⟩, fun i hi => ?_⟩
  rw [rotN_len] at hi
  have hj : (i + q) % rows.length < rows.length := Nat.mod_lt _ (by omega)
  have hr : rows[(i + q) % rows.length]? = some rows[(i + q) % rows.length] := List.getElem?_eq_getElem hj
  have h1 := hl _ hj
  rw [mLn_at hr] at h1
  rw [mLn_at (rotN_at hi hr), rotN_len]
  have e : (mLnds rows.length 0 (rotN rows q)).count i = (mLnds rows.length 0 rows).count ((i + q) % rows.length) := by
    rw [rotN_cut hq, mLnds_append, List.count_append, ← rows_shift rows.length q i hi, ← rows_shift rows.length q i hi (rows.take q), List.length_drop, show 0 + (rows.length - q) + q = 0 + rows.length by omega, rows_turn]
    have h4 := mLnds_append rows.length (rows.take q) (rows.drop q) 0
    rw [List.take_append_drop, List.length_take, Nat.min_eq_left (by omega)] at h4
    rw [h4, List.count_append]
    omega
  rw [e]
  exact h1
theorem rot_back {rows : List (List Int)} {q : Nat} (hq : q < rows.length) : rotN (rotN rows q) ((rows.length - q) % rows.length) = rows := by
  apply List.ext_getElem?
  intro i
  by_cases hi : i < rows.length
  · have hj : (i + (rows.length - q) % rows.length) % rows.length < rows.length := Nat.mod_lt _ (by omega)
    have hx : rows[i]? = some rows[i] := List.getElem?_eq_getElem hi
    rw [hx]
    refine rotN_at (by rw [rotN_len]; exact hi) ?_
    rw [rotN_len]
    refine rotN_at hj ?_
    have : ((i + (rows.length - q) % rows.length) % rows.length + q) % rows.length = i := by
      rw [Nat.mod_add_mod, Nat.add_assoc, Nat.add_comm ((rows.length - q) % rows.length) q, ← Nat.add_assoc, Nat.add_mod_mod, show i + q + (rows.length - q) = i + rows.length by omega, Nat.add_mod_right, Nat.mod_eq_of_lt hi]
    rw [this]; exact hx
  · rw [List.getElem?_eq_none (by rw [rotN_len, rotN_len]; omega), List.getElem?_eq_none (by omega)]
/-- Rotating back restores a pattern. -/
theorem rotate_back {rows y : List (List Int)} {by_ : Int} (h : rRotate rows by_ = (y, 0)) : mOk rows = true ∧ mOk y = true ∧ y.length = rows.length ∧ ∃ q : Nat, by_ % (rows.length : Int) = (q : Int) ∧ q < rows.length ∧ rRotate y ((rows.length : Int) - (q : Int)) = (rows, 0) := by
  unfold rRotate at h
  split at h
  · rename_i hm
    injection h with h _
    have hn := (msSh_iff.1 (mOk_iff.1 hm).1).1
    obtain ⟨q, hq⟩ : ∃ q : Nat, by_ % (rows.length : Int) = (q : Int) := ⟨(by_ % (rows.length : Int)).toNat, by have := Int.emod_nonneg by_ (show (rows.length : Int) ≠ 0 by omega); omega⟩
    have hqn : q < rows.length := by have := Int.emod_lt_of_pos by_ (show (0 : Int) < rows.length by omega); omega
    rw [hq, Int.toNat_natCast] at h
    subst h
    refine ⟨hm, rot_ok hm hqn, rotN_len _ _, q, hq, hqn, ?_⟩
    unfold rRotate
    rw [if_pos (rot_ok hm hqn), rotN_len]
    have e : (((rows.length : Int) - (q : Int)) % (rows.length : Int)).toNat = (rows.length - q) % rows.length := by
      rw [← Int.natCast_sub (by omega), ← Int.natCast_emod, Int.toNat_natCast]
    rw [e, rot_back hqn]
  · injection h with _ h; cases h
theorem rMo_bd {p : List Int} {s : List (List Int)} {x : Int} (h : rMultiOf p = (s, x)) : s.length ≤ p.length ∧ ∀ r ∈ s, r.length ≤ 1 := by
  unfold rMultiOf at h
  split at h
  · injection h with h _
    subst h
    refine ⟨by rw [rSing_len]; exact Nat.le_refl _, fun r hr => ?_⟩
    obtain ⟨y, _, rfl⟩ := List.mem_map.1 hr
    simp
  · injection h with h _; subst h; exact ⟨Nat.zero_le _, by simp⟩
theorem rMo_back {p : List Int} {s : List (List Int)} (h : rMultiOf p = (s, 0)) : rSingleOf s = (p, 0) := by
  unfold rMultiOf at h
  split at h
  · rename_i hp
    injection h with h _
    subst h
    exact single_back hp
  · injection h with _ h; cases h
theorem rSg_bd {m : List (List Int)} {l : List Int} {x : Int} (h : rSingleOf m = (l, x)) : l.length ≤ m.length := by
  unfold rSingleOf at h
  split at h
  · split at h
    · injection h with h _; subst h; rw [hds_len]; exact Nat.le_refl _
    · injection h with h _; subst h; exact Nat.zero_le _
  · injection h with h _; subst h; exact Nat.zero_le _
theorem rRo_bd {m y : List (List Int)} {b x : Int} {k : Nat} (h : rRotate m b = (y, x)) (hk : ∀ r ∈ m, r.length ≤ k) : y.length ≤ m.length ∧ ∀ r ∈ y, r.length ≤ k := by
  unfold rRotate at h
  split at h
  · injection h with h _
    subst h
    exact ⟨by rw [rotN_len]; exact Nat.le_refl _, fun r hr => hk r (rotN_mem hr)⟩
  · injection h with h _; subst h; exact ⟨Nat.zero_le _, by simp⟩
end Go.Proofs.Ytlbhfjbbkkkldaa
