import Derived.Test.YgdatgKey
import Derived.Test.YgdatgAnch
namespace Go.Proofs.Ygdatg
open Go.RowKit
set_option linter.unusedSimpArgs false

def byteInts (s : ByteArray) : List Int := s.data.toList.map fun b => (b.toNat : Int)
theorem byteInts_length (s : ByteArray) : (byteInts s).length = s.size := by simp [byteInts]

/-- The digest of a number. -/
def leafD (x : Int) : List Int := byteInts (keyS x) ++ List.replicate 19 0
theorem leafD_length (x : Int) : (leafD x).length = 32 := by simp [leafD, byteInts_length, keyS_size]

theorem run_copy_str (w : World) (ty : TypeId) (g o : Nat) (s : ByteArray) (hs : s.size = 13) (ht : w.there g o 13) :
    (Builtin.copy_ #[38, 9] ty #[.slice (some ⟨g, o, none⟩) 32 32, .string s]).run Yatd.prog w = .ok (goInt 13) (w.setCells g o (cl (byteInts s))) := by
  have hl : (cl (byteInts s)).length = 13 := by rw [cl_length, byteInts_length, hs]
  have hst := run_storeCells_cells (P := Yatd.prog) g o (cl (byteInts s)) 0 w (fun j hj => by simpa using (ht j (by omega)).1) (fun j hj => by simpa using (ht j (by omega)).2) (cl_one _)
  have he : (s.extract 0 13).data.map (fun b => Value.int .u8 b.toNat) = (cl (byteInts s)).toArray := by
    have : s.extract 0 13 = s := by rw [← hs]; exact ByteArray.extract_zero_size
    rw [this]
    apply Array.ext'
    simp [cl, byteInts, Function.comp_def]
  obtain ⟨i, hi, hz⟩ : ∃ i, Yatd.prog.info? 5 = some i ∧ i.size = 1 := by
    have h : (Yatd.prog.info? 5).map (·.size) = some 1 := by kernel_rfl
    obtain ⟨i, hi, hz⟩ := Option.map_eq_some_iff.1 h
    exact ⟨i, hi, hz⟩
  have hmin : Nat.min 13 32 = 13 := rfl
  simp only [Nat.add_zero] at hst
  simp [Builtin.copy_, run_underlying Yatd.underlying38, Builtin.lenOf, Builtin.firstCells, sizeOf, typeInfo, hi, hs, hmin]
  have htk : List.take 13 (List.map (fun b : UInt8 => Value.int IntKind.u8 (b.toNat : Int)) s.data.toList) = cl (byteInts s) := by
    have h13 : s.data.toList.length = 13 := hs
    rw [List.take_of_length_le (by simp; omega)]
    simp [cl, byteInts, Function.comp_def]
  rw [htk, hst]
  rfl

theorem copy_str {ops : Array Oper} {rest : List Oper} {op : Oper} {a : Act} {w : World} {Q : Exit → Act → World → Prop} (d x : Operand) (hgd : op.guard = none) (ho : op.op = .call { callee := .builtin .copy, args := #[d, x], argTypes := #[38, 9] })
    (g o : Nat) (s : ByteArray) (hs : s.size = 13) (hd : a.eval d = .slice (some ⟨g, o, none⟩) 32 32) (hx : a.eval x = .string s) (ht : w.there g o 13)
    (h : wpList Yatd.prog ops Q rest (a.put op.dst (goInt 13)) (w.setCells g o (cl (byteInts s)))) : wpList Yatd.prog ops Q (op :: rest) a w := by
  refine wpList_plain hgd fun K hK => ?_
  have hr := run_copy_str w op.type g o s hs ht
  unfold Oper.wp
  simp [execOp, ho, resolve, invoke, builtin, hd, hx, hr, Result.andThen]
  exact hK _ _ h

theorem run_slice30 (b p : Nat) (w : World) : (Instr.sliceAt 30 (.pointer (some ⟨b, p, none⟩)) none none none).run Yatd.prog w = .ok (.slice (some ⟨b, p, none⟩) 32 32) w := by kernel_rfl

section
variable {ops : Array Oper} {Q : Exit → Act → World → Prop} {S : World → Prop} {fuel : Nat} {listed : Array Bool} {a : Act} {w : World} {o : Oper}
theorem held_slice30 (i : Nat) (x : Operand) (b p : Nat) (hi : ops[i]? = some o) (hs : Region.noSelect ops = true) (hf : Region.free .any ops listed i = true) (hr : (Region.ready .any ops listed).contains i = true)
    (ho : o.op = .slice 30 x none none none) (hw : Region.wanted o (yielded ops a.tmps) = true) (hx : a.eval x = .pointer (some ⟨b, p, none⟩)) (hS : S w)
    (h : wpAnyH Yatd.prog .any ops (NoPanic Q) S fuel (listed.setIfInBounds i true) (a.put o.dst (.slice (some ⟨b, p, none⟩) 32 32)) w) : wpAnyH Yatd.prog .any ops (NoPanic Q) S (fuel + 1) listed a w :=
  wpAnyH_take hi hs hf hr (fun _ _ _ h => h) (.inl ⟨hw, fun w _ => by
    unfold execOp
    simp only [ho, hx, Option.map_none, run_slice30 b p w, Sem.run_bind, Result.andThen_ok, Sem.run_pure]⟩) hS h
end

/-- A row of numbers. -/
structure U64s (w : World) (a : Option Addr) (xs : List Int) : Prop where
  wf : ∀ x ∈ xs, 0 ≤ x ∧ x ≤ 18446744073709551615
  lies : 0 < xs.length → ∃ ad, a = some ad ∧ ∀ i x, xs[i]? = some x → w.cell? (ad.add i) = some (.int .u64 x)

theorem U64s.below {w w' : World} {a : Option Addr} {xs : List Int} (h : U64s w a xs) (hb : Below w.heap.size w w') : U64s w' a xs :=
  ⟨h.wf, fun h0 => by
    obtain ⟨ad, e, hc⟩ := h.lies h0
    refine ⟨ad, e, fun i x hx => ?_⟩
    have := hc i x hx
    rw [hb.cell (World.block_lt_of_cell? w _ this)]
    exact this⟩

structure LeafRel (w : World) (n k : Nat) (xs : List Int) (wr : World) : Prop where
  free : ∀ i, i < n → wr.there w.heap.size (i * 32) 32
  row : ∀ i, i < n → wr.rangeAt w.heap.size (i * 32) (cl (if i < k then leafD (xs.getD i 0) else zeroD))
  below : Below w.heap.size w wr
  lt : w.heap.size < wr.heap.size

theorem leaf_start {w w1 : World} {n : Nat} (xs : List Int) (h : w1.ownsRow w.heap.size 30 32 (.slice (some ⟨w.heap.size, 0, none⟩) n n) n (madeCells (cl zeroD).toArray (n * 32)).toList) (hg : w.grownBy w1 none) : LeafRel w n 0 xs w1 := by
  have O := out_start [] h hg
  refine ⟨O.free, fun i hi j v hv => ?_, O.below, O.lt⟩
  rw [if_neg (by omega)] at hv
  obtain ⟨hj, rfl⟩ := cl_at hv
  rw [zeroD_length] at hj
  have hc := h.cells (g := w.heap.size) rfl (i * 32 + j) (.int .u8 (zeroD.getD j 0)) (by
    have e : (cl zeroD)[(i * 32 + j) % 32]? = some (.int .u8 (zeroD.getD j 0)) := by
      rw [show (i * 32 + j) % 32 = j from by omega]; exact hv
    have h32 : (cl zeroD).length = 32 := by rw [cl_length, zeroD_length]
    simp only [madeCells, Array.toList_map, Array.toList_range, List.getElem?_map, List.size_toArray, h32]
    rw [List.getElem?_range (by omega)]
    simp only [Option.map_some]
    rw [getElem!_def, List.getElem?_toArray, e])
  rw [Addr.add_mid, Nat.zero_add] at hc
  exact hc

theorem leaf_below {w wr w2 : World} {n k : Nat} {xs : List Int} (h : LeafRel w n k xs wr) (hb : Below wr.heap.size wr w2) : LeafRel w n k xs w2 :=
  ⟨fun i hi => there_below (h.free i hi) hb h.lt, fun i hi => range_below (h.row i hi) hb h.lt, h.below.trans (hb.mono h.below.size), Nat.lt_of_lt_of_le h.lt hb.size⟩

theorem getD_left (a b : List Int) (j : Nat) (h : j < a.length) : (a ++ b).getD j 0 = a.getD j 0 := by simp [List.getD, List.getElem?_append_left h]
theorem getD_right (a b : List Int) (j : Nat) (h : a.length ≤ j) : (a ++ b).getD j 0 = b.getD (j - a.length) 0 := by simp [List.getD, List.getElem?_append_right h]

theorem rep_getD (n j : Nat) : (List.replicate n (0 : Int)).getD j 0 = 0 := by
  rw [List.getD, List.getElem?_replicate]; split <;> rfl

theorem range_part {w : World} {b o : Nat} {s : List Int} (hs : s.length = 13) (h : w.rangeAt b o (cl zeroD)) : (w.setCells b o (cl s)).rangeAt b o (cl (s ++ List.replicate 19 0)) := fun j v hv => by
  obtain ⟨hj, rfl⟩ := cl_at hv
  have hj32 : j < 32 := by simpa [hs] using hj
  by_cases h13 : j < 13
  · have hsl : (cl s).length = 13 := by rw [cl_length, hs]
    have hin := World.cell?_setCells_in b (cl s) o w (fun i hi => by rw [range_get h i (by rw [zeroD_length]; omega)]; rfl) j (by omega)
    rw [hin]
    have e1 : (cl s)[j]? = some (.int .u8 (s.getD j 0)) := cl_get s j (by omega)
    rw [List.getElem?_eq_getElem (by omega)] at e1
    rw [Option.some.inj e1, getD_left _ _ _ (by omega)]
  · rw [World.cell?_setCells_out b (cl s) o w ⟨b, o + j, none⟩ (fun _ _ => .inr (by rw [cl_length, hs]; show o + 13 ≤ o + j; omega)), range_get h j (by rw [zeroD_length]; omega)]
    congr 2
    rw [getD_right _ _ _ (by omega), hs]
    rw [zeroD, rep_getD, rep_getD]

theorem leaf_step {w wr : World} {n k : Nat} {xs : List Int} (h : LeafRel w n k xs wr) (hk : k < n) : LeafRel w n (k + 1) xs (wr.setCells w.heap.size (k * 32) (cl (byteInts (keyS (xs.getD k 0))))) := by
  have h13 : (byteInts (keyS (xs.getD k 0))).length = 13 := by rw [byteInts_length, keyS_size]
  refine ⟨fun i hi => World.there_setCells (h.free i hi) _ _ _, fun i hi => ?_, below_setCells (Nat.le_refl _) _ _ _ h.below, by rw [size_setCells]; exact h.lt⟩
  by_cases e : i = k
  · subst e
    have hz := h.row i hi
    rw [if_neg (by omega)] at hz
    rw [if_pos (by omega)]
    exact range_part h13 hz
  · have hr := h.row i hi
    have hl : (if i < k then leafD (xs.getD i 0) else zeroD).length = 32 := by split; exact leafD_length _; exact zeroD_length
    have e2 : (if i < k + 1 then leafD (xs.getD i 0) else zeroD) = if i < k then leafD (xs.getD i 0) else zeroD := by
      by_cases h2 : i < k
      · rw [if_pos h2, if_pos (by omega)]
      · rw [if_neg h2, if_neg (by omega)]
    rw [e2]
    refine World.rangeAt_setCells_apart hr _ _ _ (.inr ?_)
    rw [cl_length, cl_length, h13, hl]
    omega

theorem leaf_end {w wr : World} {n : Nat} {xs : List Int} (h : LeafRel w n n xs wr) (hn : xs.length = n) : Digs wr (some ⟨w.heap.size, 0, none⟩) (xs.map leafD) :=
  ⟨fun d hd => by obtain ⟨x, _, rfl⟩ := List.mem_map.1 hd; exact leafD_length x, fun _ => ⟨w.heap.size, 0, rfl, fun i d hd => by
    have hi : i < n := by have := (List.getElem?_eq_some_iff.1 hd).1; simpa [hn] using this
    have hr := h.row i hi
    rw [if_pos hi] at hr
    have e : d = leafD (xs.getD i 0) := by
      rw [List.getElem?_map, List.getElem?_eq_getElem (by omega)] at hd
      rw [List.getD, List.getElem?_eq_getElem (by omega)]
      exact (Option.some.inj hd).symm
    rw [e, Nat.zero_add]
    exact hr⟩⟩

theorem leaves_any (n cap : Nat) (a : Option Addr) (xs : List Int) (w : World) (hn : xs.length = n) (h1 : n ≤ 65536) (hd : U64s w a xs) :
    Calls Yatd.prog 5 #[.slice a n cap] w fun e w' => e = .returned (.slice (some ⟨w.heap.size, 0, none⟩) n n) ∧ Digs w' (some ⟨w.heap.size, 0, none⟩) (xs.map leafD) ∧ Below w.heap.size w w' := by
  have g2 : (n : Int) ≤ 65536 := by omega
  obtain ⟨i0, hi0, hz0, hz1, hz2⟩ := info_parts Yatd.info30
  go_enter Yatd.func5, Yatd.ntmps5
  go_wp2_with (first | (at_make; refine wpList_make_full _ (by rfl) _ _ 24 (by rfl) w.heap.size 30 i0 (.agg (cl zeroD).toArray) 32 Yatd.underlying24 hi0 hz0 hz1 .i64 .i64 _ _ n (by rfl) (by rfl) (by omega) (by omega) (by rw [hz2]; omega) (by unfold maxLen; omega) (Nat.le_refl _) ?_; intro w1 hown hgrow))
  have O0 := leaf_start xs hown hgrow
  clear hown hgrow
  go_loopw [11] (fun i wr => ∃ k : Nat, k ≤ n ∧ i = .int .i64 k ∧ LeafRel w n k xs wr) (fun i _ => n - (intOf i).toNat)
  case atStart => exact ⟨0, by omega, rfl, O0⟩
  case round =>
    obtain ⟨k, hk, rfl, O⟩ := hrel
    clear O0
    by_cases hlt : k < n
    · have hk0 : (0 : Int) ≤ (k : Int) := Int.natCast_nonneg _
      have hk1 : (k : Int) < (n : Int) := by omega
      obtain ⟨ad, rfl, hr⟩ := hd.lies (by omega)
      have hg : xs[k]? = some (xs.getD k 0) := by rw [List.getD, List.getElem?_eq_getElem (by omega)]; rfl
      have hc0 := hr k _ hg
      have hwf := hd.wf _ (List.mem_of_getElem? hg)
      have hc : wr.cell? (ad.add k) = some (.int .u64 (xs.getD k 0)) := by rw [O.below.cell (World.block_lt_of_cell? w _ hc0)]; exact hc0
      have ST : ∀ W, LeafRel w n k xs W → LeafRel w n (k + 1) xs (W.setCells w.heap.size (k * 32) (cl (byteInts (keyS (xs.getD k 0))))) := fun W hW => leaf_step hW hlt
      have HC : Hid (∀ W, Calls Yatd.prog 16 #[.int .u64 (xs.getD k 0)] W fun e w' => e = .returned (.string (keyS (xs.getD k 0))) ∧ Below W.heap.size W w') := key_any _ hwf.1 hwf.2
      have hks := keyS_size (xs.getD k 0)
      generalize keyS (xs.getD k 0) = s at *
      generalize xs.getD k 0 = x at *
      have HS : Hid (∀ W, LeafRel w n k xs W → LeafRel w n (k + 1) xs (W.setCells w.heap.size (k * 32) (cl (byteInts s)))) := ST
      have O2 := leaf_below O (w2 := wr.drew) (Below.refl _ _).drew
      clear hg hc0 hwf ST hr hd
      go_wp2
      refine wp_region_noPanic ?_
      refine wp_region_held_drew (S := fun _ => True) (by kernel_rfl) trivial (fun hH => ?_)
      refine held_move 0 (.tmp 3) rfl (by kernel_rfl) (by kernel_rfl) (by kernel_rfl) rfl rfl hH ?_
      simp only [Act.put, List.getElem_toArray, List.getElem_cons_zero, List.getElem_cons_succ, List.setIfInBounds_toArray, List.set_cons_zero, List.set_cons_succ]
      refine held_move 1 (.tmp 4) rfl (by kernel_rfl) (by kernel_rfl) (by kernel_rfl) rfl rfl hH ?_
      simp only [Act.put, List.getElem_toArray, List.getElem_cons_zero, List.getElem_cons_succ, List.setIfInBounds_toArray, List.set_cons_zero, List.set_cons_succ]
      refine held_index 2 (.tmp 16) (.tmp 17) w.heap.size 0 n n k rfl (by kernel_rfl) (by kernel_rfl) (by kernel_rfl) rfl rfl rfl rfl hlt hH ?_
      simp only [Act.put, List.getElem_toArray, List.getElem_cons_zero, List.getElem_cons_succ, List.setIfInBounds_toArray, List.set_cons_zero, List.set_cons_succ]
      refine held_slice30 3 (.tmp 18) w.heap.size (0 + k * 32) rfl (by kernel_rfl) (by kernel_rfl) (by kernel_rfl) rfl rfl rfl hH ?_
      simp only [Act.put, List.getElem_toArray, List.getElem_cons_zero, List.getElem_cons_succ, List.setIfInBounds_toArray, List.set_cons_zero, List.set_cons_succ]
      refine held_move 4 (.tmp 5) rfl (by kernel_rfl) (by kernel_rfl) (by kernel_rfl) rfl rfl hH ?_
      simp only [Act.put, List.getElem_toArray, List.getElem_cons_zero, List.getElem_cons_succ, List.setIfInBounds_toArray, List.set_cons_zero, List.set_cons_succ]
      refine held_exec 5 rfl (by kernel_rfl) (fun K hK => ?_)
      go_wp2_with (go_at_call 16; refine (HC.out _).mono ?_; rintro e w3 ⟨rfl, hb3⟩)
      have O3 := leaf_below O2 hb3
      refine hK.out _ _ trivial (fun _ => ?_)
      clear hK K
      refine held_exec 6 rfl (by kernel_rfl) (fun K hK => ?_)
      have ht := O3.free k hlt
      have H2 : Hid _ := HS.out w3 O3
      refine copy_str (.tmp 19) (.tmp 21) (by rfl) (by rfl) w.heap.size (k * 32) s hks (by simp [Act.eval]) (by rfl) (fun j hj => ht j (by omega)) ?_
      clear O O2 O3 ht
      go_wp2_with fail
      refine hK.out _ _ trivial (fun _ => ?_)
      clear hK K
      simp only [Act.put, List.getElem_toArray, List.getElem_cons_zero, List.getElem_cons_succ, List.setIfInBounds_toArray, List.set_cons_zero, List.set_cons_succ]
      refine held_done (by kernel_rfl) ?_
      go_wp2
      go_roundw
      case rel => exact ⟨k + 1, by omega, by go_num, H2.out⟩
      case measure => simp [intOf]; omega
    · obtain rfl : k = n := by omega
      have hE := leaf_end O hn
      have hB := O.below
      go_wp2
      go_ret
      exact ⟨rfl, hE, hB⟩

end Go.Proofs.Ygdatg
