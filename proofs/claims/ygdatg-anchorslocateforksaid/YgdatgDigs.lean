import Derived.Test.YgdatgMix
namespace Go.Proofs.Ygdatg
open Go.RowKit

/-- The zero digest. -/
def zeroD : List Int := List.replicate 32 0
theorem zeroD_length : zeroD.length = 32 := by simp [zeroD]

/-- WHAT A SLICE OF DIGESTS HOLDS: its address matters only where there is an element. -/
structure Digs (w : World) (a : Option Addr) (ds : List (List Int)) : Prop where
  len : ∀ d ∈ ds, d.length = 32
  lies : 0 < ds.length → ∃ b o, a = some ⟨b, o, none⟩ ∧ ∀ i d, ds[i]? = some d → w.rangeAt b (o + i * 32) (cl d)

theorem range_lt {w : World} {b o : Nat} {d : List Int} (h : w.rangeAt b o (cl d)) (hl : d.length = 32) : b < w.heap.size :=
  World.block_lt_of_cell? w _ (range_get h 0 (by omega))

theorem Digs.below {w w' : World} {a : Option Addr} {ds : List (List Int)} (h : Digs w a ds) (hb : Below w.heap.size w w') : Digs w' a ds :=
  ⟨h.len, fun h0 => by
    obtain ⟨b, o, ha, hr⟩ := h.lies h0
    exact ⟨b, o, ha, fun i d hd => range_below (hr i d hd) hb (range_lt (hr i d hd) (h.len d (List.mem_of_getElem? hd)))⟩⟩

theorem Digs.take {w : World} {a : Option Addr} {ds : List (List Int)} (h : Digs w a ds) (k : Nat) : Digs w a (ds.take k) :=
  ⟨fun d hd => h.len d (List.mem_of_mem_take hd), fun h0 => by
    obtain ⟨b, o, ha, hr⟩ := h.lies (by rw [List.length_take] at h0; omega)
    refine ⟨b, o, ha, fun i d hd => hr i d ?_⟩
    rw [List.getElem?_take] at hd
    split at hd
    · exact hd
    · cases hd⟩

theorem Digs.nil (w : World) (a : Option Addr) : Digs w a [] := ⟨fun d hd => by simp at hd, fun h => by simp at h⟩

theorem Digs.getD_len {w : World} {a : Option Addr} {ds : List (List Int)} (h : Digs w a ds) (i : Nat) : (ds.getD i zeroD).length = 32 := by
  rw [List.getD]
  cases hq : ds[i]? with
  | none => simp [zeroD_length]
  | some d => simpa using h.len d (List.mem_of_getElem? hq)

theorem node_len {w : World} {a : Option Addr} {ds : List (List Int)} (h : Digs w a ds) : ∀ (k lo : Nat), (Plain.node mixD zeroD ds k lo).length = 32
  | 0, lo => h.getD_len lo
  | k + 1, lo => by rw [Plain.node]; split <;> exact mixD_length _ _

/-- Element i, where there is one. -/
theorem Digs.get {w : World} {b o : Nat} {ds : List (List Int)} (hr : ∀ i d, ds[i]? = some d → w.rangeAt b (o + i * 32) (cl d)) (i : Nat) (hi : i < ds.length) : w.rangeAt b (o + i * 32) (cl (ds.getD i zeroD)) := by
  refine hr i _ ?_
  rw [List.getD, List.getElem?_eq_getElem hi]; rfl

theorem Digs.drew {w : World} {a : Option Addr} {ds : List (List Int)} (h : Digs w a ds) : Digs w.drew a ds := h.below (Below.refl _ _).drew

/-- Behind 'x := f(..)', x a digest: a new variable that holds it. -/
theorem made_store {w w1 : World} {a : Option Addr} {ds : List (List Int)} {l : List Int} (hl : l.length = 32) (hb : Below w.heap.size w w1) (ht : w1.there w.heap.size 0 32) (hd : Digs w1 a ds) (W : World)
    (hW : (w1.alloc (.cells (cl zeroD).toArray 30)).setCells w1.heap.size 0 (cl l) = W) :
    W.rangeAt w1.heap.size 0 (cl l) ∧ W.there w.heap.size 0 32 ∧ Below w.heap.size w W ∧ Digs W a ds ∧ W.heap.size = w1.heap.size + 1 := by
  subst hW
  have hb1 : Below w1.heap.size w1 ((w1.alloc (.cells (cl zeroD).toArray 30)).setCells w1.heap.size 0 (cl l)) := below_setCells (Nat.le_refl _) _ _ _ ((Below.refl _ _).alloc (Nat.le_refl _) _)
  have hn : (w1.alloc (.cells (cl zeroD).toArray 30)).there w1.heap.size 0 32 := there_new w1 (cl zeroD).toArray 30
  refine ⟨World.rangeAt_setCells_same _ _ _ _ (by rw [cl_length, hl]; exact hn), there_below ht hb1 ?_, hb.trans (hb1.mono hb.size), hd.below hb1, ?_⟩
  · obtain ⟨u, hu⟩ := Option.isSome_iff_exists.1 (ht 0 (by omega)).1
    exact World.block_lt_of_cell? w1 _ hu
  · rw [size_setCells]; simp

theorem neq_in30 (w : World) (d : Nat) (xs ys : List Int) (hx : xs.length = 32) (hy : ys.length = 32) :
    (Op.equalIn (d + 2) 30 (.agg (cl xs).toArray) (.agg (cl ys).toArray)).run Yatd.prog w = .ok (xs == ys) w := by
  have hall : ∀ (xs ys : List Int), xs.length = ys.length → ((List.range xs.length).all fun i => xs.getD i 0 == ys.getD i 0) = (xs == ys) := by
    intro xs
    induction xs with
    | nil => intro ys h; cases ys with
      | nil => rfl
      | cons y ys => simp at h
    | cons x xs ih => intro ys h; cases ys with
      | nil => simp at h
      | cons y ys =>
        have := ih ys (by simpa using h)
        rw [List.length_cons, List.range_succ_eq_map, List.all_cons, List.all_map]
        simp only [List.getD_cons_zero, Function.comp_def, List.getD_cons_succ, this]
        simp [List.cons_beq_cons]
  have hsz : ∀ w, (sizeOf 5).run Yatd.prog w = .ok 1 w := fun w => by kernel_rfl
  have he : Yatd.prog.underlying 5 = some (.int .u8) := Yatd.underlying5
  rw [← hall xs ys (hx.trans hy.symm), hx, List.range_eq_range', Op.equalIn]
  simp only [Sem.run_bind, run_underlying Yatd.underlying30, Result.andThen_ok, hsz, Std.Legacy.Range.forIn_eq_forIn_range', Std.Legacy.Range.size, Nat.sub_zero, Nat.add_sub_cancel, Nat.div_one]
  have hl : ∀ i ∈ List.range' 0 32 1, i < 32 := fun i hi => by simpa using (List.mem_range'_1.1 hi).2
  generalize List.range' 0 32 1 = l at hl ⊢
  induction l with
  | nil => simp
  | cons i l ih =>
    have hi : i < 32 := hl i (by simp)
    have px : ∀ (zs : List Int), zs.length = 32 → (part 5 (cl zs).toArray (i * 1)).run Yatd.prog w = .ok (.int .u8 (zs.getD i 0)) w := fun zs hz => by
      have hg := cl_get zs i (by omega)
      simp [part, isAgg, run_underlying he, hg]
    have pe : (Op.equalIn (d + 1) 5 (.int .u8 (xs.getD i 0)) (.int .u8 (ys.getD i 0))).run Yatd.prog w = .ok (xs.getD i 0 == ys.getD i 0) w := run_equalIn_int w d 5 .u8 .u8 _ _ he
    simp only [List.forIn_cons, Sem.run_bind, px xs hx, px ys hy, pe, Result.andThen_ok, List.all_cons]
    cases hb : (xs.getD i 0 == ys.getD i 0)
    · simp
    · simp only [Bool.not_true, Bool.false_eq_true, if_false, Sem.run_pure, Result.andThen_ok, Bool.true_and]
      exact ih fun j hj => hl j (by simp [hj])

/-- 'x != y' on digests. -/
theorem neq30 (w : World) (xs ys : List Int) (hx : xs.length = 32) (hy : ys.length = 32) :
    (binOp .neq 30 (.agg (cl xs).toArray) (.agg (cl ys).toArray)).run Yatd.prog w = .ok (.bool (!(xs == ys))) w := by
  rw [run_neq_struct, neq_in30 w 9998 xs ys hx hy]; rfl

end Go.Proofs.Ygdatg
