import Derived.Test.YgdatgDigs
namespace Go.Proofs.Ygdatg
open Go.RowKit

attribute [local go_sem ↓] Go.wp_at_zero Go.wp_at_succ

theorem pow_wrap (h : Nat) (hh : h ≤ 20) : wrap64 ((2 : Int) ^ h) = ((2 ^ h : Nat) : Int) := by
  have hp : 2 ^ h ≤ 2 ^ 20 := Nat.pow_le_pow_right (by omega) hh
  have e : (2 : Int) ^ h = ((2 ^ h : Nat) : Int) := by simp
  rw [e]
  generalize 2 ^ h = p at hp
  have hp2 : p ≤ 1048576 := by simpa using hp
  exact IntWalk.wrap64_in _ ⟨by omega, by omega⟩

set_option maxRecDepth 100000 in
theorem node_any (h : Nat) : ∀ (lo n cap : Nat) (a : Option Addr) (ds : List (List Int)) (w : World), ds.length = n → n ≤ 65536 → h ≤ 20 → lo < n → Digs w a ds →
    Calls Yatd.prog 20 #[.slice a n cap, .int .i64 lo, .int .i64 h] w fun e w' => e = .returned (.agg (cl (Plain.node mixD zeroD ds h lo)).toArray) ∧ Below w.heap.size w w' := by
  induction h with
  | zero =>
    intro lo n cap a ds w hn hn1 hh hlo hd
    obtain ⟨b, o, rfl, hr⟩ := hd.lies (by omega)
    have hlo0 : (0 : Int) ≤ (lo : Int) := Int.natCast_nonneg _
    have hlo1 : (lo : Int) < (n : Int) := by omega
    obtain ⟨x, hx⟩ : ∃ x, x = Plain.node mixD zeroD ds 0 lo := ⟨_, rfl⟩
    have hxl : x.length = 32 := by rw [hx]; exact node_len hd _ _
    have hxr : w.rangeAt b (o + lo * 32) (cl x) := by rw [hx]; exact Digs.get hr lo (by omega)
    rw [← hx]
    clear hx hd hr
    go_enter Yatd.func20, Yatd.ntmps20
    go_wp2_with (first | (refine load30 (.tmp 13) (by rfl) (by rfl) b (o + lo * 32) x (by rfl) hxl (by exact World.rangeAt_alloc hxr _) ?_) | (refine store30 (.tmp 6) (.tmp 14) (by rfl) (by rfl) w.heap.size 0 x (by rfl) (by rfl) hxl (by exact there_new w _ 30) ?_))
    exact ret30 6 w.heap.size x rfl rfl hxl (World.rangeAt_setCells_same _ _ _ _ (by rw [cl_length, hxl]; exact there_new w _ 30)) rfl ⟨rfl, below_setCells (Nat.le_refl _) _ _ _ ((Below.refl _ _).alloc (Nat.le_refl _) _)⟩
  | succ h ih =>
    intro lo n cap a ds w hn hn1 hh hlo hd
    have hlo0 : (0 : Int) ≤ (lo : Int) := Int.natCast_nonneg _
    have hlo1 : (lo : Int) < (n : Int) := by omega
    have hpw := pow_wrap h (by omega)
    have hp1 : 2 ^ h ≤ 2 ^ 20 := Nat.pow_le_pow_right (by omega) (by omega)
    have hnode : Plain.node mixD zeroD ds (h + 1) lo = if lo + 2 ^ h < n then mixD (Plain.node mixD zeroD ds h lo) (Plain.node mixD zeroD ds h (lo + 2 ^ h)) else mixD (Plain.node mixD zeroD ds h lo) (Plain.node mixD zeroD ds h lo) := by rw [Plain.node, hn]
    generalize 2 ^ h = p at *
    have hp2 : p ≤ 1048576 := by simpa using hp1
    clear hp1
    have hB0 : Below w.heap.size w (w.alloc (.cells (cl zeroD).toArray 30)) := (Below.refl _ _).alloc (Nat.le_refl _) _
    have hB1 : (w.alloc (.cells (cl zeroD).toArray 30)).there w.heap.size 0 32 := there_new w (cl zeroD).toArray 30
    have hd1 := hd.below hB0
    have ll := node_len hd h lo
    have lr := node_len hd h (lo + p)
    have IH1 := ih lo n cap a ds (w.alloc (.cells (cl zeroD).toArray 30)) hn hn1 (by omega) hlo hd1
    have IH2 : lo + p < n → ∀ W, Digs W a ds → Calls Yatd.prog 20 #[.slice a n cap, .int .i64 ((lo : Int) + (p : Int)), .int .i64 h] W fun e w' => e = .returned (.agg (cl (Plain.node mixD zeroD ds h (lo + p))).toArray) ∧ Below W.heap.size W w' := fun hc W hW => by
      have := ih (lo + p) n cap a ds W hn hn1 (by omega) hc hW
      rwa [Int.natCast_add] at this
    rw [hnode]
    clear hnode hn ih
    generalize Plain.node mixD zeroD ds h lo = l at *
    generalize Plain.node mixD zeroD ds h (lo + p) = r at *
    have H2 : Hid (lo + p < n → ∀ W, Digs W a ds → Calls Yatd.prog 20 #[.slice a n cap, .int .i64 ((lo : Int) + (p : Int)), .int .i64 h] W fun e w' => e = .returned (.agg (cl r).toArray) ∧ Below W.heap.size W w') := IH2
    have H1 : Hid (Calls Yatd.prog 20 #[.slice a n cap, .int .i64 lo, .int .i64 h] (w.alloc (.cells (cl zeroD).toArray 30)) fun e w' => e = .returned (.agg (cl l).toArray) ∧ Below (w.alloc (.cells (cl zeroD).toArray 30)).heap.size (w.alloc (.cells (cl zeroD).toArray 30)) w') := IH1
    clear IH1 IH2
    by_cases hc : lo + p < n
    · rw [if_pos hc]
      have hm := mixD_length l r
      have H3 : Hid (∀ W, Calls Yatd.prog 19 #[.agg (cl l).toArray, .agg (cl r).toArray] W fun e w' => e = .returned (.agg (cl (mixD l r)).toArray) ∧ Below W.heap.size W w') := slow_any l r ll lr
      generalize mixD l r = m at *
      have hc1 : (lo : Int) + (p : Int) < (n : Int) := by omega
      go_enter Yatd.func20, Yatd.ntmps20
      go_wp2_with fail
      refine H1.out.mono ?_
      rintro e w1 ⟨rfl, hb1⟩
      have hb1' : Below w.heap.size w w1 := hB0.trans (hb1.mono (by simp))
      have ht1 : w1.there w.heap.size 0 32 := there_below hB1 hb1 (by simp)
      have hd2 : Digs w1 a ds := hd1.below hb1
      have hlt : w.heap.size < w1.heap.size := by have := hb1.size; simp at this; omega
      clear hB0 hB1 hd1 hb1 hd H1
      go_wp2_with (first | (refine store30 (.tmp 7) (.tmp 19) (by rfl) (by rfl) w1.heap.size 0 l (by rfl) (by rfl) ll (by exact there_new w1 _ 30) ?_))
      generalize hW : World.setCells _ _ _ _ = W2
      obtain ⟨hr2, ht2, hb2, hd3, hs2⟩ := made_store ll hb1' ht1 hd2 W2 hW
      clear hW hb1' ht1 hd2
      have hr2d : W2.drew.rangeAt w1.heap.size 0 (cl l) := by simpa using hr2
      have ht2d : W2.drew.there w.heap.size 0 32 := by simpa using ht2
      have hd3d := hd3.drew
      have hb2d := hb2.drew
      have g1 : w1.heap.size < W2.drew.heap.size := by simp; omega
      have g2 : w.heap.size < W2.drew.heap.size := by simp; omega
      clear hr2 ht2 hd3 hb2
      have hi := size30 l ll
      have hi3 := size30 m hm
      have hl3 : (cl m).length = 32 := by rw [cl_length, hm]
      have ho3 := cl_one m
      have hwh : IntKind.i64.wrap (h : Int) = (h : Int) := by rw [IntKind.wrap_i64]; omega
      have hu := Yatd.underlying30
      go_region_held3 (fun w' => w'.rangeAt w1.heap.size 0 (cl l) ∧ w'.there w.heap.size 0 32)
        (first
          | with_reducible exact ⟨hr2d, ht2d⟩
          | with_reducible exact ⟨range_below hr2d hb3 g1, there_below ht2d hb3 g2⟩
          | with_reducible exact ⟨range_below (range_below hr2d hb3 g1) hb4 (Nat.lt_of_lt_of_le g1 hb3.size), there_below (there_below ht2d hb3 g2) hb4 (Nat.lt_of_lt_of_le g2 hb3.size)⟩
          | with_reducible exact ⟨World.rangeAt_setCells_apart (range_below (range_below hr2d hb3 g1) hb4 (Nat.lt_of_lt_of_le g1 hb3.size)) _ _ _ (Or.inl (Nat.ne_of_gt hlt)), World.there_setCells (there_below (there_below ht2d hb3 g2) hb4 (Nat.lt_of_lt_of_le g2 hb3.size)) _ _ _⟩)
        (first
          | (go_at_call 20; refine (H2.out hc _ hd3d).mono ?_; rintro e w3 ⟨rfl, hb3⟩)
          | (go_at_call 19; refine (H3.out _).mono ?_; rintro e w4 ⟨rfl, hb4⟩))
      go_wp2
      have g3 := Nat.lt_of_lt_of_le g2 hb3.size
      exact ret30 6 w.heap.size m rfl rfl hm (World.rangeAt_setCells_same _ _ _ _ (by rw [hl3]; exact there_below (there_below ht2d hb3 g2) hb4 g3)) rfl ⟨rfl, below_setCells (Nat.le_refl _) _ _ _ ((hb2d.trans (hb3.mono (Nat.le_of_lt g2))).trans (hb4.mono (Nat.le_of_lt g3)))⟩
    · rw [if_neg hc]
      have hm := mixD_length l l
      have H3 : Hid (∀ W, Calls Yatd.prog 19 #[.agg (cl l).toArray, .agg (cl l).toArray] W fun e w' => e = .returned (.agg (cl (mixD l l)).toArray) ∧ Below W.heap.size W w') := slow_any l l ll ll
      generalize mixD l l = m at *
      have hc1 : ¬ (lo : Int) + (p : Int) < (n : Int) := by omega
      go_enter Yatd.func20, Yatd.ntmps20
      go_wp2_with fail
      refine H1.out.mono ?_
      rintro e w1 ⟨rfl, hb1⟩
      have hb1' : Below w.heap.size w w1 := hB0.trans (hb1.mono (by simp))
      have ht1 : w1.there w.heap.size 0 32 := there_below hB1 hb1 (by simp)
      have hd2 : Digs w1 a ds := hd1.below hb1
      have hlt : w.heap.size < w1.heap.size := by have := hb1.size; simp at this; omega
      have hr1 : ((w1.alloc (.cells (cl zeroD).toArray 30)).setCells w1.heap.size 0 (cl l)).rangeAt w1.heap.size 0 (cl l) := (made_store ll hb1' ht1 hd2 _ rfl).1
      clear hB0 hB1 hd1 hb1 hd H1
      go_wp2_with (first | (refine store30 (.tmp 7) (.tmp 19) (by rfl) (by rfl) w1.heap.size 0 l (by rfl) (by rfl) ll (by exact there_new w1 _ 30) ?_) | (refine load30 (.tmp 7) (by rfl) (by rfl) w1.heap.size 0 l (by rfl) ll (by exact hr1) ?_))
      generalize hW : World.setCells _ _ _ _ = W2
      obtain ⟨hr2, ht2, hb2, hd3, hs2⟩ := made_store ll hb1' ht1 hd2 W2 hW
      clear hW hb1' ht1 hd2 hr1
      have g2 : w.heap.size < W2.heap.size := by omega
      refine (H3.out W2).mono ?_
      rintro e w4 ⟨rfl, hb4⟩
      have ht4 := there_below ht2 hb4 g2
      go_wp2_with (first | (refine store30 (.tmp 6) (.tmp 38) (by rfl) (by rfl) w.heap.size 0 m (by rfl) (by rfl) hm (by exact ht4) ?_))
      exact ret30 6 w.heap.size m rfl rfl hm (World.rangeAt_setCells_same _ _ _ _ (by rw [cl_length, hm]; exact ht4)) rfl ⟨rfl, below_setCells (Nat.le_refl _) _ _ _ (hb2.trans (hb4.mono (Nat.le_of_lt g2)))⟩

end Go.Proofs.Ygdatg
