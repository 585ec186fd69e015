import Derived.Test.YgdatgHeld2
namespace Go.Proofs.Ygdatg
open Go.RowKit
set_option linter.unusedSimpArgs false

/-- A new variable that holds a digest. -/
theorem made_one {w1 W : World} {l : List Int} (hl : l.length = 32) (hW : (w1.alloc (.cells (cl zeroD).toArray 30)).setCells w1.heap.size 0 (cl l) = W) :
    W.rangeAt w1.heap.size 0 (cl l) ∧ Below w1.heap.size w1 W ∧ W.heap.size = w1.heap.size + 1 := by
  subst hW
  have hn : (w1.alloc (.cells (cl zeroD).toArray 30)).there w1.heap.size 0 32 := there_new w1 (cl zeroD).toArray 30
  exact ⟨World.rangeAt_setCells_same _ _ _ _ (by rw [cl_length, hl]; exact hn), below_setCells (Nat.le_refl _) _ _ _ ((Below.refl _ _).alloc (Nat.le_refl _) _), by rw [size_setCells]; simp⟩

theorem agree_any (n cap : Nat) (a : Option Addr) (ds : List (List Int)) (w : World) (hn : ds.length = n) (h1 : n ≤ 65536) (hd : Digs w a ds) :
    Calls Yatd.prog 8 #[.slice a n cap] w fun e w' => e = .returned (.bool true) ∧ Below w.heap.size w w' := by
  have g2 : (n : Int) ≤ 65536 := by omega
  go_enter Yatd.func8, Yatd.ntmps8
  go_wp2
  go_loopw [8] (fun i wr => ∃ k : Nat, k ≤ n ∧ i = .int .i64 k ∧ Below w.heap.size w wr) (fun i _ => n - (intOf i).toNat)
  case atStart => exact ⟨0, by omega, rfl, Below.refl _ _⟩
  case round =>
    obtain ⟨k, hk, rfl, hb⟩ := hrel
    by_cases hlt : k < n
    · obtain ⟨b, o, rfl, hr⟩ := hd.lies (by omega)
      have hk0 : (0 : Int) ≤ (k : Int) := Int.natCast_nonneg _
      have hk1 : (k : Int) < (n : Int) := by omega
      have hx := hd.getD_len k
      have hy := hd.getD_len (n - 1 - k)
      have r1 := Digs.get hr k (by omega)
      have r2 := Digs.get hr (n - 1 - k) (by omega)
      have l1 := range_lt r1 hx
      generalize ds.getD k zeroD = x at *
      generalize ds.getD (n - 1 - k) zeroD = y at *
      have s1 := range_below r1 hb l1
      have s2 := range_below r2 hb l1
      have lb : b < wr.heap.size := Nat.lt_of_lt_of_le l1 hb.size
      have hml := mixD_length x y
      have H18 : Hid (∀ W, Calls Yatd.prog 18 #[.agg (cl x).toArray, .agg (cl y).toArray] W fun e w' => e = .returned (.agg (cl (mixD x y)).toArray) ∧ Below W.heap.size W w') := mix_any x y hx hy
      have H19 : Hid (∀ W, Calls Yatd.prog 19 #[.agg (cl x).toArray, .agg (cl y).toArray] W fun e w' => e = .returned (.agg (cl (mixD x y)).toArray) ∧ Below W.heap.size W w') := slow_any x y hx hy
      generalize mixD x y = m at *
      clear hd hr r1 r2 hn
      go_wp2_with (first
        | (refine load30 (.tmp 11) (by rfl) (by rfl) b (o + k * 32) x (by rfl) hx (by exact s1) ?_)
        | (refine store30 (.tmp 4) (.tmp 12) (by rfl) (by rfl) wr.heap.size 0 x (by rfl) (by rfl) hx (by exact there_new wr _ 30) ?_; generalize hW1 : World.setCells _ _ _ _ = W1; obtain ⟨t1, hb1, z1⟩ := made_one hx hW1; have lw : wr.heap.size < W1.heap.size := (by omega); clear hW1 z1; have s3 := range_below s2 hb1 lb)
        | (refine load30 (.tmp 19) (by rfl) (by rfl) b (o + (n - 1 - k) * 32) y (by rfl) hy (by exact s3) ?_)
        | (refine store30 (.tmp 5) (.tmp 20) (by rfl) (by rfl) W1.heap.size 0 y (by rfl) (by rfl) hy (by exact there_new W1 _ 30) ?_; generalize hW2 : World.setCells _ _ _ _ = W2; obtain ⟨t2, hb2, z2⟩ := made_one hy hW2; have lw2 : W1.heap.size < W2.heap.size := (by omega); clear hW2 z2; have t3 := range_below t1 hb2 lw))
      have hq : ∀ w, (Op.equalIn 10000 30 (.agg (cl m).toArray) (.agg (cl m).toArray)).run Yatd.prog w = .ok true w := fun w => by rw [neq_in30 w 9998 m m hml hml]; simp
      have t2d : W2.drew.rangeAt W1.heap.size 0 (cl y) := by simpa using t2
      have t3d : W2.drew.rangeAt wr.heap.size 0 (cl x) := by simpa using t3
      have lw3 : wr.heap.size < W2.drew.heap.size := by simp; omega
      have lw4 : W1.heap.size < W2.drew.heap.size := by simp; omega
      have hb0 : Below w.heap.size w W2.drew := ((hb.trans (hb1.mono hb.size)).trans (hb2.mono (Nat.le_trans hb.size hb1.size))).drew
      clear t1 t2 t3 s1 s2 s3 hb1 hb2
      refine wp_region_noPanic ?_
      refine wp_region_held_drew (S := fun w' => w'.rangeAt wr.heap.size 0 (cl x) ∧ w'.rangeAt W1.heap.size 0 (cl y)) (by kernel_rfl) ⟨t3d, t2d⟩ (fun hH => ?_)
      refine held_load30 0 (.tmp 4) wr.heap.size 0 x rfl (by kernel_rfl) (by kernel_rfl) (by kernel_rfl) rfl rfl rfl hx (fun w h => h.1) hH ?_
      simp only [Act.put, List.setIfInBounds_toArray, List.set_cons_zero, List.set_cons_succ]
      refine held_load30 1 (.tmp 5) W1.heap.size 0 y rfl (by kernel_rfl) (by kernel_rfl) (by kernel_rfl) rfl rfl rfl hy (fun w h => h.2) hH ?_
      simp only [Act.put, List.setIfInBounds_toArray, List.set_cons_zero, List.set_cons_succ]
      refine held_load30 3 (.tmp 4) wr.heap.size 0 x rfl (by kernel_rfl) (by kernel_rfl) (by kernel_rfl) rfl rfl rfl hx (fun w h => h.1) hH ?_
      simp only [Act.put, List.setIfInBounds_toArray, List.set_cons_zero, List.set_cons_succ]
      refine held_load30 4 (.tmp 5) W1.heap.size 0 y rfl (by kernel_rfl) (by kernel_rfl) (by kernel_rfl) rfl rfl rfl hy (fun w h => h.2) hH ?_
      simp only [Act.put, List.setIfInBounds_toArray, List.set_cons_zero, List.set_cons_succ]
      refine held_exec 2 rfl (by kernel_rfl) (fun K hK => ?_)
      go_wp2_with (go_at_call 18; refine (H18.out _).mono ?_; rintro e w3 ⟨rfl, hb3⟩)
      have v1 := range_below t3d hb3 lw3
      have v2 := range_below t2d hb3 lw4
      have hb30 : Below w.heap.size w w3 := hb0.trans (hb3.mono (by have := hb0.size; exact this))
      have lw5 : wr.heap.size < w3.heap.size := Nat.lt_of_lt_of_le lw3 hb3.size
      have lw6 : W1.heap.size < w3.heap.size := Nat.lt_of_lt_of_le lw4 hb3.size
      refine hK.out _ _ ⟨v1, v2⟩ (fun hH3 => ?_)
      clear hK K hH t3d t2d hb3
      refine held_exec 5 rfl (by kernel_rfl) (fun K hK => ?_)
      go_wp2_with (go_at_call 19; refine (H19.out _).mono ?_; rintro e w4 ⟨rfl, hb4⟩)
      have v3 := range_below v1 hb4 lw5
      have v4 := range_below v2 hb4 lw6
      have hb40 : Below w.heap.size w w4 := hb30.trans (hb4.mono (by have := hb30.size; exact this))
      refine hK.out _ _ ⟨v3, v4⟩ (fun hH4 => ?_)
      clear hK K hH3 v1 v2 hb4
      refine held_exec 6 rfl (by kernel_rfl) (fun K hK => ?_)
      go_wp2_with fail
      refine hK.out _ _ ⟨v3, v4⟩ (fun hH5 => ?_)
      clear hK K hH4
      refine held_done (by kernel_rfl) ?_
      go_wp2
      go_roundw
      case rel => exact ⟨k + 1, by omega, by go_num, hb40⟩
      case measure => simp [intOf]; omega
    · go_wp2
      go_ret
      exact ⟨rfl, hb⟩

end Go.Proofs.Ygdatg
