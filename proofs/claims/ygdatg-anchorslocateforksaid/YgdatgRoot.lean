import Derived.Test.YgdatgFlat
namespace Go.Proofs.Ygdatg
open Go.RowKit
set_option linter.unusedSimpArgs false

/-- What the outer loop carries. -/
structure RootRel (ds : List (List Int)) (w : World) (al : Option Addr) (m cm : Nat) (lv : List (List Int)) (wr : World) : Prop where
  len : lv.length = m
  pos : 1 ≤ m
  top : m ≤ 65536
  cap : m ≤ cm
  digs : Digs wr al lv
  root : rootD lv = rootD ds
  below : Below w.heap.size w wr
  res : wr.there w.heap.size 0 32

/-- What the inner loop carries: j pairs are done, k digests are left. -/
structure InnerRel (lv : List (List Int)) (m c : Nat) (wr : World) (al : Option Addr) (k cm j : Nat) (wi : World) : Prop where
  len : 2 * j + k = m
  cap : k ≤ cm
  rest : Digs wr al (lv.drop (2 * j))
  own : wi.ownsRow wr.heap.size 30 32 (.slice (some ⟨wr.heap.size, 0, none⟩) j c) j (flat ((Plain.pairs mixD lv).take j))
  below : Below wr.heap.size wr wi

theorem inner_step {lv : List (List Int)} {m c : Nat} {wr : World} {b o k cm j : Nat} {wi w5 : World} (I : InnerRel lv m c wr (some ⟨b, o, none⟩) k cm j wi) (hl : lv.length = m) (hk : 1 < k) {q : List Int}
    (hq : (Plain.pairs mixD lv).take (j + 1) = (Plain.pairs mixD lv).take j ++ [q]) (hb : Below wr.heap.size wr w5)
    (own : w5.ownsRow wr.heap.size 30 32 (.slice (some ⟨wr.heap.size, 0, none⟩) (j + 1) c) (j + 1) (flat ((Plain.pairs mixD lv).take j) ++ cl q)) (al : Option Addr) (hal : 2 < k → al = some ⟨b, o + 2 * 32, none⟩) :
    InnerRel lv m c wr al (k - 2) (cm - 2) (j + 1) w5 := by
  have h1 := I.len
  have h2 := I.cap
  refine ⟨by omega, by omega, ?_, ?_, hb⟩
  · refine ⟨fun d hd => I.rest.len d ?_, fun h0 => ?_⟩
    · rw [show 2 * (j + 1) = 2 * j + 2 from by omega, ← List.drop_drop] at hd
      exact List.mem_of_mem_drop hd
    · rw [List.length_drop, hl] at h0
      obtain ⟨b', o', e, hr⟩ := I.rest.lies (by rw [List.length_drop, hl]; omega)
      have e2 : (⟨b, o, none⟩ : Addr) = ⟨b', o', none⟩ := Option.some.inj e
      obtain ⟨rfl, rfl⟩ : b = b' ∧ o = o' := ⟨congrArg Addr.block e2, congrArg Addr.off e2⟩
      refine ⟨b, o + 2 * 32, hal (by omega), fun i d hd => ?_⟩
      refine Digs.drop hr 2 i d ?_
      rw [List.drop_drop]
      rw [show 2 * (j + 1) = 2 * j + 2 from by omega] at hd
      exact hd
  · rw [hq, ← flat_snoc]; exact own

theorem there_lt {w : World} {b : Nat} (h : w.there b 0 32) : b < w.heap.size := by
  obtain ⟨u, hu⟩ := Option.isSome_iff_exists.1 (h 0 (by omega)).1
  exact World.block_lt_of_cell? w _ hu

theorem outer_step {ds : List (List Int)} {w : World} {al : Option Addr} {m cm c : Nat} {lv : List (List Int)} {wr w5 : World} (R : RootRel ds w al m cm lv wr) (hm : 1 < m) (hb : Below wr.heap.size wr w5) {t : Nat} (ht : t = (m + 1) / 2) (hc : t ≤ c)
    (own : w5.ownsRow wr.heap.size 30 32 (.slice (some ⟨wr.heap.size, 0, none⟩) t c) t (flat (Plain.pairs mixD lv))) : RootRel ds w (some ⟨wr.heap.size, 0, none⟩) t c (Plain.pairs mixD lv) w5 := by
  have hp := Plain.pairs_length mixD lv
  have hl := R.len
  have ht2 := R.top
  exact ⟨by omega, by omega, by omega, hc, own_digs own (pairs_len32 lv), (rootD_pairs lv (by omega)).trans R.root, R.below.trans (hb.mono R.below.size), there_below R.res hb (there_lt R.res)⟩

set_option maxHeartbeats 4000000 in
theorem root_many (n cap : Nat) (a : Option Addr) (ds : List (List Int)) (w : World) (hn : ds.length = n) (h0 : 2 ≤ n) (h1 : n ≤ 65536) (hc : n ≤ cap) (hd : Digs w a ds) :
    Calls Yatd.prog 12 #[.slice a n cap] w fun e w' => e = .returned (.agg (cl (rootD ds)).toArray) ∧ Below w.heap.size w w' := by
  have hB0 : Below w.heap.size w (w.alloc (.cells (cl zeroD).toArray 30)) := (Below.refl _ _).alloc (Nat.le_refl _) _
  have hB1 : (w.alloc (.cells (cl zeroD).toArray 30)).there w.heap.size 0 32 := there_new w (cl zeroD).toArray 30
  have R0 : RootRel ds w a n cap ds (w.alloc (.cells (cl zeroD).toArray 30)) := ⟨hn, by omega, h1, hc, hd.below hB0, rfl, hB0, hB1⟩
  have hres := rootD_len hd (by omega)
  obtain ⟨r, hr0⟩ : ∃ r, r = rootD ds := ⟨_, rfl⟩
  rw [← hr0] at hres ⊢
  have HR : Hid (r = rootD ds) := hr0
  clear hr0
  have q0 : ((n : Int) == 0) = false := by simp; omega
  have q1 : ((n : Int) == 1) = false := by simp; omega
  obtain ⟨i0, hi0, hz0, hz1, hz2⟩ := info_parts Yatd.info30
  clear hB0 hB1 hd hn
  go_enter Yatd.func12, Yatd.ntmps12
  go_wp2
  go_loopw [3] (fun l wr => ∃ al m cm lv, l = .slice al m cm ∧ RootRel ds w al m cm lv wr) (fun l _ => lenV l)
  case atStart => exact ⟨a, n, cap, ds, rfl, R0⟩
  case round =>
    obtain ⟨al, m, cm, lv, rfl, R⟩ := hrel
    obtain ⟨WR, rfl⟩ : ∃ W : World, W = wr := ⟨wr, rfl⟩
    clear R0 q0 q1
    have hm1 : (1 : Int) ≤ (m : Int) := by have := R.pos; omega
    have hm2 : (m : Int) ≤ 65536 := by have := R.top; omega
    by_cases hlt : 1 < m
    · have hlt1 : (1 : Int) < (m : Int) := by omega
      go_wp2_with (first | (at_make; refine wpList_make_own _ (by rfl) _ _ 24 (by rfl) WR.heap.size 30 i0 (.agg (cl zeroD).toArray) 32 Yatd.underlying24 hi0 hz0 hz1 .i64 .i64 _ (m - m / 2) (by rfl) (by rfl) (by omega) (by rw [hz2]; omega) (by unfold maxLen; omega) (Nat.le_refl _) ?_; intro w1 hown hgrow))
      have I0 : InnerRel lv m (m - m / 2) WR al m cm 0 w1 := ⟨by omega, R.cap, by simpa using R.digs, by simpa [flat] using hown, (Below.refl _ _).grown hgrow (Nat.le_refl _) (fun k hk => by cases hk)⟩
      have hc1 : m - m / 2 ≤ m := by omega
      have hc2 : m ≤ 2 * (m - m / 2) := by omega
      clear hown hgrow
      generalize m - m / 2 = c at *
      go_loopw [3, 4] (fun l nx wi => ∃ al' k cm' j, l = .slice al' k cm' ∧ nx = .slice (some ⟨WR.heap.size, 0, none⟩) j c ∧ InnerRel lv m c WR al' k cm' j wi) (fun l _ _ => lenV l)
      case atStart => exact ⟨al, m, cm, 0, rfl, rfl, I0⟩
      case round =>
        obtain ⟨al', k, cm', j, rfl, rfl, I⟩ := hrel
        clear I0
        have hkm : 2 * j + k = m := I.len
        have hk0 : (0 : Int) ≤ (k : Int) := Int.natCast_nonneg _
        have hk9 : (k : Int) ≤ 65536 := by omega
        have hkc : k ≤ cm' := I.cap
        by_cases hk1 : 1 < k
        · have hk2 : (1 : Int) < (k : Int) := by omega
          obtain ⟨b, o, rfl, hr⟩ := I.rest.lies (by rw [List.length_drop, R.len]; omega)
          have lx := R.digs.getD_len (2 * j)
          have ly := R.digs.getD_len (2 * j + 1)
          have r1 := Digs.get hr 0 (by rw [List.length_drop, R.len]; omega)
          have r2 := Digs.get hr 1 (by rw [List.length_drop, R.len]; omega)
          have hpt := pairs_take lv j (by rw [R.len]; omega)
          rw [show (lv.drop (2 * j)).getD 0 zeroD = lv.getD (2 * j) zeroD from by simp [List.getD]] at r1
          rw [show (lv.drop (2 * j)).getD 1 zeroD = lv.getD (2 * j + 1) zeroD from by simp [List.getD]] at r2
          generalize lv.getD (2 * j) zeroD = x at *
          generalize lv.getD (2 * j + 1) zeroD = y at *
          have lb := range_lt r1 lx
          have hbd := I.below.drew
          have s1 : wr.drew.rangeAt b (o + 0 * 32) (cl x) := range_below r1 hbd lb
          have s2 : wr.drew.rangeAt b (o + 1 * 32) (cl y) := range_below r2 hbd lb
          have hml := mixD_length x y
          have H18 : Hid (∀ W, Calls Yatd.prog 18 #[.agg (cl x).toArray, .agg (cl y).toArray] W fun e w' => e = .returned (.agg (cl (mixD x y)).toArray) ∧ Below W.heap.size W w') := mix_any x y lx ly
          generalize mixD x y = q at *
          have lbw : b < wr.drew.heap.size := Nat.lt_of_lt_of_le lb hbd.size
          have HP : Hid _ := hpt
          have OWN := I.own
          clear hpt hr r1 r2
          go_wp2
          refine wp_region_noPanic ?_
          refine wp_region_held_drew (S := fun w' => w'.rangeAt b (o + 0 * 32) (cl x) ∧ w'.rangeAt b (o + 1 * 32) (cl y)) (by kernel_rfl) ⟨s1, s2⟩ (fun hH => ?_)
          refine held_move 0 (.tmp 4) rfl (by kernel_rfl) (by kernel_rfl) (by kernel_rfl) rfl rfl hH ?_
          simp only [Act.put, List.setIfInBounds_toArray, List.set_cons_zero, List.set_cons_succ]
          refine held_move 1 (.tmp 3) rfl (by kernel_rfl) (by kernel_rfl) (by kernel_rfl) rfl rfl hH ?_
          simp only [Act.put, List.setIfInBounds_toArray, List.set_cons_zero, List.set_cons_succ]
          refine held_index 2 (.tmp 30) (.const (.int .i64 0)) b o k cm' 0 rfl (by kernel_rfl) (by kernel_rfl) (by kernel_rfl) rfl rfl rfl rfl (by omega) hH ?_
          simp only [Act.put, List.setIfInBounds_toArray, List.set_cons_zero, List.set_cons_succ]
          refine held_load30 3 (.tmp 31) b (o + 0 * 32) x rfl (by kernel_rfl) (by kernel_rfl) (by kernel_rfl) rfl rfl rfl lx (fun w h => h.1) hH ?_
          simp only [Act.put, List.setIfInBounds_toArray, List.set_cons_zero, List.set_cons_succ]
          refine held_move 4 (.tmp 3) rfl (by kernel_rfl) (by kernel_rfl) (by kernel_rfl) rfl rfl hH ?_
          simp only [Act.put, List.setIfInBounds_toArray, List.set_cons_zero, List.set_cons_succ]
          refine held_index 5 (.tmp 33) (.const (.int .i64 1)) b o k cm' 1 rfl (by kernel_rfl) (by kernel_rfl) (by kernel_rfl) rfl rfl rfl rfl (by omega) hH ?_
          simp only [Act.put, List.setIfInBounds_toArray, List.set_cons_zero, List.set_cons_succ]
          refine held_load30 6 (.tmp 34) b (o + 1 * 32) y rfl (by kernel_rfl) (by kernel_rfl) (by kernel_rfl) rfl rfl rfl ly (fun w h => h.2) hH ?_
          simp only [Act.put, List.setIfInBounds_toArray, List.set_cons_zero, List.set_cons_succ]
          refine held_exec 7 rfl (by kernel_rfl) (fun K hK => ?_)
          go_wp2_with (go_at_call 18; refine (H18.out _).mono ?_; rintro e w3 ⟨rfl, hb3⟩)
          have v1 := range_below s1 hb3 lbw
          have v2 := range_below s2 hb3 lbw
          have hb30 : Below WR.heap.size WR w3 := hbd.trans (hb3.mono hbd.size)
          refine hK.out _ _ ⟨v1, v2⟩ (fun hH3 => ?_)
          clear hK K hH
          refine held_exec 8 rfl (by kernel_rfl) (fun K hK => ?_)
          go_wp2_with (refine build1 (.tmp 36) (by rfl) (by rfl) q hml (by rfl) ?_)
          have O3 := own_below OWN.drew hb3
          have O4 := O3.alloc (.cells (cl q).toArray 30)
          have v3 := World.rangeAt_alloc v1 (.cells (cl q).toArray 30)
          have v4 := World.rangeAt_alloc v2 (.cells (cl q).toArray 30)
          have hb4 : Below WR.heap.size WR (w3.alloc (.cells (cl q).toArray 30)) := hb30.alloc hb30.size _
          have hN := news_new w3 q
          refine hK.out _ _ ⟨v3, v4⟩ (fun hH4 => ?_)
          clear hK K hH3 OWN O3 v1 v2
          simp only [Act.put, List.getElem_toArray, List.getElem_cons_zero, List.getElem_cons_succ, List.setIfInBounds_toArray, List.set_cons_zero, List.set_cons_succ]
          refine held_exec 9 rfl (by kernel_rfl) (fun K hK => ?_)
          refine wpList_append_fits _ (by rfl) (.tmp 29) (.tmp 37) 24 (by rfl) WR.heap.size 30 i0 32 Yatd.underlying24 hi0 hz1 WR.heap.size j c (flat ((Plain.pairs mixD lv).take j)) (by rfl) O4 ⟨w3.heap.size, 0, none⟩ 1 1 (cl q) (by rfl) (by rw [cl_length, hml]) hN (cl_one q) (by omega) ?_
          intro w5 own5 hgrow5
          go_wp2_with fail
          have v5 := range_grown v3 hgrow5 (by simp; omega)
          have v6 := range_grown v4 hgrow5 (by simp; omega)
          have hb5 : Below WR.heap.size WR w5 := hb4.grown hgrow5 hb4.size (fun k hk => by cases hk; exact Nat.le_refl _)
          refine hK.out _ _ ⟨v5, v6⟩ (fun hH5 => ?_)
          clear hK K hH4
          simp only [Act.put, List.getElem_toArray, List.getElem_cons_zero, List.getElem_cons_succ, List.setIfInBounds_toArray, List.set_cons_zero, List.set_cons_succ]
          refine held_exec 10 rfl (by kernel_rfl) (fun K hK => ?_)
          go_wp2_with fail
          refine hK.out _ _ ⟨v5, v6⟩ (fun hH6 => ?_)
          clear hK K hH5
          try simp only [Act.put, List.getElem_toArray, List.getElem_cons_zero, List.getElem_cons_succ, List.setIfInBounds_toArray, List.set_cons_zero, List.set_cons_succ]
          refine held_done (by kernel_rfl) ?_
          have I2 := inner_step I R.len hk1 HP.out hb5 own5
          have H2 : Hid _ := I2
          clear I2 I own5 hgrow5 v5 v6 hH6 O4 hb4 hN HP H18
          go_wp2
          go_roundw
          case rel => exact ⟨_, k - 2, cm' - 2, j + 1, rfl, rfl, H2.out _ (fun h => if_neg (by omega))⟩
          case measure => simp [lenV]; omega
        · by_cases hk3 : k = 1
          · subst hk3
            obtain ⟨b, o, rfl, hr⟩ := I.rest.lies (by rw [List.length_drop, R.len]; omega)
            have lx := R.digs.getD_len (2 * j)
            have r1 := Digs.get hr 0 (by rw [List.length_drop, R.len]; omega)
            have hpt := pairs_odd lv j (by rw [R.len]; omega)
            rw [show (lv.drop (2 * j)).getD 0 zeroD = lv.getD (2 * j) zeroD from by simp [List.getD]] at r1
            generalize lv.getD (2 * j) zeroD = x at *
            have lb := range_lt r1 lx
            have hbd := I.below.drew
            have s1 : wr.drew.rangeAt b (o + 0 * 32) (cl x) := range_below r1 hbd lb
            have hml := mixD_length x x
            have H18 : Hid (∀ W, Calls Yatd.prog 18 #[.agg (cl x).toArray, .agg (cl x).toArray] W fun e w' => e = .returned (.agg (cl (mixD x x)).toArray) ∧ Below W.heap.size W w') := mix_any x x lx lx
            generalize mixD x x = q at *
            have lbw : b < wr.drew.heap.size := Nat.lt_of_lt_of_le lb hbd.size
            have HP : Hid (flat ((Plain.pairs mixD lv).take j) ++ cl q = flat (Plain.pairs mixD lv)) := by
              show _ = _
              rw [flat_snoc, ← hpt]
            have OWN := I.own
            clear hpt hr r1 I
            go_wp2
            refine wp_region_noPanic ?_
            refine wp_region_held_drew (S := fun w' => w'.rangeAt b (o + 0 * 32) (cl x)) (by kernel_rfl) s1 (fun hH => ?_)
            refine held_move 0 (.tmp 4) rfl (by kernel_rfl) (by kernel_rfl) (by kernel_rfl) rfl rfl hH ?_
            simp only [Act.put, List.getElem_toArray, List.getElem_cons_zero, List.getElem_cons_succ, List.setIfInBounds_toArray, List.set_cons_zero, List.set_cons_succ]
            refine held_move 1 (.tmp 3) rfl (by kernel_rfl) (by kernel_rfl) (by kernel_rfl) rfl rfl hH ?_
            simp only [Act.put, List.getElem_toArray, List.getElem_cons_zero, List.getElem_cons_succ, List.setIfInBounds_toArray, List.set_cons_zero, List.set_cons_succ]
            refine held_index 2 (.tmp 45) (.const (.int .i64 0)) b o 1 cm' 0 rfl (by kernel_rfl) (by kernel_rfl) (by kernel_rfl) rfl rfl rfl rfl (by omega) hH ?_
            simp only [Act.put, List.getElem_toArray, List.getElem_cons_zero, List.getElem_cons_succ, List.setIfInBounds_toArray, List.set_cons_zero, List.set_cons_succ]
            refine held_load30 3 (.tmp 46) b (o + 0 * 32) x rfl (by kernel_rfl) (by kernel_rfl) (by kernel_rfl) rfl rfl rfl lx (fun w h => h) hH ?_
            simp only [Act.put, List.getElem_toArray, List.getElem_cons_zero, List.getElem_cons_succ, List.setIfInBounds_toArray, List.set_cons_zero, List.set_cons_succ]
            refine held_move 4 (.tmp 3) rfl (by kernel_rfl) (by kernel_rfl) (by kernel_rfl) rfl rfl hH ?_
            simp only [Act.put, List.getElem_toArray, List.getElem_cons_zero, List.getElem_cons_succ, List.setIfInBounds_toArray, List.set_cons_zero, List.set_cons_succ]
            refine held_index 5 (.tmp 48) (.const (.int .i64 0)) b o 1 cm' 0 rfl (by kernel_rfl) (by kernel_rfl) (by kernel_rfl) rfl rfl rfl rfl (by omega) hH ?_
            simp only [Act.put, List.getElem_toArray, List.getElem_cons_zero, List.getElem_cons_succ, List.setIfInBounds_toArray, List.set_cons_zero, List.set_cons_succ]
            refine held_load30 6 (.tmp 49) b (o + 0 * 32) x rfl (by kernel_rfl) (by kernel_rfl) (by kernel_rfl) rfl rfl rfl lx (fun w h => h) hH ?_
            simp only [Act.put, List.getElem_toArray, List.getElem_cons_zero, List.getElem_cons_succ, List.setIfInBounds_toArray, List.set_cons_zero, List.set_cons_succ]
            refine held_exec 7 rfl (by kernel_rfl) (fun K hK => ?_)
            go_wp2_with (go_at_call 18; refine (H18.out _).mono ?_; rintro e w3 ⟨rfl, hb3⟩)
            have v1 := range_below s1 hb3 lbw
            have hb30 : Below WR.heap.size WR w3 := hbd.trans (hb3.mono hbd.size)
            refine hK.out _ _ v1 (fun hH3 => ?_)
            clear hK K hH
            refine held_exec 8 rfl (by kernel_rfl) (fun K hK => ?_)
            go_wp2_with (refine build1 (.tmp 51) (by rfl) (by rfl) q hml (by rfl) ?_)
            have O3 := own_below OWN.drew hb3
            have O4 := O3.alloc (.cells (cl q).toArray 30)
            have v3 := World.rangeAt_alloc v1 (.cells (cl q).toArray 30)
            have hb4 : Below WR.heap.size WR (w3.alloc (.cells (cl q).toArray 30)) := hb30.alloc hb30.size _
            have hN := news_new w3 q
            refine hK.out _ _ v3 (fun hH4 => ?_)
            clear hK K hH3 OWN O3 v1
            simp only [Act.put, List.getElem_toArray, List.getElem_cons_zero, List.getElem_cons_succ, List.setIfInBounds_toArray, List.set_cons_zero, List.set_cons_succ]
            refine held_exec 9 rfl (by kernel_rfl) (fun K hK => ?_)
            refine wpList_append_fits _ (by rfl) (.tmp 44) (.tmp 52) 24 (by rfl) WR.heap.size 30 i0 32 Yatd.underlying24 hi0 hz1 WR.heap.size j c (flat ((Plain.pairs mixD lv).take j)) (by rfl) O4 ⟨w3.heap.size, 0, none⟩ 1 1 (cl q) (by rfl) (by rw [cl_length, hml]) hN (cl_one q) (by omega) ?_
            intro w5 own5 hgrow5
            go_wp2_with fail
            have v5 := range_grown v3 hgrow5 (by simp; omega)
            have hb5 : Below WR.heap.size WR w5 := hb4.grown hgrow5 hb4.size (fun k hk => by cases hk; exact Nat.le_refl _)
            refine hK.out _ _ v5 (fun hH5 => ?_)
            clear hK K hH4
            simp only [Act.put, List.getElem_toArray, List.getElem_cons_zero, List.getElem_cons_succ, List.setIfInBounds_toArray, List.set_cons_zero, List.set_cons_succ]
            refine held_exec 10 rfl (by kernel_rfl) (fun K hK => ?_)
            go_wp2_with fail
            refine hK.out _ _ v5 (fun hH6 => ?_)
            clear hK K hH5
            try simp only [Act.put, List.getElem_toArray, List.getElem_cons_zero, List.getElem_cons_succ, List.setIfInBounds_toArray, List.set_cons_zero, List.set_cons_succ]
            refine held_done (by kernel_rfl) ?_
            rw [HP.out] at own5
            have R2 := outer_step R hlt hb5 (by omega) (by omega) own5
            have H2 : Hid _ := R2
            clear R2 R own5 hgrow5 v5 hH6 O4 hb4 hN HP H18
            go_wp2
            go_roundw
            case rel => exact ⟨_, _, _, _, rfl, H2.out⟩
            case measure => simp [lenV]; omega
          · obtain rfl : k = 0 := by omega
            have own5 := I.own
            have hb5 := I.below
            rw [pairs_even lv j (by rw [R.len]; omega)] at own5
            have R2 := outer_step R hlt hb5 (by omega) (by omega) own5
            have H2 : Hid _ := R2
            clear R2 R own5 hb5 I
            go_wp2
            go_roundw
            case rel => exact ⟨_, _, _, _, rfl, H2.out⟩
            case measure => simp [lenV]; omega
    · obtain rfl : m = 1 := by have := R.pos; omega
      obtain ⟨b, o, rfl, hr⟩ := R.digs.lies (by rw [R.len]; omega)
      have r1 := Digs.get hr 0 (by rw [R.len]; omega)
      rw [← rootD_one lv R.len, R.root, ← HR.out] at r1
      have ht := R.res
      have hbel := R.below
      have r2 : WR.rangeAt b o (cl r) := by simpa using r1
      clear R hr r1
      go_wp2_with (first
        | (refine load30 (.tmp 56) (by rfl) (by rfl) b o r (by rfl) hres (by exact r2) ?_)
        | (refine store30 (.tmp 2) (.tmp 57) (by rfl) (by rfl) w.heap.size 0 r (by rfl) (by rfl) hres (by exact ht) ?_))
      exact ret30 2 w.heap.size r rfl rfl hres (World.rangeAt_setCells_same _ _ _ _ (by rw [cl_length, hres]; exact ht)) rfl ⟨rfl, below_setCells (Nat.le_refl _) _ _ _ hbel⟩

end Go.Proofs.Ygdatg
