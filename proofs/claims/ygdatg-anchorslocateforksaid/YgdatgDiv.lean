import Derived.Test.YgdatgHeld
namespace Go.Proofs.Ygdatg
open Go.RowKit

theorem get_some (ds : List (List Int)) (k : Nat) (h : k < ds.length) : ds[k]? = some (ds.getD k zeroD) := by rw [List.getD, List.getElem?_eq_getElem h]; rfl
theorem take_succ (da db : List (List Int)) (k : Nat) (ha : k < da.length) (hb : k < db.length) (ht : da.take k = db.take k) (he : da.getD k zeroD = db.getD k zeroD) : da.take (k + 1) = db.take (k + 1) := by
  rw [List.take_add_one, List.take_add_one, ht, get_some da k ha, get_some db k hb, he]

theorem div_any (la lb c1 c2 : Nat) (a1 a2 : Option Addr) (da db : List (List Int)) (d : Int) (w : World) (ha : da.length = la) (hb : db.length = lb) (h1 : la ≤ 65536) (h2 : lb ≤ 65536)
    (hd1 : Digs w a1 da) (hd2 : Digs w a2 db) (hd : Plain.IsDiv da db d) :
    Calls Yatd.prog 13 #[.slice a1 la c1, .slice a2 lb c2] w fun e w' => e = .returned (.int .i64 d) ∧ Below w.heap.size w w' := by
  have g1 : (la : Int) ≤ 65536 := by omega
  have g2 : (lb : Int) ≤ 65536 := by omega
  rcases Nat.lt_or_ge lb la with hle | hle
  all_goals
    go_enter Yatd.func13, Yatd.ntmps13
    go_wp2
    go_loopw [6, 14] (fun t i wr => t = .int .i64 (-1) ∧ ∃ k : Nat, k ≤ min la lb ∧ i = .int .i64 k ∧ da.take k = db.take k ∧ Below w.heap.size w wr) (fun _ i _ => min la lb - (intOf i).toNat)
    case atStart => exact ⟨rfl, 0, by omega, rfl, by simp, Below.refl _ _⟩
    case round =>
      obtain ⟨rfl, k, hk, rfl, htk, hbel⟩ := hrel
      have HT : Hid (da.take k = db.take k) := htk
      clear htk
      have hk0 : (0 : Int) ≤ (k : Int) := Int.natCast_nonneg _
      by_cases hlt : k < min la lb
      · have hk1 : (k : Int) < (la : Int) := by omega
        have hk2 : (k : Int) < (lb : Int) := by omega
        obtain ⟨b1, o1, rfl, hr1⟩ := hd1.lies (by omega)
        obtain ⟨b2, o2, rfl, hr2⟩ := hd2.lies (by omega)
        have hx := hd1.getD_len k
        have hy := hd2.getD_len k
        have r1 := Digs.get hr1 k (by omega)
        have r2 := Digs.get hr2 k (by omega)
        have s1 := range_below r1 hbel (range_lt r1 hx)
        have s2 := range_below r2 hbel (range_lt r2 hy)
        have HN : Hid (da.getD k zeroD = db.getD k zeroD → da.take (k + 1) = db.take (k + 1)) := take_succ da db k (by omega) (by omega) HT.out
        have HM : Hid (da.getD k zeroD ≠ db.getD k zeroD → d = k) := fun hne => hd.uniq ⟨.inr ⟨k, rfl, HT.out, .inl ⟨_, _, get_some da k (by omega), get_some db k (by omega), hne⟩⟩⟩
        generalize da.getD k zeroD = x at *
        generalize db.getD k zeroD = y at *
        clear hd1 hd2 hr1 hr2 r1 r2 ha hb hd HT
        by_cases hxy : x = y
        · have hq : (x == y) = true := by simp [hxy]
          have HE := HN.out hxy
          have HN2 : Hid (da.take (k + 1) = db.take (k + 1)) := HE
          clear hxy HE HM HN
          go_wp2
          refine wp_region_quiet_lit (by kernel_rfl) (by kernel_rfl) ?_
          repeat (first
            | (refine quiet_load30 (.tmp 19) (by rfl) b1 (o1 + k * 32) x (by rfl) (by rfl) hx s1 ?_; simp only [Act.put, List.setIfInBounds_toArray, List.set_cons_zero, List.set_cons_succ])
            | (refine quiet_load30 (.tmp 23) (by rfl) b2 (o2 + k * 32) y (by rfl) (by rfl) hy s2 ?_; simp only [Act.put, List.setIfInBounds_toArray, List.set_cons_zero, List.set_cons_succ])
            | (refine quiet_neq30 (.tmp 20) (.tmp 24) (by rfl) x y true (by rfl) (by rfl) (by rfl) hx hy hq ?_; simp only [Act.put, List.setIfInBounds_toArray, List.set_cons_zero, List.set_cons_succ])
            | go_big_quiet_step (fail))
          refine wpQuiet_nil ?_
          intro _ hw'
          obtain ⟨nq, hw''⟩ := hw'
          subst hw''
          clear hq
          go_wp2
          go_roundw
          case rel => exact ⟨rfl, k + 1, by omega, by go_num, HN2.out, below_drewN hbel _⟩
          case measure => simp [intOf]; omega
        · have hq : (x == y) = false := by simp [hxy]
          have hdk := HM.out hxy
          subst hdk
          clear hxy HM HN
          go_wp2
          refine wp_region_quiet_lit (by kernel_rfl) (by kernel_rfl) ?_
          repeat (first
            | (refine quiet_load30 (.tmp 19) (by rfl) b1 (o1 + k * 32) x (by rfl) (by rfl) hx s1 ?_; simp only [Act.put, List.setIfInBounds_toArray, List.set_cons_zero, List.set_cons_succ])
            | (refine quiet_load30 (.tmp 23) (by rfl) b2 (o2 + k * 32) y (by rfl) (by rfl) hy s2 ?_; simp only [Act.put, List.setIfInBounds_toArray, List.set_cons_zero, List.set_cons_succ])
            | (refine quiet_neq30 (.tmp 20) (.tmp 24) (by rfl) x y false (by rfl) (by rfl) (by rfl) hx hy hq ?_; simp only [Act.put, List.setIfInBounds_toArray, List.set_cons_zero, List.set_cons_succ])
            | go_big_quiet_step (fail))
          refine wpQuiet_nil ?_
          intro _ hw'
          obtain ⟨nq, hw''⟩ := hw'
          subst hw''
          clear hq
          go_wp2
          go_ret
          exact ⟨rfl, below_drewN hbel _⟩
      · have q1 : min la lb ≤ k := by omega
        by_cases hne : la = lb
        · try (exfalso; omega)
          all_goals
            have hdk : d = -1 := hd.uniq ⟨.inl ⟨rfl, by
              have := HT.out
              rwa [List.take_of_length_le (by omega), List.take_of_length_le (by omega)] at this⟩⟩
            subst hdk
            have hn2 : ((la : Int) != (lb : Int)) = false := by simp [hne]
            clear hd1 hd2 ha hb hd HT
            subst hne
            go_wp2
            go_ret
            exact ⟨rfl, hbel⟩
        · have hdk : d = (min la lb : Nat) := hd.uniq ⟨.inr ⟨min la lb, rfl, by rw [show min la lb = k from by omega]; exact HT.out, .inr ⟨by omega, by rw [ha, hb]⟩⟩⟩
          have hdk2 : d = k := by omega
          subst hdk2
          have hn2 : ((la : Int) != (lb : Int)) = true := by rw [bne_iff_ne]; omega
          clear hd1 hd2 ha hb hd HT hdk
          go_wp2
          go_ret
          exact ⟨congrArg (fun z => Ending.returned (Value.int .i64 z)) (by omega), hbel⟩

end Go.Proofs.Ygdatg
