import Derived.Test.YgdatgHeld
namespace Go.Proofs.Ygdatg
open Go.RowKit

attribute [local go_sem ↓] Go.wp_at_zero Go.wp_at_succ

theorem eqD_quiet (n c1 c2 : Nat) (a1 a2 : Option Addr) (ds : List (List Int)) (w : World) (hn : ds.length = n) (h1 : n ≤ 65536) (hd1 : Digs w a1 ds) (hd2 : Digs w a2 ds) :
    Calls Yatd.prog 10 #[.slice a1 n c1, .slice a2 n c2] w fun e w' => e = .returned (.bool true) ∧ ∃ q, w' = w.drewN q := by
  have g2 : (n : Int) ≤ 65536 := by omega
  go_enter Yatd.func10, Yatd.ntmps10
  go_wp2
  go_loopw [13] (fun i wr => ∃ k : Nat, k ≤ n ∧ i = .int .i64 k ∧ ∃ q, wr = w.drewN q) (fun i _ => n - (intOf i).toNat)
  case atStart => exact ⟨0, by omega, rfl, 0, rfl⟩
  case round =>
    obtain ⟨k, hk, rfl, q, rfl⟩ := hrel
    by_cases hlt : k < n
    · obtain ⟨b1, o1, rfl, hr1⟩ := hd1.lies (by omega)
      obtain ⟨b2, o2, rfl, hr2⟩ := hd2.lies (by omega)
      have hk0 : (0 : Int) ≤ (k : Int) := Int.natCast_nonneg _
      have hk1 : (k : Int) < (n : Int) := by omega
      have hx := hd1.getD_len k
      have r1 := Digs.get hr1 k (by omega)
      have r2 := Digs.get hr2 k (by omega)
      generalize ds.getD k zeroD = x at *
      have s1 := range_drewN r1 q
      have s2 := range_drewN r2 q
      have hq : (x == x) = true := by simp
      clear hd1 hd2 hr1 hr2 r1 r2 hn
      go_wp2
      refine wp_region_quiet_lit (by kernel_rfl) (by kernel_rfl) ?_
      repeat (first
        | (refine quiet_load30 (.tmp 18) (by rfl) b1 (o1 + k * 32) x (by rfl) (by rfl) hx s1 ?_; simp only [Act.put, List.setIfInBounds_toArray, List.set_cons_zero, List.set_cons_succ])
        | (refine quiet_load30 (.tmp 22) (by rfl) b2 (o2 + k * 32) x (by rfl) (by rfl) hx s2 ?_; simp only [Act.put, List.setIfInBounds_toArray, List.set_cons_zero, List.set_cons_succ])
        | (refine quiet_neq30 (.tmp 19) (.tmp 23) (by rfl) x x true (by rfl) (by rfl) (by rfl) hx hx hq ?_; simp only [Act.put, List.setIfInBounds_toArray, List.set_cons_zero, List.set_cons_succ])
        | go_big_quiet_step (fail))
      refine wpQuiet_nil ?_
      intro _ hw'
      obtain ⟨nq, hw''⟩ := hw'
      subst hw''
      go_wp2
      go_roundw
      case rel => exact ⟨k + 1, by omega, by go_num, q + nq, rfl⟩
      case measure => simp [intOf]; omega
    · go_wp2
      go_ret
      exact ⟨rfl, q, rfl⟩

theorem eqD_true (n c1 c2 : Nat) (a1 a2 : Option Addr) (ds : List (List Int)) (w : World) (hn : ds.length = n) (h1 : n ≤ 65536) (hd1 : Digs w a1 ds) (hd2 : Digs w a2 ds) :
    Calls Yatd.prog 10 #[.slice a1 n c1, .slice a2 n c2] w fun e w' => e = .returned (.bool true) ∧ Below w.heap.size w w' :=
  (eqD_quiet n c1 c2 a1 a2 ds w hn h1 hd1 hd2).mono fun _ _ ⟨he, q, hw⟩ => ⟨he, by rw [hw]; exact below_drewN (Below.refl _ _) q⟩

end Go.Proofs.Ygdatg
