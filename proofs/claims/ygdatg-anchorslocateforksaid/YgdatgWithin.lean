import Derived.Test.YgdatgBase
namespace Go.Proofs.Ygdatg
open Go.RowKit
set_option linter.unusedSimpArgs false

def pre (l1 l2 l3 k : Nat) : Int := if k = 0 then 0 else if k = 1 then l1 else if k = 2 then (l1 : Int) + l2 else (l1 : Int) + l2 + l3

theorem within_any (b l1 l2 l3 : Nat) (w : World) (h1 : l1 ≤ 9223372036854775807) (h2 : l2 ≤ 9223372036854775807) (h3 : l3 ≤ 9223372036854775807)
    (c1 : w.cell? ⟨b, 0, none⟩ = some (.int .i64 l1)) (c2 : w.cell? ⟨b, 1, none⟩ = some (.int .i64 l2)) (c3 : w.cell? ⟨b, 2, none⟩ = some (.int .i64 l3)) :
    Calls Yatd.prog 4 #[.slice (some ⟨b, 0, none⟩) 3 3] w fun e w' => e = .returned (.bool (decide (l1 + l2 + l3 ≤ 65536))) ∧ w' = w := by
  have p0 : (0 : Int) ≤ l1 := by omega
  have p1 : (0 : Int) ≤ l2 := by omega
  have p2 : (0 : Int) ≤ l3 := by omega
  have q0 : (l1 : Int) ≤ 9223372036854775807 := by omega
  have q1 : (l2 : Int) ≤ 9223372036854775807 := by omega
  have q2 : (l3 : Int) ≤ 9223372036854775807 := by omega
  have HD : Hid (∀ v, decide (l1 + l2 + l3 ≤ 65536) = v ↔ (v = true ↔ l1 + l2 + l3 ≤ 65536)) := fun v => by
    cases v <;> simp
  generalize hv : decide (l1 + l2 + l3 ≤ 65536) = v at *
  have HV := (HD.out v).1 rfl
  have HX : Hid (v = true ↔ l1 + l2 + l3 ≤ 65536) := HV
  clear HV hv HD
  go_enter Yatd.func4, Yatd.ntmps4
  go_wp2
  go_loop [3, 8] (fun t i => ∃ k : Nat, k ≤ 3 ∧ i = .int .i64 k ∧ t = .int .i64 (pre l1 l2 l3 k) ∧ pre l1 l2 l3 k ≤ 65536) (fun _ i => 3 - (intOf i).toNat)
  case atStart => exact ⟨0, by omega, rfl, rfl, by simp [pre]⟩
  case round =>
    obtain ⟨k, hk, rfl, rfl, hp⟩ := hrel
    rcases (show k = 0 ∨ k = 1 ∨ k = 2 ∨ k = 3 by omega) with rfl | rfl | rfl | rfl
    · by_cases t : l1 ≤ 65536
      · have t1 : (l1 : Int) ≤ 65536 := by omega
        simp only [pre] at hp ⊢
        go_wp2
        go_round
        case rel => exact ⟨1, by omega, by simp, by simp [pre], by simp [pre]; omega⟩
        case measure => simp [intOf]
      · have t1 : (65536 : Int) < l1 := by omega
        have hf : v = false := by cases v with
          | false => rfl
          | true => have := HX.out.1 rfl; omega
        subst hf
        simp only [pre] at hp ⊢
        go_wp2
        go_ret
        exact ⟨rfl, rfl⟩
    · have hp1 : (l1 : Int) ≤ 65536 := by simpa [pre] using hp
      by_cases t : l1 + l2 ≤ 65536
      · have t1 : (l1 : Int) + l2 ≤ 65536 := by omega
        simp only [pre] at hp ⊢
        go_wp2
        go_round
        case rel => exact ⟨2, by omega, by simp, by simp [pre], by simp [pre]; omega⟩
        case measure => simp [intOf]
      · have t1 : (65536 : Int) - l1 < l2 := by omega
        have hf : v = false := by cases v with
          | false => rfl
          | true => have := HX.out.1 rfl; omega
        subst hf
        simp only [pre] at hp ⊢
        go_wp2
        go_ret
        exact ⟨rfl, rfl⟩
    · have hp1 : (l1 : Int) + l2 ≤ 65536 := by simpa [pre] using hp
      by_cases t : l1 + l2 + l3 ≤ 65536
      · have t1 : (l1 : Int) + l2 + l3 ≤ 65536 := by omega
        simp only [pre] at hp ⊢
        go_wp2
        go_round
        case rel => exact ⟨3, by omega, by simp, by simp [pre], by simp [pre]; omega⟩
        case measure => simp [intOf]
      · have t1 : (65536 : Int) - (l1 + l2) < l3 := by omega
        have hf : v = false := by cases v with
          | false => rfl
          | true => have := HX.out.1 rfl; omega
        subst hf
        simp only [pre] at hp ⊢
        go_wp2
        go_ret
        exact ⟨rfl, rfl⟩
    · have hp1 : (l1 : Int) + l2 + l3 ≤ 65536 := by simpa [pre] using hp
      have hf : v = true := HX.out.2 (by omega)
      subst hf
      simp only [pre] at hp ⊢
      go_wp2
      go_ret
      exact ⟨rfl, rfl⟩

end Go.Proofs.Ygdatg
