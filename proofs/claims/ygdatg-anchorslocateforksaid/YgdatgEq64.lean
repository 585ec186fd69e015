import Derived.Test.YgdatgLeaf
namespace Go.Proofs.Ygdatg
open Go.RowKit

theorem get64 (xs : List Int) (k : Nat) (h : k < xs.length) : xs[k]? = some (xs.getD k 0) := by rw [List.getD, List.getElem?_eq_getElem h]; rfl
theorem take64 (xs ys : List Int) (k : Nat) (ha : k < xs.length) (hb : k < ys.length) (ht : xs.take k = ys.take k) (he : xs.getD k 0 = ys.getD k 0) : xs.take (k + 1) = ys.take (k + 1) := by
  rw [List.take_add_one, List.take_add_one, ht, get64 xs k ha, get64 ys k hb, he]

theorem eq64_any (n m c1 c2 : Nat) (a1 a2 : Option Addr) (xs ys : List Int) (w : World) (hn : xs.length = n) (hm : ys.length = m) (h1 : n ≤ 65536) (h2 : m ≤ 65536) (hd1 : U64s w a1 xs) (hd2 : U64s w a2 ys) (v : Bool) (hv : v = true ↔ xs = ys) :
    Calls Yatd.prog 15 #[.slice a1 n c1, .slice a2 m c2] w fun e w' => e = .returned (.bool v) ∧ Below w.heap.size w w' := by
  have g1 : (n : Int) ≤ 65536 := by omega
  have HV : Hid (v = true ↔ xs = ys) := hv
  clear hv
  by_cases hnm : n = m
  · subst hnm
    go_enter Yatd.func15, Yatd.ntmps15
    go_wp2
    go_loopw [13] (fun i wr => ∃ k : Nat, k ≤ n ∧ i = .int .i64 k ∧ xs.take k = ys.take k ∧ Below w.heap.size w wr) (fun i _ => n - (intOf i).toNat)
    case atStart => exact ⟨0, by omega, rfl, by simp, Below.refl _ _⟩
    case round =>
      obtain ⟨k, hk, rfl, htk, hb⟩ := hrel
      have HT : Hid (xs.take k = ys.take k) := htk
      clear htk
      by_cases hlt : k < n
      · obtain ⟨ad1, rfl, hr1⟩ := hd1.lies (by omega)
        obtain ⟨ad2, rfl, hr2⟩ := hd2.lies (by omega)
        have hk0 : (0 : Int) ≤ (k : Int) := Int.natCast_nonneg _
        have hk1 : (k : Int) < (n : Int) := by omega
        have r1 := hr1 k _ (get64 xs k (by omega))
        have r2 := hr2 k _ (get64 ys k (by omega))
        have HN : Hid (xs.getD k 0 = ys.getD k 0 → xs.take (k + 1) = ys.take (k + 1)) := take64 xs ys k (by omega) (by omega) HT.out
        have HM : Hid (xs.getD k 0 ≠ ys.getD k 0 → v = false) := fun hne => by
          cases v with
          | false => rfl
          | true => exact absurd (by rw [HV.out.1 rfl]) hne
        have s1 : wr.cell? (ad1.add k) = some (.int .u64 (xs.getD k 0)) := by rw [hb.cell (World.block_lt_of_cell? w _ r1)]; exact r1
        have s2 : wr.cell? (ad2.add k) = some (.int .u64 (ys.getD k 0)) := by rw [hb.cell (World.block_lt_of_cell? w _ r2)]; exact r2
        generalize xs.getD k 0 = x at *
        generalize ys.getD k 0 = y at *
        clear hd1 hd2 hr1 hr2 r1 r2 hn hm
        by_cases hxy : x = y
        · have HE : Hid _ := HN.out hxy
          subst hxy
          clear HN HM HT
          go_wp2
          go_quiet (fail)
          go_wp2
          go_roundw
          case rel => exact ⟨k + 1, by omega, by go_num, HE.out, below_drewN hb _⟩
          case measure => simp [intOf]; omega
        · have hvf := HM.out hxy
          subst hvf
          have hq : (x != y) = true := by rw [bne_iff_ne]; exact hxy
          clear HN HM HT
          go_wp2
          go_quiet (fail)
          go_wp2
          go_ret
          exact ⟨rfl, below_drewN hb _⟩
      · have hvt : v = true := HV.out.2 (by
          have := HT.out
          rwa [List.take_of_length_le (by omega), List.take_of_length_le (by omega)] at this)
        subst hvt
        go_wp2
        go_ret
        exact ⟨rfl, hb⟩
  · have hvf : v = false := by
      cases v with
      | false => rfl
      | true => exact absurd (by rw [← hn, ← hm, HV.out.1 rfl]) hnm
    subst hvf
    have hq : ((n : Int) != (m : Int)) = true := by rw [bne_iff_ne]; omega
    go_enter Yatd.func15, Yatd.ntmps15
    go_wp2
    go_ret
    exact ⟨rfl, Below.refl _ _⟩

end Go.Proofs.Ygdatg
