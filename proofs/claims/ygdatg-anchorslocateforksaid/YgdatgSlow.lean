import Derived.Test.YgdatgLen
namespace Go.Proofs.Ygdatg
open Go.RowKit

/-- The root of a list of digests. -/
def rootD (ds : List (List Int)) : List Int := Plain.root mixD zeroD ds

theorem len2_16 (n : Nat) (h : n < 65536) : Plain.len2 n ≤ 16 := by
  by_cases h2 : 256 ≤ n
  · have := len2_le (n / 256) (by omega)
    have := len2_256 n h2
    omega
  · have := len2_le n (by omega)
    omega

theorem rootD_len {w : World} {a : Option Addr} {ds : List (List Int)} (h : Digs w a ds) (h0 : 0 < ds.length) : (rootD ds).length = 32 := by
  rw [rootD, Plain.root_node _ _ _ h0]; exact node_len h _ _

theorem slowRoot_any (n cap : Nat) (a : Option Addr) (ds : List (List Int)) (w : World) (hn : ds.length = n) (h0 : 0 < n) (h1 : n ≤ 65536) (hd : Digs w a ds) :
    Calls Yatd.prog 11 #[.slice a n cap] w fun e w' => e = .returned (.agg (cl (rootD ds)).toArray) ∧ Below w.heap.size w w' := by
  have hl := rootD_len hd (by omega)
  have hb := len2_16 (n - 1) (by omega)
  have HL : Hid (∀ W, Calls Yatd.prog 21 #[.int .u64 ((n : Int) - 1)] W fun e w' => e = .returned (.int .i64 (Plain.len2 (n - 1))) ∧ w' = W) := fun W => by
    have := len_any ((n : Int) - 1) (by omega) (by omega) W
    rwa [show ((n : Int) - 1).toNat = n - 1 from by omega] at this
  have HN : Hid (∀ W, Digs W a ds → Calls Yatd.prog 20 #[.slice a n cap, .int .i64 0, .int .i64 (Plain.len2 (n - 1))] W fun e w' => e = .returned (.agg (cl (rootD ds)).toArray) ∧ Below W.heap.size W w') := fun W hW => by
    have := node_any (Plain.len2 (n - 1)) 0 n cap a ds W hn h1 (by omega) (by omega) hW
    rw [rootD, Plain.root_node _ _ _ (by omega), hn]
    exact this
  generalize rootD ds = r at *
  generalize Plain.len2 (n - 1) = q at *
  clear hn
  have g0 : ((n : Int) == 0) = false := by simp; omega
  have g1 : (1 : Int) ≤ (n : Int) := by omega
  have g2 : (n : Int) ≤ 65536 := by omega
  have hB0 : Below w.heap.size w (w.alloc (.cells (cl zeroD).toArray 30)) := (Below.refl _ _).alloc (Nat.le_refl _) _
  have hB1 : (w.alloc (.cells (cl zeroD).toArray 30)).there w.heap.size 0 32 := there_new w (cl zeroD).toArray 30
  have hd1 := hd.below hB0
  go_enter Yatd.func11, Yatd.ntmps11
  go_wp2_with (first | (go_at_call 21; refine (HL.out _).mono ?_; rintro e w' ⟨rfl, rfl⟩))
  refine (HN.out (w.alloc (.cells (cl zeroD).toArray 30)) hd1).mono ?_
  rintro e w1 ⟨rfl, hb1⟩
  have ht1 := there_below hB1 hb1 (by simp)
  go_wp2_with (first | (refine store30 (.tmp 2) (.tmp 13) (by rfl) (by rfl) w.heap.size 0 r (by rfl) (by rfl) hl (by exact ht1) ?_))
  exact ret30 2 w.heap.size r rfl rfl hl (World.rangeAt_setCells_same _ _ _ _ (by rw [cl_length, hl]; exact ht1)) rfl ⟨rfl, below_setCells (Nat.le_refl _) _ _ _ (hB0.trans (hb1.mono (by simp)))⟩

end Go.Proofs.Ygdatg
