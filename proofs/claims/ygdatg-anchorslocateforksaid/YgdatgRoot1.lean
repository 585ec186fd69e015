import Derived.Test.YgdatgRoot
namespace Go.Proofs.Ygdatg
open Go.RowKit

theorem root_one (cap : Nat) (a : Option Addr) (ds : List (List Int)) (w : World) (hn : ds.length = 1) (hd : Digs w a ds) :
    Calls Yatd.prog 12 #[.slice a 1 cap] w fun e w' => e = .returned (.agg (cl (rootD ds)).toArray) ∧ Below w.heap.size w w' := by
  obtain ⟨b, o, rfl, hr⟩ := hd.lies (by omega)
  have r1 := Digs.get hr 0 (by omega)
  have hl := rootD_len hd (by omega)
  rw [← rootD_one ds hn] at r1
  generalize rootD ds = r at *
  have r2 : w.rangeAt b o (cl r) := by simpa using r1
  clear hr r1 hd hn
  go_enter Yatd.func12, Yatd.ntmps12
  go_wp2_with (first
    | (refine load30 (.tmp 13) (by rfl) (by rfl) b o r (by rfl) hl (by exact World.rangeAt_alloc r2 _) ?_)
    | (refine store30 (.tmp 2) (.tmp 14) (by rfl) (by rfl) w.heap.size 0 r (by rfl) (by rfl) hl (by exact there_new w _ 30) ?_))
  exact ret30 2 w.heap.size r rfl rfl hl (World.rangeAt_setCells_same _ _ _ _ (by rw [cl_length, hl]; exact there_new w _ 30)) rfl ⟨rfl, below_setCells (Nat.le_refl _) _ _ _ ((Below.refl _ _).alloc (Nat.le_refl _) _)⟩

theorem root_nil (w : World) : Calls Yatd.prog 12 #[.slice none 0 0] w fun e w' => e = .returned (.agg (cl zeroD).toArray) ∧ Below w.heap.size w w' := by
  go_enter Yatd.func12, Yatd.ntmps12
  go_wp2_with (first
    | (refine store30 (.tmp 2) (.tmp 9) (by rfl) (by rfl) w.heap.size 0 zeroD (by rfl) (by rfl) zeroD_length (by exact there_new w _ 30) ?_))
  exact ret30 2 w.heap.size zeroD rfl rfl zeroD_length (World.rangeAt_setCells_same _ _ _ _ (by rw [cl_length, zeroD_length]; exact there_new w _ 30)) rfl ⟨rfl, below_setCells (Nat.le_refl _) _ _ _ ((Below.refl _ _).alloc (Nat.le_refl _) _)⟩

theorem root_any (n cap : Nat) (a : Option Addr) (ds : List (List Int)) (w : World) (hn : ds.length = n) (h0 : 0 < n) (h1 : n ≤ 65536) (hc : n ≤ cap) (hd : Digs w a ds) :
    Calls Yatd.prog 12 #[.slice a n cap] w fun e w' => e = .returned (.agg (cl (rootD ds)).toArray) ∧ Below w.heap.size w w' := by
  by_cases h : n = 1
  · subst h
    exact root_one cap a ds w hn hd
  · exact root_many n cap a ds w hn (by omega) h1 hc hd

end Go.Proofs.Ygdatg
