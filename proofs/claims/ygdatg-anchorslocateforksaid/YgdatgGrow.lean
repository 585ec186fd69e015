import Derived.Test.YgdatgLeaf
namespace Go.Proofs.Ygdatg
open Go.RowKit

theorem Yatd.info27 : (Yatd.prog.info? 27).map (fun i => (i.zero, i.size, i.bytes)) = some (some (.int .u64 0), 1, 8) := by kernel_rfl

/-- 'append([]uint64(nil), make([]uint64, n)...)', n at least 1. -/
theorem run_append_zeros (w : World) (ty : TypeId) (n : Nat) (h0 : 0 < n) (h1 : n ≤ 65536) : ∃ (cap : Nat) (cs : Array Value), (Builtin.append_ #[22, 3] ty #[.slice none 0 0, .int .i64 n]).run Yatd.prog w =
      .ok (.slice (some ⟨w.heap.size, 0, none⟩) n cap) (w.drew.alloc (.cells cs 27)) ∧ n ≤ cap ∧ cap ≤ maxLen ∧ cs.size = cap := by
  obtain ⟨i, hi, hz, hs, hb⟩ := info_parts Yatd.info27
  have hn : n ≠ 0 := by omega
  have hw : IntKind.i64.wrap (n : Int) = n := by rw [IntKind.wrap_i64]; omega
  have e1 : ¬ ((n : Int) < 0) := by omega
  have e2 : ¬ (281474976710656 < (n : Int) * (8 : Int)) := by omega
  have h63' : ¬ (9223372036854775807 < (n : Int)) := by omega
  have h48' : ¬ (281474976710656 < Builtin.nextslicecap n 0 * 8) := by rw [nextslicecap_zero h0]; omega
  have hge := grownCap_ge w n 0 27
  refine ⟨grownCap w n 0 27, Builtin.zeroCells #[.int .u64 0] n ++ Builtin.zeroCells #[.int .u64 0] (grownCap w n 0 27 - n), ?_, hge, grownCap_le_maxLen w n 0 27 (by unfold maxLen; omega), ?_⟩
  · simp [Builtin.append_, run_underlying Yatd.underlying22, run_underlying Yatd.underlying3, sizeOf, typeInfo, zeroValue, hi, hz, hs, hb, hn, asInt, asIntOf, hw, e1, e2, h63', h48', Question.forced, run_firstCells_none, newRow, grownCap]
    rfl
  · simp only [Array.size_append, size_zeroCells]
    simp
    omega

theorem append_zeros {ops : Array Oper} {rest : List Oper} {op : Oper} {a : Act} {w : World} {Q : Exit → Act → World → Prop} (s x : Operand) (hgd : op.guard = none) (ho : op.op = .call { callee := .builtin .append, args := #[s, x], argTypes := #[22, 3] })
    (n : Nat) (h0 : 0 < n) (h1 : n ≤ 65536) (hs : a.eval s = .slice none 0 0) (hx : a.eval x = .int .i64 n)
    (h : ∀ (cap : Nat) (cs : Array Value), n ≤ cap → cap ≤ maxLen → cs.size = cap → wpList Yatd.prog ops Q rest (a.put op.dst (.slice (some ⟨w.heap.size, 0, none⟩) n cap)) (w.alloc (.cells cs 27)).drew) : wpList Yatd.prog ops Q (op :: rest) a w := by
  refine wpList_plain hgd fun K hK => ?_
  obtain ⟨cap, cs, hr, h2, h3, h4⟩ := run_append_zeros w op.type n h0 h1
  unfold Oper.wp
  simp [execOp, ho, resolve, invoke, builtin, hs, hx, hr, Result.andThen]
  exact hK _ _ (h cap cs h2 h3 h4)

/-- What Grow hands back: a row of the call's own that owns nothing yet. -/
theorem grow_any (n : Nat) (h1 : n ≤ 65536) (w : World) :
    Calls Yatd.prog 17 #[.slice none 0 0, .int .i64 n] w fun e w' => ∃ a c, e = .returned (.slice a 0 c) ∧ w'.ownsRow w.heap.size 27 1 (.slice a 0 c) 0 [] ∧ Below w.heap.size w w' := by
  have g0 : (0 : Int) ≤ (n : Int) := Int.natCast_nonneg _
  have g1 : (n : Int) ≤ 65536 := by omega
  by_cases h0 : 0 < n
  · have g2 : (0 : Int) < (n : Int) := by omega
    go_enter Yatd.func17, Yatd.ntmps17
    go_wp2_with (first | (at_builtin; refine append_zeros (.tmp 20) (.tmp 21) (by rfl) (by rfl) n h0 h1 (by rfl) (by rfl) ?_; intro cap cs hc1 hc2 hc3))
    go_ret
    exact ⟨some ⟨w.heap.size, 0, none⟩, cap, rfl, (World.ownsRow_made w cs cap (Nat.le_refl _) hc2 (by omega)).drew, ((Below.refl _ _).alloc (Nat.le_refl _) _).drew⟩
  · obtain rfl : n = 0 := by omega
    go_enter Yatd.func17, Yatd.ntmps17
    go_wp2
    go_ret
    exact ⟨none, 0, rfl, World.ownsRow_nil _ _ _ _, Below.refl _ _⟩

end Go.Proofs.Ygdatg
