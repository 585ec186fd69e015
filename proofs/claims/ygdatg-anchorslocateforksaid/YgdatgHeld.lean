import Derived.Test.YgdatgDigs
import Derived.Deep.QuietTactic
import Derived.BigQuiet
namespace Go.Proofs.Ygdatg
open Go.RowKit

/-! ### A region that only reads, walked in the order of the text: whole digests among the reads -/
section
variable {ops : Array Oper} {rest : List Oper} {o : Oper} {a : Act} {w : World} {Q : Act → Prop}

theorem range_drewN {w : World} {b p : Nat} {cs : List Value} (h : w.rangeAt b p cs) (n : Nat) : (w.drewN n).rangeAt b p cs := h

theorem quiet_load30 (x : Operand) (ho : o.op = .load 30 x) (b p : Nat) (d : List Int) (hw : Region.wanted o (yielded ops a.tmps) = true) (hx : a.eval x = .pointer (some ⟨b, p, none⟩)) (hl : d.length = 32) (hc : w.rangeAt b p (cl d))
    (h : wpQuiet Yatd.prog ops (fun w' => ∃ n, w' = w.drewN n) Q rest (a.put o.dst (.agg (cl d).toArray))) : wpQuiet Yatd.prog ops (fun w' => ∃ n, w' = w.drewN n) Q (o :: rest) a := by
  refine BigFrame.wpQuiet_want hw fun K hK => ⟨.agg (cl d).toArray, fun w' hw' => ?_, hK _ h⟩
  obtain ⟨n, rfl⟩ := hw'
  unfold Oper.quietAt execOp
  simp only [ho, hx, Instr.loadAt, Instr.sureAddr, Sem.run_bind, Sem.run_pure, Result.andThen_ok, run_loadVar_mid (P := Yatd.prog) (w.drewN n) b p 30 (cl d) _ (range_drewN hc n) Yatd.underlying30 rfl (size30 d hl)]
  exact ⟨rfl, rfl⟩

theorem quiet_neq30 (x y : Operand) (ho : o.op = .binOp .neq 30 x y 30) (d e : List Int) (b : Bool) (hw : Region.wanted o (yielded ops a.tmps) = true) (hx : a.eval x = .agg (cl d).toArray) (hy : a.eval y = .agg (cl e).toArray) (hd : d.length = 32) (he : e.length = 32) (hb : (d == e) = b)
    (h : wpQuiet Yatd.prog ops (fun w' => ∃ n, w' = w.drewN n) Q rest (a.put o.dst (.bool (!b)))) : wpQuiet Yatd.prog ops (fun w' => ∃ n, w' = w.drewN n) Q (o :: rest) a := by
  refine BigFrame.wpQuiet_want hw fun K hK => ⟨.bool (!b), fun w' hw' => ?_, hK _ h⟩
  obtain ⟨n, rfl⟩ := hw'
  have hr := neq30 (w.drewN n) d e hd he
  rw [hb] at hr
  have hg := run_eqGuard_agg (P := Yatd.prog) (w.drewN n) .neq 30 x y (cl d).toArray (cl e).toArray (by kernel_rfl)
  unfold Oper.quietAt execOp
  simp only [ho, hx, hy, Sem.run_bind, Result.andThen_ok, hr, hg, Sem.run_pure]
  exact ⟨rfl, rfl⟩
end

end Go.Proofs.Ygdatg
