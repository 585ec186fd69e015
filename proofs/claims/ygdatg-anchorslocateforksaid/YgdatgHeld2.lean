import Derived.Test.YgdatgHeld
namespace Go.Proofs.Ygdatg
open Go.RowKit

/-! ### A region that draws its order, under a fact S on the world that every operation keeps: the reads of whole digests are taken first, one by one -/
section
variable {ops : Array Oper} {Q : Exit → Act → World → Prop} {S : World → Prop} {fuel : Nat} {listed : Array Bool} {a : Act} {w : World} {o : Oper}

theorem held_move (i : Nat) (x : Operand) (hi : ops[i]? = some o) (hs : Region.noSelect ops = true) (hf : Region.free .any ops listed i = true) (hr : (Region.ready .any ops listed).contains i = true)
    (ho : o.op = .move x) (hw : Region.wanted o (yielded ops a.tmps) = true) (hS : S w)
    (h : wpAnyH Yatd.prog .any ops (NoPanic Q) S fuel (listed.setIfInBounds i true) (a.put o.dst (a.eval x)) w) : wpAnyH Yatd.prog .any ops (NoPanic Q) S (fuel + 1) listed a w :=
  wpAnyH_take hi hs hf hr (fun _ _ _ h => h) (.inl ⟨hw, fun w _ => BigFrame.run_move x ho w⟩) hS h

theorem held_load30 (i : Nat) (x : Operand) (b p : Nat) (d : List Int) (hi : ops[i]? = some o) (hs : Region.noSelect ops = true) (hf : Region.free .any ops listed i = true) (hr : (Region.ready .any ops listed).contains i = true)
    (ho : o.op = .load 30 x) (hw : Region.wanted o (yielded ops a.tmps) = true) (hx : a.eval x = .pointer (some ⟨b, p, none⟩)) (hl : d.length = 32) (hc : ∀ w, S w → w.rangeAt b p (cl d)) (hS : S w)
    (h : wpAnyH Yatd.prog .any ops (NoPanic Q) S fuel (listed.setIfInBounds i true) (a.put o.dst (.agg (cl d).toArray)) w) : wpAnyH Yatd.prog .any ops (NoPanic Q) S (fuel + 1) listed a w :=
  wpAnyH_take hi hs hf hr (fun _ _ _ h => h) (yieldsIf_load_mid hw 30 x ho b p hx (cl d) _ hc Yatd.underlying30 rfl (size30 d hl)) hS h

theorem held_index (i : Nat) (x y : Operand) (b p n c : Nat) (k : Nat) (hi : ops[i]? = some o) (hs : Region.noSelect ops = true) (hf : Region.free .any ops listed i = true) (hr : (Region.ready .any ops listed).contains i = true)
    (ho : o.op = .indexAddr 24 x y) (hw : Region.wanted o (yielded ops a.tmps) = true) (hx : a.eval x = .slice (some ⟨b, p, none⟩) n c) (hy : a.eval y = .int .i64 k) (hk : k < n) (hS : S w)
    (h : wpAnyH Yatd.prog .any ops (NoPanic Q) S fuel (listed.setIfInBounds i true) (a.put o.dst (.pointer (some ⟨b, p + k * 32, none⟩))) w) : wpAnyH Yatd.prog .any ops (NoPanic Q) S (fuel + 1) listed a w :=
  wpAnyH_take hi hs hf hr (fun _ _ _ h => h) (.inl ⟨hw, fun w _ => by
    have he : Yatd.prog.elem 24 = 30 := by kernel_rfl
    have h32 : (sizeOf 30).run Yatd.prog w = .ok 32 w := by kernel_rfl
    have hr := run_indexAt_slice (P := Yatd.prog) w 24 ⟨b, p, none⟩ n c .i64 k (by rw [he]; exact Yatd.underlying24)
    rw [if_pos ⟨by omega, by omega⟩, he, h32] at hr
    simp only [Result.andThen_ok, Int.toNat_natCast, Addr.add_mid] at hr
    unfold execOp
    simp only [ho, hx, hy, hr, Sem.run_bind, Result.andThen_ok, Sem.run_pure]⟩) hS h

theorem wp_then {K : Act → World → Prop} (hh : o.wp Yatd.prog a w K (Exit.then K Q)) : o.wp Yatd.prog a w K Q := by
  unfold Oper.wp at *
  generalize (execOp a.eval o).run Yatd.prog w = r at *
  cases r with
  | ok n w' =>
    cases n <;> simp only [Oper.upon] at hh ⊢ <;>
      first
        | exact hh
        | exact Calls.mono hh (fun e w'' he => by cases e <;> exact he)
  | halt x w' => cases x <;> simp only [Oper.upon] at hh ⊢ <;> exact hh

/-- The one operation that may come up, walked as a region's plain list is. -/
theorem held_exec (i : Nat) (hi : ops[i]? = some o) (hr : Region.ready .any ops listed = [i])
    (h : ∀ K : Act → World → Prop, Shut (∀ a w, S w → (S w → wpAnyH Yatd.prog .any ops (NoPanic Q) S fuel (listed.setIfInBounds i true) a w) → K a w) → wpList Yatd.prog ops (Exit.then K (NoPanic Q)) [o] a w) :
    wpAnyH Yatd.prog .any ops (NoPanic Q) S (fuel + 1) listed a w := by
  refine wpAnyH_all hr (by simp) fun j hj => ?_
  obtain rfl : j = i := by simpa using hj
  have h1 := h (fun a' w' => S w' ∧ wpAnyH Yatd.prog .any ops (NoPanic Q) S fuel (listed.setIfInBounds j true) a' w') (fun a w hS hW => ⟨hS, hW hS⟩)
  unfold wpOp
  simp only [hi]
  unfold wpList at h1
  split at h1
  · rename_i hw
    rw [if_pos hw]
    rcases h1 with h1 | h1
    · exact .inl (wp_then (Oper.wp_mono (fun _ _ h => h) h1))
    · exact .inr ⟨h1.1, h1.2⟩
  · rename_i hw
    rw [if_neg hw]
    exact h1

theorem held_done (hr : Region.ready .any ops listed = []) (h : Q .normal a w) : wpAnyH Yatd.prog .any ops (NoPanic Q) S fuel listed a w := wpAnyH_done hr (NoPanic.normal h) fuel
end

end Go.Proofs.Ygdatg
