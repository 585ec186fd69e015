import Derived.Test.YgdatgSlow
import Derived.Test.YgdatgHeld2
namespace Go.Proofs.Ygdatg
open Go.RowKit

/-- The cells of a row of digests. -/
def flat (ps : List (List Int)) : List Value := ps.flatMap cl

theorem flat_length : ∀ (ps : List (List Int)), (∀ d ∈ ps, d.length = 32) → (flat ps).length = ps.length * 32
  | [], _ => by simp [flat]
  | d :: ps, h => by
    have ih := flat_length ps (fun e he => h e (by simp [he]))
    have hd := h d (by simp)
    have : flat (d :: ps) = cl d ++ flat ps := by simp [flat]
    rw [this, List.length_append, ih, cl_length, hd, List.length_cons]; omega

theorem flat_get : ∀ (ps : List (List Int)), (∀ d ∈ ps, d.length = 32) → ∀ (i : Nat) (d : List Int) (q : Nat) (v : Value), ps[i]? = some d → (cl d)[q]? = some v → (flat ps)[i * 32 + q]? = some v
  | [], _, i, d, q, v, hi, _ => by simp at hi
  | e :: ps, h, 0, d, q, v, hi, hq => by
    have he : e = d := by simpa using hi
    subst he
    have : flat (e :: ps) = cl e ++ flat ps := by simp [flat]
    have hlt := (List.getElem?_eq_some_iff.1 hq).1
    rw [this, Nat.zero_mul, Nat.zero_add, List.getElem?_append_left hlt]
    exact hq
  | e :: ps, h, i + 1, d, q, v, hi, hq => by
    have ih := flat_get ps (fun e he => h e (by simp [he])) i d q v (by simpa using hi) hq
    have he := h e (by simp)
    have : flat (e :: ps) = cl e ++ flat ps := by simp [flat]
    rw [this, List.getElem?_append_right (by rw [cl_length, he]; omega), cl_length, he, show (i + 1) * 32 + q - 32 = i * 32 + q from by omega]
    exact ih

theorem flat_snoc (ps : List (List Int)) (d : List Int) : flat ps ++ cl d = flat (ps ++ [d]) := by simp [flat]

/-- A row of the call's own, read as digests. -/
theorem own_digs {w : World} {base g n cap : Nat} {ps : List (List Int)} (h : w.ownsRow base 30 32 (.slice (some ⟨g, 0, none⟩) n cap) n (flat ps)) (hl : ∀ d ∈ ps, d.length = 32) : Digs w (some ⟨g, 0, none⟩) ps :=
  ⟨hl, fun _ => ⟨g, 0, rfl, fun i d hd q v hv => by
    have hc := h.cells (g := g) rfl (i * 32 + q) v (flat_get ps hl i d q v hd hv)
    rw [Addr.add_mid] at hc
    rw [show 0 + i * 32 + q = 0 + (i * 32 + q) from by omega]
    exact hc⟩⟩

/-! ### One level up, step by step -/
theorem pairs_len32 (ds : List (List Int)) : ∀ d ∈ Plain.pairs mixD ds, d.length = 32 := by
  intro d hd
  have : ∀ l : List (List Int), ∀ d ∈ Plain.pairs mixD l, d.length = 32 := by
    intro l
    induction l using Plain.pairs.induct with
    | case1 => intro d hd; simp [Plain.pairs] at hd
    | case2 x => intro d hd; simp [Plain.pairs] at hd; rw [hd]; exact mixD_length _ _
    | case3 x y r ih => intro d hd; simp [Plain.pairs] at hd; rcases hd with rfl | hd
                        · exact mixD_length _ _
                        · exact ih d hd
  exact this ds d hd

theorem pairs_take (lv : List (List Int)) (j : Nat) (h : 2 * j + 1 < lv.length) :
    (Plain.pairs mixD lv).take (j + 1) = (Plain.pairs mixD lv).take j ++ [mixD (lv.getD (2 * j) zeroD) (lv.getD (2 * j + 1) zeroD)] := by
  have hp := Plain.pairs_length mixD lv
  have hg := Plain.pairs_getD mixD zeroD lv j (by omega)
  rw [if_pos h] at hg
  rw [List.take_add_one, ← hg, List.getD, List.getElem?_eq_getElem (by omega)]
  rfl

theorem pairs_odd (lv : List (List Int)) (j : Nat) (h : lv.length = 2 * j + 1) :
    Plain.pairs mixD lv = (Plain.pairs mixD lv).take j ++ [mixD (lv.getD (2 * j) zeroD) (lv.getD (2 * j) zeroD)] := by
  have hp := Plain.pairs_length mixD lv
  have hg := Plain.pairs_getD mixD zeroD lv j (by omega)
  rw [if_neg (by omega)] at hg
  have := List.take_add_one (l := Plain.pairs mixD lv) (i := j)
  rw [List.take_of_length_le (by omega)] at this
  rw [List.getElem?_eq_getElem (by omega)] at this
  rw [← hg, List.getD, List.getElem?_eq_getElem (by omega)]
  exact this

theorem pairs_even (lv : List (List Int)) (j : Nat) (h : lv.length = 2 * j) : (Plain.pairs mixD lv).take j = Plain.pairs mixD lv := by
  have hp := Plain.pairs_length mixD lv
  exact List.take_of_length_le (by omega)

theorem rootD_pairs (lv : List (List Int)) (h : 2 ≤ lv.length) : rootD (Plain.pairs mixD lv) = rootD lv := by
  have hp := Plain.pairs_length mixD lv
  unfold rootD
  rw [Plain.root_node _ _ _ (show 0 < (Plain.pairs mixD lv).length by omega)]
  unfold Plain.root
  obtain ⟨f, hf⟩ : ∃ f, lv.length = f + 1 := ⟨lv.length - 1, by omega⟩
  rw [hf, Plain.rootF, if_neg (by omega), Plain.rootF_node _ _ f _ (by omega) (by omega)]

theorem rootD_one (lv : List (List Int)) (h : lv.length = 1) : rootD lv = lv.getD 0 zeroD := by
  unfold rootD Plain.root
  rw [h, Plain.rootF, if_pos (by omega)]

theorem Digs.drop {w : World} {b o : Nat} {ds : List (List Int)} (hr : ∀ i d, ds[i]? = some d → w.rangeAt b (o + i * 32) (cl d)) (k : Nat) : ∀ i d, (ds.drop k)[i]? = some d → w.rangeAt b (o + k * 32 + i * 32) (cl d) := by
  intro i d hd
  rw [List.getElem?_drop] at hd
  have := hr (k + i) d hd
  rwa [show o + (k + i) * 32 = o + k * 32 + i * 32 from by omega] at this

theorem Yatd.info30 : (Yatd.prog.info? 30).map (fun i => (i.zero, i.size, i.bytes)) = some (some (.agg (cl zeroD).toArray), 32, 32) := by kernel_rfl

theorem fold_at : ∀ (cs : List Value) (Z : Array Value) (p : Nat), p + cs.length ≤ Z.size →
    ∀ i, (List.foldl (fun (cs : Array Value) (x : Value × Nat) => cs.setIfInBounds x.2 x.1) Z (cs.zipIdx p))[i]? = if p ≤ i ∧ i < p + cs.length then cs[i - p]? else Z[i]?
  | [], Z, p, h, i => by simp; omega
  | v :: cs, Z, p, h, i => by
    simp only [List.length_cons] at h
    rw [List.zipIdx_cons, List.foldl_cons, fold_at cs (Z.setIfInBounds p v) (p + 1) (by simp; omega) i]
    simp only [List.length_cons]
    by_cases h1 : i = p
    · subst h1
      rw [if_neg (by omega), if_pos (by omega)]
      simp [show i < Z.size from by omega]
    · by_cases h2 : p + 1 ≤ i ∧ i < p + 1 + cs.length
      · rw [if_pos h2, if_pos (by omega), show i - p = (i - (p + 1)) + 1 from by omega]; simp
      · rw [if_neg h2, if_neg (by omega), Array.getElem?_setIfInBounds_ne (by omega)]

theorem fold_all (cs : List Value) (Z : Array Value) (h : cs.length = Z.size) : List.foldl (fun (cs : Array Value) (x : Value × Nat) => cs.setIfInBounds x.2 x.1) Z cs.zipIdx = cs.toArray := by
  apply Array.ext_getElem?
  intro i
  rw [fold_at cs Z 0 (by omega) i]
  by_cases hi : i < cs.length
  · rw [if_pos (by omega)]; simp
  · rw [if_neg (by omega), Array.getElem?_eq_none (by omega), Array.getElem?_eq_none (by simp; omega)]

theorem run_build1 (q : List Int) (hq : q.length = 32) (w : World) : (Instr.buildSlice 24 1 #[(0, .agg (cl q).toArray)]).run Yatd.prog w = .ok (.slice (some ⟨w.heap.size, 0, none⟩) 1 1) (w.alloc (.cells (cl q).toArray 30)) := by
  obtain ⟨i0, hi0, hz0, hz1, hz2⟩ := info_parts Yatd.info30
  simp [Instr.buildSlice, run_underlying Yatd.underlying24, sizeOf, typeInfo, hi0, hz0, hz1, Instr.fill, Value.cells, cl_length, hq, zeroValue]
  rw [fold_all _ _ (by simp [cl_length, hq])]
  rfl
/-- 'append(s, x)', x a digest: x is laid in a row of its own first. -/
theorem build1 {ops : Array Oper} {rest : List Oper} {op : Oper} {a : Act} {w : World} {Q : Exit → Act → World → Prop} (x : Operand) (hgd : op.guard = none) (ho : op.op = .buildSlice 24 1 #[(0, x)]) (q : List Int) (hq : q.length = 32) (hx : a.eval x = .agg (cl q).toArray)
    (h : wpList Yatd.prog ops Q rest (a.put op.dst (.slice (some ⟨w.heap.size, 0, none⟩) 1 1)) (w.alloc (.cells (cl q).toArray 30))) : wpList Yatd.prog ops Q (op :: rest) a w := by
  refine wpList_plain hgd fun K hK => ?_
  have hr := run_build1 q hq w
  unfold Oper.wp execOp
  simp only [ho, List.map_toArray, List.map_cons, List.map_nil, hx, hr, Sem.run_bind, Result.andThen_ok, Sem.run_pure]
  exact hK _ _ h

theorem grown_of_below {w w' : World} (h : Below w.heap.size w w') : w.grownBy w' none := ⟨h.os, h.tape, h.output, h.size, fun k hk _ => h.block k hk⟩

theorem own_below {w w' : World} {base e size g n cap : Nat} {xs : List Value} (h : w.ownsRow base e size (.slice (some ⟨g, 0, none⟩) n cap) n xs) (hb : Below w.heap.size w w') : w'.ownsRow base e size (.slice (some ⟨g, 0, none⟩) n cap) n xs :=
  h.kept (grown_of_below hb) (.inr (by simp [Value.ownBlock]))

theorem range_grown {w w' : World} {b o : Nat} {row : Option Nat} {cs : List Value} (h : w.rangeAt b o cs) (hg : w.grownBy w' row) (hne : some b ≠ row) : w'.rangeAt b o cs := fun j v hv => hg.cell (h j v hv) hne

theorem news_new (w : World) (q : List Int) : ∀ j u, (cl q)[j]? = some u → (w.alloc (.cells (cl q).toArray 30)).cell? ((⟨w.heap.size, 0, none⟩ : Addr).add j) = some u := fun j u hu => by
  rw [Addr.add_mid]; exact range_new w q 30 j u hu

/-- The length in a slot that holds a slice. -/
def lenV : Value → Nat | .slice _ n _ => n | _ => 0

end Go.Proofs.Ygdatg
