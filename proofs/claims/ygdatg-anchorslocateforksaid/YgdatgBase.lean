import Derived.Test.YgdatgRows
import Derived.Test.YgdatgPlain
import Derived.WalkKit
import Derived.WalkSpells
import Derived.WalkLawsBesides
import Derived.OwnWalk
import Derived.Below
import Derived.Laws.Pointers
import Derived.Laws.StructEq
import Derived.Deep.RegionHeld3
import Derived.Deep.MidRow
import Derived.Deep.DrawnRows
import Derived.KernelRfl
namespace Go.Proofs.Ygdatg
open Go.RowKit

theorem Yatd.size30 : (Yatd.prog.info? 30).map (·.size) = some 32 := by kernel_rfl
theorem Yatd.cells30 : Yatd.prog.cellsOf 30 = 32 := by kernel_rfl

/-- The cells of a digest. -/
def cl (d : List Int) : List Value := d.map (Value.int .u8)
theorem cl_length (d : List Int) : (cl d).length = d.length := by simp [cl]
theorem cl_one (d : List Int) : ∀ v ∈ cl d, v.oneCell' = true := ints_oneCell .u8 d
theorem cl_get (d : List Int) (i : Nat) (h : i < d.length) : (cl d)[i]? = some (.int .u8 (d.getD i 0)) := by
  simp [cl, List.getD, List.getElem?_eq_getElem h]
theorem cl_at {d : List Int} {j : Nat} {v : Value} (h : (cl d)[j]? = some v) : j < d.length ∧ v = .int .u8 (d.getD j 0) := by
  have hj : j < d.length := by
    have := (List.getElem?_eq_some_iff.1 h).1
    rwa [cl_length] at this
  rw [cl_get d j hj] at h
  exact ⟨hj, (Option.some.inj h).symm⟩
theorem size30 (d : List Int) (h : d.length = 32) : (Yatd.prog.info? 30).map (·.size) = some (cl d).length := by rw [Yatd.size30, cl_length, h]
theorem size30' (d : List Int) (h : d.length = 32) : (Yatd.prog.info? 30).map (·.size) = some (cl d).toArray.size := by rw [Yatd.size30, List.size_toArray, cl_length, h]

/-- The cells of a range, one by one. -/
theorem range_get {w : World} {b o : Nat} {d : List Int} (h : w.rangeAt b o (cl d)) (i : Nat) (hi : i < d.length) : w.cell? ⟨b, o + i, none⟩ = some (.int .u8 (d.getD i 0)) := h i _ (cl_get d i hi)

theorem range_new (w : World) (d : List Int) (t : TypeId) : (w.alloc (.cells (cl d).toArray t)).rangeAt w.heap.size 0 (cl d) := fun j v hv => by
  rw [cell_of_row _ _ _ _ _ _ (heap_alloc_new w _)]
  simpa using hv

theorem there_new (w : World) (cs : Array Value) (t : TypeId) : (w.alloc (.cells cs t)).there w.heap.size 0 cs.size := fun j hj => by
  refine ⟨?_, frozen_of_row _ _ _ _ _ (heap_alloc_new w _)⟩
  rw [cell_of_row _ _ _ _ _ _ (heap_alloc_new w _)]
  simp [hj]

theorem ad_off {b b' p q : Nat} (h : p ≠ q) : (⟨b, p, none⟩ : Addr) ≠ ⟨b', q, none⟩ := fun e => h (congrArg Addr.off e)
theorem ad_block {b b' p q : Nat} (h : b ≠ b') : (⟨b, p, none⟩ : Addr) ≠ ⟨b', q, none⟩ := fun e => h (congrArg Addr.block e)

theorem cell_far {w : World} {b p b' q : Nat} {v u : Value} (h : b ≠ b') (hc : w.cell? ⟨b', q, none⟩ = some u) : (w.setCell ⟨b, p, none⟩ v).drew.cell? ⟨b', q, none⟩ = some u :=
  (World.cell?_setCell_other _ _ _ _ (ad_block h)).trans hc
theorem getD_past (l : List Int) (i : Nat) (h : l.length ≤ i) : l.getD i 0 = 0 := by simp [List.getD, List.getElem?_eq_none h]

/-- One cell of a range is written. -/
theorem range_set {w : World} {b o k : Nat} {d e : List Int} {x : Int} (h : w.rangeAt b o (cl d)) (hk : k < d.length) (hx : e.getD k 0 = x) (hl : e.length = d.length) (ho : ∀ i, i ≠ k → e.getD i 0 = d.getD i 0) :
    (w.setCell ⟨b, o + k, none⟩ (.int .u8 x)).rangeAt b o (cl e) := fun j v hv => by
  obtain ⟨hj, rfl⟩ := cl_at hv
  by_cases hjk : j = k
  · subst hjk
    rw [World.cell?_setCell_same _ _ _ (range_get h j hk), hx]
  · rw [World.cell?_setCell_other _ _ _ _ (ad_off (by omega)), ho j hjk, range_get h j (by omega)]

theorem range_other {w : World} {b o b' : Nat} {p : Nat} {v : Value} {cs : List Value} (h : w.rangeAt b o cs) (hb : b ≠ b') : (w.setCell ⟨b', p, none⟩ v).rangeAt b o cs := fun j u hu => by
  rw [World.cell?_setCell_other _ _ _ _ (ad_block (Ne.symm hb))]
  exact h j u hu

theorem there_set {w : World} {b o n b' p : Nat} {v : Value} (h : w.there b o n) : (w.setCell ⟨b', p, none⟩ v).there b o n := World.there_setCells h b' p [v]

theorem range_below {B b o : Nat} {w w' : World} {cs : List Value} (h : w.rangeAt b o cs) (hb : Below B w w') (hB : b < B) : w'.rangeAt b o cs := fun j v hv => by
  rw [hb.cell hB]; exact h j v hv
theorem there_below {B b o n : Nat} {w w' : World} (h : w.there b o n) (hb : Below B w w') (hB : b < B) : w'.there b o n := fun j hj => by
  rw [hb.cell hB, hb.frozen hB]; exact h j hj

/-- Many cells of the call's own are written. -/
theorem below_setCells {B b : Nat} {a : World} (hp : B ≤ b) : ∀ (vs : List Value) (o : Nat) (w : World), Below B a w → Below B a (w.setCells b o vs)
  | [], _, _, h => h
  | v :: r, o, _, h => below_setCells hp r (o + 1) _ (h.setCell (p := ⟨b, o, none⟩) hp v)
theorem size_setCells {b : Nat} : ∀ (vs : List Value) (o : Nat) (w : World), (w.setCells b o vs).heap.size = w.heap.size
  | [], _, _ => rfl
  | v :: r, o, w => (size_setCells r (o + 1) (w.setCell ⟨b, o, none⟩ v)).trans (by simp [World.setCell])

/-! ### A digest out of and into memory, in a plain region -/
theorem load30 {ops : Array Oper} {rest : List Oper} {op : Oper} {a : Act} {w : World} {Q : Exit → Act → World → Prop} (x : Operand) (hgd : op.guard = none) (ho : op.op = .load 30 x)
    (b o : Nat) (d : List Int) (hx : a.eval x = .pointer (some ⟨b, o, none⟩)) (hl : d.length = 32) (hc : w.rangeAt b o (cl d))
    (h : wpList Yatd.prog ops Q rest (a.put op.dst (.agg (cl d).toArray)) w) : wpList Yatd.prog ops Q (op :: rest) a w :=
  wpList_load_mid hgd 30 x ho b o hx (cl d) _ hc Yatd.underlying30 rfl (size30 d hl) h
theorem store30 {ops : Array Oper} {rest : List Oper} {op : Oper} {a : Act} {w : World} {Q : Exit → Act → World → Prop} (x y : Operand) (hgd : op.guard = none) (ho : op.op = .store 30 x y)
    (b o : Nat) (d : List Int) (hx : a.eval x = .pointer (some ⟨b, o, none⟩)) (hy : a.eval y = .agg (cl d).toArray) (hl : d.length = 32) (ht : w.there b o 32)
    (h : wpList Yatd.prog ops Q rest (a.put op.dst undef) (w.setCells b o (cl d))) : wpList Yatd.prog ops Q (op :: rest) a w :=
  wpList_store_mid hgd 30 x y ho b o (cl d).toArray hx hy (by rw [List.size_toArray, cl_length, hl]; exact ht) (size30' d hl) (all_oneCell_toArray (cl_one d)) h

/-- A digest that is handed back lies in a variable. -/
theorem ret30 {fn : Func} {R : Ending → World → Prop} {a : Act} {w : World} (p : Tmp) (b : Nat) (d : List Int) (hf : fn.results = #[.cell p 30]) (hp : a.tmps.getD p undef = .pointer (some ⟨b, 0, none⟩)) (hl : d.length = 32)
    (hc : w.rangeAt b 0 (cl d)) (hd : a.defers = []) (hR : R (.returned (.agg (cl d).toArray)) w) : bodyPost Yatd.prog fn R .ret a w := by
  refine bodyPost_ret (v := .agg (cl d).toArray) ?_ hd hR
  have := run_loadVar_mid (P := Yatd.prog) w b 0 30 (cl d) _ hc Yatd.underlying30 rfl (size30 d hl)
  have hp' : a.tmps[p]?.getD undef = .pointer (some ⟨b, 0, none⟩) := by simpa using hp
  simp only [results, hf]
  simp [hp', asAddr, this]

end Go.Proofs.Ygdatg
