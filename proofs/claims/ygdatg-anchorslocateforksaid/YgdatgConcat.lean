import Derived.Test.YgdatgGrow
import Derived.Laws.AppendOwnNone
namespace Go.Proofs.Ygdatg
open Go.RowKit

def c64 (xs : List Int) : List Value := xs.map (Value.int .u64)
theorem c64_length (xs : List Int) : (c64 xs).length = xs.length := by simp [c64]

theorem append64 {ops : Array Oper} {rest : List Oper} {op : Oper} {a : Act} {w : World} {Q : Exit → Act → World → Prop} (s x : Operand) (hgd : op.guard = none) (ho : op.op = .call { callee := .builtin .append, args := #[s, x], argTypes := #[22, 22] })
    (base : Nat) (v : Value) (n : Nat) (cs : List Value) (hs : a.eval s = v) (hown : w.ownsRow base 27 1 v n cs) (ao : Option Addr) (m c : Nat) (xs : List Int) (hx : a.eval x = .slice ao m c) (hnil : ao = none → m = 0 ∧ c = 0)
    (hU : U64s w ao xs) (hl : xs.length = m) (hnm : n + m ≤ 131072) (hbase : base ≤ w.heap.size)
    (h : ∀ v' w', w'.ownsRow base 27 1 v' (n + m) (cs ++ c64 xs) → w.grownBy w' v.ownBlock → wpList Yatd.prog ops Q rest (a.put op.dst v') w') : wpList Yatd.prog ops Q (op :: rest) a w := by
  obtain ⟨i, hi, hz, hsz, hb⟩ := info_parts Yatd.info27
  cases ao with
  | none =>
    obtain ⟨rfl, rfl⟩ := hnil rfl
    obtain rfl : xs = [] := List.eq_nil_of_length_eq_zero hl
    refine wpList_append_own_none hgd s x 22 ho base 27 i 1 Yatd.underlying22 hi v n cs hs hown hx ?_
    exact h v w (by simpa [c64] using hown) (World.grownBy.refl _ _)
  | some ad =>
    refine wpList_append_own w hgd s x 22 ho base 27 i (.int .u64 0) 1 8 Yatd.underlying22 hi hz hsz hb rfl (by omega) v n cs hs hown ad m c (c64 xs) hx (by rw [c64_length, hl]; omega) ?_ (ints_oneCell .u64 xs) (by unfold maxLen; omega) (by omega) hbase ?_
    · intro j u hu
      have hj : j < xs.length := by have := (List.getElem?_eq_some_iff.1 hu).1; rwa [c64_length] at this
      obtain ⟨ad', e, hc⟩ := hU.lies (by omega)
      cases e
      have hg : xs[j]? = some (xs[j]) := List.getElem?_eq_getElem hj
      have := hc j _ hg
      rw [this]
      simp only [c64, List.getElem?_map, hg, Option.map_some] at hu
      exact hu
    · intro v' w' h1 h2 _
      exact h v' w' h1 h2

theorem own_u64 {w : World} {base n : Nat} {v : Value} {xs : List Int} (h : w.ownsRow base 27 1 v n (c64 xs)) (hw : ∀ x ∈ xs, 0 ≤ x ∧ x ≤ 18446744073709551615) : ∃ a c, v = .slice a n c ∧ U64s w a xs ∧ xs.length = n := by
  have hl := h.1
  rw [c64_length, Nat.mul_one] at hl
  rcases h.2 with ⟨rfl, rfl⟩ | ⟨g, c, cur, rfl, _⟩
  · exact ⟨none, 0, rfl, ⟨hw, fun h0 => by omega⟩, hl⟩
  · refine ⟨some ⟨g, 0, none⟩, c, rfl, ⟨hw, fun _ => ⟨⟨g, 0, none⟩, rfl, fun i x hx => ?_⟩⟩, hl⟩
    exact h.cells (g := g) rfl i _ (by simp [c64, hx])

structure CatRel (w : World) (v : Value) (n : Nat) (cs : List Value) (wr : World) : Prop where
  own : wr.ownsRow w.heap.size 27 1 v n cs
  below : Below w.heap.size w wr

theorem cat_step {w wr w2 : World} {v v' : Value} {n m : Nat} {cs ds : List Value} (C : CatRel w v n cs wr) (h : w2.ownsRow w.heap.size 27 1 v' m ds) (hg : wr.grownBy w2 v.ownBlock) : CatRel w v' m ds w2 :=
  ⟨h, C.below.grown hg C.below.size (fun k hk => (C.own.lt k hk).1)⟩

theorem concat_any (bs n1 n2 c1 c2 : Nat) (a1 a2 : Option Addr) (xs ys : List Int) (w : World) (h1 : xs.length = n1) (h2 : ys.length = n2) (hs : n1 + n2 ≤ 65536) (e1 : a1 = none → n1 = 0 ∧ c1 = 0) (e2 : a2 = none → n2 = 0 ∧ c2 = 0)
    (u1 : U64s w a1 xs) (u2 : U64s w a2 ys) (k1 : w.cell? ⟨bs, 0, none⟩ = some (.slice a1 n1 c1)) (k2 : w.cell? ⟨bs, 1, none⟩ = some (.slice a2 n2 c2)) :
    Calls Yatd.prog 6 #[.slice (some ⟨bs, 0, none⟩) 2 2] w fun e w' => ∃ a c, e = .returned (.slice a (n1 + n2) c) ∧ U64s w' a (xs ++ ys) ∧ Below w.heap.size w w' := by
  have hwf : ∀ x ∈ xs ++ ys, 0 ≤ x ∧ x ≤ 18446744073709551615 := fun x hx => by
    rcases List.mem_append.1 hx with hx | hx
    · exact u1.wf x hx
    · exact u2.wf x hx
  have lb := World.block_lt_of_cell? w _ k1
  have g1 : (n1 : Int) ≤ 65536 := by omega
  have g2 : (n2 : Int) ≤ 65536 := by omega
  have g3 : (0 : Int) ≤ (n1 : Int) := Int.natCast_nonneg _
  have g4 : (0 : Int) ≤ (n2 : Int) := Int.natCast_nonneg _
  have g5 : (n1 : Int) + (n2 : Int) ≤ 65536 := by omega
  have HG : Hid (∀ W, Calls Yatd.prog 17 #[.slice none 0 0, .int .i64 ((n1 : Int) + (n2 : Int))] W fun e w' => ∃ a c, e = .returned (.slice a 0 c) ∧ w'.ownsRow W.heap.size 27 1 (.slice a 0 c) 0 [] ∧ Below W.heap.size W w') := fun W => by
    have := grow_any (n1 + n2) hs W
    rwa [Int.natCast_add] at this
  go_enter Yatd.func6, Yatd.ntmps6
  go_wp2
  go_loop [3, 11] (fun t i => (i = .int .i64 0 ∧ t = .int .i64 0) ∨ (i = .int .i64 1 ∧ t = .int .i64 n1) ∨ (i = .int .i64 2 ∧ t = .int .i64 ((n1 : Int) + n2))) (fun _ i => 2 - (intOf i).toNat)
  case atStart => exact .inl ⟨rfl, rfl⟩
  case round =>
    rcases hrel with ⟨rfl, rfl⟩ | ⟨rfl, rfl⟩ | ⟨rfl, rfl⟩
    · go_wp2
      go_round
      case rel => exact .inr (.inl ⟨rfl, by simp⟩)
      case measure => simp [intOf]
    · go_wp2
      go_round
      case rel => exact .inr (.inr ⟨rfl, by simp⟩)
      case measure => simp [intOf]
    · go_wp2_with (go_at_call 17; refine (HG.out _).mono ?_; rintro e w1 ⟨ga, gc, rfl, hown, hb1⟩)
      have C0 : CatRel w (.slice ga 0 gc) 0 [] w1 := ⟨hown, hb1⟩
      clear hown hb1 HG
      go_loopw [6, 27] (fun v i wr => (i = .int .i64 0 ∧ CatRel w v 0 [] wr) ∨ (i = .int .i64 1 ∧ CatRel w v n1 (c64 xs) wr) ∨ (i = .int .i64 2 ∧ CatRel w v (n1 + n2) (c64 (xs ++ ys)) wr)) (fun _ i _ => 2 - (intOf i).toNat)
      case atStart => exact .inl ⟨rfl, C0⟩
      case round =>
        clear C0
        rcases hrel with ⟨rfl, C⟩ | ⟨rfl, C⟩ | ⟨rfl, C⟩
        · have k3 : wr.cell? ⟨bs, 0, none⟩ = some (.slice a1 n1 c1) := by rw [C.below.cell lb]; exact k1
          have OWN := C.own
          have U := u1.below C.below
          have hsz := C.below.size
          obtain ⟨V, rfl⟩ : ∃ V : Value, V = u6 := ⟨u6, rfl⟩
          go_wp2_with (first | (at_builtin; refine append64 (.tmp 31) (.tmp 32) (by rfl) (by rfl) w.heap.size V 0 [] (by rfl) OWN a1 n1 c1 xs (by rfl) e1 U h1 (by omega) hsz ?_; intro v' w2 hown2 hgrow2))
          rw [Nat.zero_add, List.nil_append] at hown2
          have C2 := cat_step C hown2 hgrow2
          clear hown2 hgrow2 C OWN U
          go_wp2
          go_roundw
          case rel => exact .inr (.inl ⟨rfl, C2⟩)
          case measure => simp [intOf]
        · have k3 : wr.cell? ⟨bs, 1, none⟩ = some (.slice a2 n2 c2) := by rw [C.below.cell lb]; exact k2
          have OWN := C.own
          have U := u2.below C.below
          have hsz := C.below.size
          obtain ⟨V, rfl⟩ : ∃ V : Value, V = u6 := ⟨u6, rfl⟩
          go_wp2_with (first | (at_builtin; refine append64 (.tmp 31) (.tmp 32) (by rfl) (by rfl) w.heap.size V n1 (c64 xs) (by rfl) OWN a2 n2 c2 ys (by rfl) e2 U h2 (by omega) hsz ?_; intro v' w2 hown2 hgrow2))
          rw [show c64 xs ++ c64 ys = c64 (xs ++ ys) from by simp [c64]] at hown2
          have C2 := cat_step C hown2 hgrow2
          clear hown2 hgrow2 C OWN U
          go_wp2
          go_roundw
          case rel => exact .inr (.inr ⟨rfl, C2⟩)
          case measure => simp [intOf]
        · obtain ⟨ra, rc, hv, hU, _⟩ := own_u64 C.own hwf
          have hB := C.below
          have HV : Hid _ := hv
          clear hv C
          go_wp2
          go_ret
          exact ⟨ra, rc, congrArg Ending.returned HV.out, hU, hB⟩

end Go.Proofs.Ygdatg
