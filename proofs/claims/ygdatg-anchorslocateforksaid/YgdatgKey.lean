import Derived.Test.YgdatgBase
import Derived.Laws.BytesString
namespace Go.Proofs.Ygdatg
open Go.RowKit

/-- The signs of an identifier. -/
def signs : ByteArray := ⟨#[50, 51, 52, 53, 54, 55, 97, 98, 99, 100, 101, 102, 103, 104, 105, 106, 107, 108, 109, 110, 111, 112, 113, 114, 115, 116, 117, 118, 119, 120, 121, 122]⟩
theorem signs_size : signs.size = 32 := by decide +kernel
def sgn (i : Int) : Int := ((signs[i.toNat]?).getD 0).toNat
theorem run_sgn (i : Int) (h0 : 0 ≤ i) (h1 : i < 32) (w : World) : (Instr.index 9 (.string signs) (.int .u64 i)).run Yatd.prog w = .ok (.int .u8 (sgn i)) w := by
  have hi : 0 ≤ i ∧ i < (signs.size : Int) := by rw [signs_size]; omega
  have h2 : i.toNat < signs.size := by rw [signs_size]; omega
  rw [run_index_string w 9 signs .u64 i Yatd.underlying9, dif_pos hi]
  simp only [sgn, ByteArray.getElem?_lt' _ _ h2, Option.getD_some]

theorem index_sgn {ops : Array Oper} {rest : List Oper} {op : Oper} {a : Act} {w : World} {Q : Exit → Act → World → Prop} (hgd : op.guard = none)
    (ho : op.op = .index 9 (.const (.string signs)) (.tmp 13)) (i : Int) (z : Int) (h0 : 0 ≤ i) (h1 : i < 32) (hz : Hid (sgn i = z)) (hx : a.eval (.tmp 13) = .int .u64 i)
    (h : wpList Yatd.prog ops Q rest (a.put op.dst (.int .u8 z)) w) : wpList Yatd.prog ops Q (op :: rest) a w := by
  refine wpList_plain hgd fun K hK => ?_
  have hr := run_sgn i h0 h1 w
  have hc : a.eval (.const (.string signs)) = .string signs := rfl
  rw [hz.out] at hr
  unfold Oper.wp execOp
  simp only [ho, hx, hc, hr, Sem.run_bind, Result.andThen_ok, Sem.run_pure]
  exact hK _ _ h

/-- The identifier's bytes behind k rounds: from the end on. -/
def keyTo (x : Int) (k : Nat) : List Int := (List.range 13).map fun i => if 12 - i < k then sgn (x / 32 ^ (12 - i) % 32) else 0
theorem keyTo_length (x : Int) (k : Nat) : (keyTo x k).length = 13 := by simp [keyTo]
theorem keyTo_get (x : Int) (k i : Nat) (h : i < 13) : (keyTo x k).getD i 0 = if 12 - i < k then sgn (x / 32 ^ (12 - i) % 32) else 0 := by
  simp [keyTo, List.getD, h]
def strOf (ns : List Int) : ByteArray := ns.foldl (fun r n => r.push (UInt8.ofNat n.toNat)) ByteArray.empty
theorem strOf_size (ns : List Int) : (strOf ns).size = ns.length := by
  have : ∀ (ns : List Int) (r : ByteArray), (ns.foldl (fun r n => r.push (UInt8.ofNat n.toNat)) r).size = r.size + ns.length := by
    intro ns
    induction ns with
    | nil => intro r; simp
    | cons n ns ih => intro r; rw [List.foldl_cons, ih, ByteArray.size_push, List.length_cons]; omega
  unfold strOf
  rw [this]; simp
/-- The identifier of x. -/
def keyS (x : Int) : ByteArray := strOf (keyTo x 13)
theorem keyS_size (x : Int) : (keyS x).size = 13 := by rw [keyS, strOf_size, keyTo_length]

theorem conv13 {ops : Array Oper} {rest : List Oper} {op : Oper} {a : Act} {w : World} {Q : Exit → Act → World → Prop} (x : Operand) (hgd : op.guard = none) (ho : op.op = .convert 38 9 x) (g : Nat) (ns : List Int) (hl : ns.length = 13)
    (hx : a.eval x = .slice (some ⟨g, 0, none⟩) 13 13) (hc : w.rangeAt g 0 (cl ns)) (h : wpList Yatd.prog ops Q rest (a.put op.dst (.string (strOf ns))) w) : wpList Yatd.prog ops Q (op :: rest) a w := by
  refine wpList_plain hgd fun K hK => ?_
  have hlc : (loadCells ⟨g, 0, none⟩ 13).run Yatd.prog w = .ok (cl ns).toArray w := by
    have := run_loadCells_list (P := Yatd.prog) w ⟨g, 0, none⟩ (cl ns) (fun j v hv => by rw [Addr.add_mid]; exact hc j v hv)
    rwa [cl_length, hl] at this
  have hr := run_bytesToString (P := Yatd.prog) w ⟨g, 0, none⟩ 13 13 ns hlc
  have hv := run_convert_bytes_string (P := Yatd.prog) w 38 9 5 (some ⟨g, 0, none⟩) 13 13 Yatd.underlying38 Yatd.underlying5 Yatd.underlying9
  rw [hr] at hv
  unfold Oper.wp execOp
  simp only [ho, hx, hv, Sem.run_bind, Result.andThen_ok, Sem.run_pure]
  exact hK _ _ h

structure KeyRel (x : Int) (w : World) (k : Nat) (wr : World) : Prop where
  row : wr.rangeAt w.heap.size 0 (cl (keyTo x k))
  free : wr.there w.heap.size 0 13
  below : Below w.heap.size w wr

theorem key_start (x : Int) (w : World) : KeyRel x w 0 (w.alloc (.cells (cl (keyTo x 0)).toArray 5)) := by
  refine ⟨range_new w _ 5, ?_, (Below.refl _ _).alloc (Nat.le_refl _) _⟩
  have h13 : (cl (keyTo x 0)).toArray.size = 13 := by rw [List.size_toArray, cl_length, keyTo_length]
  have := there_new w (cl (keyTo x 0)).toArray 5
  rwa [h13] at this

theorem key_step {x : Int} {w wr : World} {k : Nat} (h : KeyRel x w k wr) (hk : k < 13) : KeyRel x w (k + 1) (wr.setCell ⟨w.heap.size, 12 - k, none⟩ (.int .u8 (sgn (x / 32 ^ k % 32)))) := by
  have hs : (wr.setCell ⟨w.heap.size, 0 + (12 - k), none⟩ (.int .u8 (sgn (x / 32 ^ k % 32)))).rangeAt w.heap.size 0 (cl (keyTo x (k + 1))) := by
    refine range_set h.row (by rw [keyTo_length]; omega) ?_ (by rw [keyTo_length, keyTo_length]) fun i hi => ?_
    · rw [keyTo_get _ _ _ (by omega), if_pos (by omega), show 12 - (12 - k) = k from by omega]
    · by_cases h13 : i < 13
      · rw [keyTo_get _ _ _ h13, keyTo_get _ _ _ h13]
        by_cases hik : 12 - i < k
        · rw [if_pos hik, if_pos (by omega)]
        · rw [if_neg hik, if_neg (by omega)]
      · rw [getD_past _ _ (by rw [keyTo_length]; omega), getD_past _ _ (by rw [keyTo_length]; omega)]
  rw [Nat.zero_add] at hs
  exact ⟨hs, there_set h.free, h.below.setCell (Nat.le_refl _) _⟩

theorem key_any (x : Int) (h0 : 0 ≤ x) (h1 : x ≤ 18446744073709551615) (w : World) : Calls Yatd.prog 16 #[.int .u64 x] w fun e w' => e = .returned (.string (keyS x)) ∧ Below w.heap.size w w' := by
  have hmk : ∀ w, (Instr.makeSlice 38 (.int .i64 13) (.int .i64 13)).run Yatd.prog w = .ok (.slice (some ⟨w.heap.size, 0, none⟩) 13 13) (w.alloc (.cells (cl (keyTo 0 0)).toArray 5)) := fun w => by kernel_rfl
  have K0 := key_start x w
  rw [show keyTo x 0 = keyTo 0 0 from by simp [keyTo]] at K0
  have HS : Hid (∀ y, keyTo x 13 = y → keyS x = strOf y) := fun y hy => by rw [← hy]; rfl
  generalize hz : keyTo 0 0 = z0 at *
  clear hz
  generalize hq : keyS x = key at *
  clear hq
  go_enter Yatd.func16, Yatd.ntmps16
  generalize hT : ByteArray.mk (List.toArray (List.cons 50 _)) = T
  obtain rfl : T = signs := hT.symm.trans (by kernel_rfl)
  clear hT
  go_wp2
  go_loopw [0, 4] (fun xv jv wr => ∃ k : Nat, k ≤ 13 ∧ xv = .int .u64 (x / 32 ^ k) ∧ jv = .int .i64 (12 - (k : Int)) ∧ KeyRel x w k wr) (fun _ jv _ => (intOf jv + 1).toNat)
  case atStart => exact ⟨0, by omega, by simp, by simp, K0⟩
  case round =>
    obtain ⟨k, hk, rfl, rfl, KR⟩ := hrel
    clear K0 hmk
    have y0 : 0 ≤ x / 32 ^ k := Int.ediv_nonneg h0 (by exact Int.le_of_lt (Int.pow_pos (by omega)))
    have y1 : x / 32 ^ k ≤ 18446744073709551615 := Int.le_trans (Int.ediv_le_self _ h0) h1
    have HN : Hid (x / 32 ^ k / 32 = x / 32 ^ (k + 1)) := by
      show _ = _
      rw [Int.ediv_ediv_of_nonneg (Int.le_of_lt (Int.pow_pos (by omega))), Int.pow_succ]
    by_cases hlt : k < 13
    · have KS := key_step KR hlt
      have c3 := range_get KR.row (12 - k) (by rw [keyTo_length]; omega)
      have c4 := (KR.free (12 - k) (by omega)).2
      rw [Nat.zero_add] at c3 c4
      generalize (keyTo x k).getD (12 - k) 0 = z at *
      generalize x / 32 ^ k = y at *
      obtain ⟨q, hq⟩ : ∃ q, sgn (y % 32) = q := ⟨_, rfl⟩
      rw [hq] at KS
      have HQ : Hid (sgn (y % 32) = q) := hq
      have H2 : Hid _ := KS
      clear hq KS KR h0 h1
      have m0 : 0 ≤ y % 32 := by omega
      have m1 : y % 32 < 32 := by omega
      have k0 : (0 : Int) ≤ (k : Int) := Int.natCast_nonneg _
      have k1 : (k : Int) < 13 := by omega
      go_wp2_with (first | (refine index_sgn (by rfl) (by rfl) (y % 32) q m0 m1 HQ (by rfl) ?_))
      go_roundw
      case rel => exact ⟨k + 1, by omega, by rw [HN.out], by go_num, H2.out⟩
      case measure => simp [intOf]; omega
    · obtain rfl : k = 13 := by omega
      have hrow := KR.row
      have hbel := KR.below
      have hl := keyTo_length x 13
      have HK := HS.out _ rfl
      generalize keyTo x 13 = ns at *
      generalize x / 32 ^ 13 = y at *
      have H3 : Hid (key = strOf ns) := HK
      clear HK HS KR HN
      go_wp2_with (first | (refine conv13 (.tmp 18) (by rfl) (by rfl) w.heap.size ns hl (by rfl) hrow ?_; rw [← H3.out]))
      go_ret
      exact ⟨rfl, hbel⟩

end Go.Proofs.Ygdatg
