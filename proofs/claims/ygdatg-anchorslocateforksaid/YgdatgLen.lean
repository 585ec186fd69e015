import Derived.Test.YgdatgNode
namespace Go.Proofs.Ygdatg
open Go.RowKit

/-- The table of math/bits: byte i holds the number of bits of i. -/
def tab : ByteArray := ⟨((List.range 256).map fun i => UInt8.ofNat (Plain.len2 i)).toArray⟩
theorem tab_size : tab.size = 256 := by decide +kernel
theorem tab_get (n : Nat) (h : n < 256) : (tab[n]'(by rw [tab_size]; exact h)).toNat = Plain.len2 n := by
  have : ∀ n : Fin 256, (tab[n.val]'(by rw [tab_size]; exact n.isLt)).toNat = Plain.len2 n.val := by decide +kernel
  exact this ⟨n, h⟩

theorem run_tab (x : Int) (h0 : 0 ≤ x) (h1 : x ≤ 255) (w : World) : (Instr.index 9 (.string tab) (.int .u8 x)).run Yatd.prog w = .ok (.int .u8 (Plain.len2 x.toNat)) w := by
  have hi : 0 ≤ x ∧ x < (tab.size : Int) := by rw [tab_size]; omega
  rw [run_index_string w 9 tab .u8 x Yatd.underlying9, dif_pos hi]
  rw [tab_get x.toNat (by omega)]

theorem index_tab {ops : Array Oper} {rest : List Oper} {op : Oper} {a : Act} {w : World} {Q : Exit → Act → World → Prop} (hgd : op.guard = none)
    (ho : op.op = .index 9 (.const (.string tab)) (.tmp 21)) (x : Int) (q : Nat) (h0 : 0 ≤ x) (h1 : x ≤ 255) (hq : Hid (Plain.len2 x.toNat = q)) (hx : a.eval (.tmp 21) = .int .u8 x)
    (h : wpList Yatd.prog ops Q rest (a.put op.dst (.int .u8 q)) w) : wpList Yatd.prog ops Q (op :: rest) a w := by
  refine wpList_plain hgd fun K hK => ?_
  have hr := run_tab x h0 h1 w
  have hc : a.eval (.const (.string tab)) = .string tab := rfl
  rw [hq.out] at hr
  unfold Oper.wp execOp
  simp only [ho, hx, hc, hr, Sem.run_bind, Result.andThen_ok, Sem.run_pure]
  exact hK _ _ h

theorem len2_le (n : Nat) (h : n < 256) : Plain.len2 n ≤ 8 := by
  have : ∀ n : Fin 256, Plain.len2 n.val ≤ 8 := by decide +kernel
  exact this ⟨n, h⟩
theorem len2_256 (n : Nat) (h : 256 ≤ n) : Plain.len2 n = Plain.len2 (n / 256) + 8 := by
  rw [Plain.len2_pos n (by omega), Plain.len2_pos (n / 2) (by omega), Plain.len2_pos (n / 2 / 2) (by omega), Plain.len2_pos (n / 2 / 2 / 2) (by omega), Plain.len2_pos (n / 2 / 2 / 2 / 2) (by omega),
    Plain.len2_pos (n / 2 / 2 / 2 / 2 / 2) (by omega), Plain.len2_pos (n / 2 / 2 / 2 / 2 / 2 / 2) (by omega), Plain.len2_pos (n / 2 / 2 / 2 / 2 / 2 / 2 / 2) (by omega)]
  rw [show n / 2 / 2 / 2 / 2 / 2 / 2 / 2 / 2 = n / 256 from by omega]

theorem len_lo (x : Int) (h0 : 0 ≤ x) (h1 : x ≤ 255) (w : World) : Calls Yatd.prog 24 #[.int .u64 x] w fun e w' => e = .returned (.int .i64 (Plain.len2 x.toNat)) ∧ w' = w := by
  have h3 := len2_le x.toNat (by omega)
  generalize hq : Plain.len2 x.toNat = q at *
  have HQ : Hid (Plain.len2 x.toNat = q) := hq
  clear hq
  have h4 : (0 : Int) ≤ (q : Int) := by omega
  have h5 : (q : Int) ≤ 8 := by omega
  clear h3
  go_enter Yatd.func24, Yatd.ntmps24
  generalize hT : ByteArray.mk (List.toArray (List.append (List.append _ _) (List.append _ _))) = T
  obtain rfl : T = tab := hT.symm.trans (by kernel_rfl)
  clear hT
  go_wp2_with (first | (refine index_tab (by rfl) (by rfl) x q h0 h1 HQ (by rfl) ?_))
  go_ret
  exact ⟨rfl, rfl⟩

theorem len_hi (x : Int) (h0 : 256 ≤ x) (h1 : x ≤ 65535) (w : World) : Calls Yatd.prog 24 #[.int .u64 x] w fun e w' => e = .returned (.int .i64 (Plain.len2 x.toNat)) ∧ w' = w := by
  have h2 := len2_256 x.toNat (by omega)
  have h3 := len2_le (x / 256).toNat (by omega)
  rw [show x.toNat / 256 = (x / 256).toNat from by omega] at h2
  rw [h2]
  clear h2
  generalize hq : Plain.len2 (x / 256).toNat = q at *
  have HQ : Hid (Plain.len2 (x / 256).toNat = q) := hq
  clear hq
  have h4 : (0 : Int) ≤ (q : Int) := by omega
  have h5 : (q : Int) ≤ 8 := by omega
  have h6 : 0 ≤ x / 256 := by omega
  have h7 : x / 256 ≤ 255 := by omega
  clear h3
  go_enter Yatd.func24, Yatd.ntmps24
  generalize hT : ByteArray.mk (List.toArray (List.append (List.append _ _) (List.append _ _))) = T
  obtain rfl : T = tab := hT.symm.trans (by kernel_rfl)
  clear hT
  go_wp2_with (first | (refine index_tab (by rfl) (by rfl) (x / 256) q h6 h7 HQ (by rfl) ?_))
  go_ret
  exact ⟨congrArg (fun z => Ending.returned (Value.int .i64 z)) (by simp; omega), rfl⟩

theorem len_any (x : Int) (h0 : 0 ≤ x) (h1 : x ≤ 65535) (w : World) : Calls Yatd.prog 21 #[.int .u64 x] w fun e w' => e = .returned (.int .i64 (Plain.len2 x.toNat)) ∧ w' = w := by
  have H : Hid (∀ W, Calls Yatd.prog 24 #[.int .u64 x] W fun e w' => e = .returned (.int .i64 (Plain.len2 x.toNat)) ∧ w' = W) := fun W => by
    by_cases h : x ≤ 255
    · exact len_lo x h0 h W
    · exact len_hi x (by omega) h1 W
  generalize Plain.len2 x.toNat = q at *
  go_enter Yatd.func21, Yatd.ntmps21
  go_wp2_with (go_at_call 24; refine (H.out _).mono ?_; rintro e w' ⟨rfl, rfl⟩)
  go_ret
  exact ⟨rfl, rfl⟩

end Go.Proofs.Ygdatg
