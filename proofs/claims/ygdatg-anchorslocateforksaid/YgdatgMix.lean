import Derived.Test.YgdatgBase
namespace Go.Proofs.Ygdatg
open Go.RowKit

theorem rot_any (x : Int) (w : World) : Calls Yatd.prog 22 #[.int .u8 x, .int .i64 1] w fun e w' => e = .returned (.int .u8 (bits BinOp.or IntKind.u8 (x * 2 % 256) (x / 128))) ∧ w' = w := by
  have h17 : bits BinOp.and IntKind.u64 1 7 = 1 := by decide
  go_enter Yatd.func22, Yatd.ntmps22
  go_wp2
  go_ret
  exact ⟨rfl, rfl⟩

/-- Byte i of the node hash. -/
def mixAt (x y : Int) (i : Nat) : Int := bits BinOp.xor IntKind.u8 (bits BinOp.xor IntKind.u8 x (bits BinOp.or IntKind.u8 (y * 2 % 256) (y / 128))) i
def mixTo (a b : List Int) (k : Nat) : List Int := (List.range 32).map fun i => if i < k then mixAt (a.getD i 0) (b.getD i 0) i else 0
def mixD (a b : List Int) : List Int := mixTo a b 32

theorem mixTo_length (a b : List Int) (k : Nat) : (mixTo a b k).length = 32 := by simp [mixTo]
theorem mixD_length (a b : List Int) : (mixD a b).length = 32 := mixTo_length a b 32
theorem mixTo_get (a b : List Int) (k i : Nat) (hi : i < 32) : (mixTo a b k).getD i 0 = if i < k then mixAt (a.getD i 0) (b.getD i 0) i else 0 := by
  simp [mixTo, List.getD, hi]

structure MixRel (a b : List Int) (w : World) (k : Nat) (wr : World) : Prop where
  below : Below w.heap.size w wr
  ra : wr.rangeAt w.heap.size 0 (cl a)
  rb : wr.rangeAt (w.heap.size + 1) 0 (cl b)
  rr : wr.there (w.heap.size + 1 + 1) 0 32
  rd : wr.rangeAt (w.heap.size + 1 + 1 + 1) 0 (cl (mixTo a b k))
  td : wr.there (w.heap.size + 1 + 1 + 1) 0 32

theorem mix_start (a b : List Int) (w : World) :
    MixRel a b w 0 ((((w.alloc (.cells (cl a).toArray 30)).alloc (.cells (cl b).toArray 30)).alloc (.cells (cl (mixTo a b 0)).toArray 30)).alloc (.cells (cl (mixTo a b 0)).toArray 30)) := by
  have h0 : (cl (mixTo a b 0)).toArray.size = 32 := by simp [cl_length, mixTo_length]
  have e1 : (w.alloc (.cells (cl a).toArray 30)).heap.size = w.heap.size + 1 := by simp
  have e2 : ((w.alloc (.cells (cl a).toArray 30)).alloc (.cells (cl b).toArray 30)).heap.size = w.heap.size + 1 + 1 := by simp
  have e3 : (((w.alloc (.cells (cl a).toArray 30)).alloc (.cells (cl b).toArray 30)).alloc (.cells (cl (mixTo a b 0)).toArray 30)).heap.size = w.heap.size + 1 + 1 + 1 := by simp
  refine ⟨?_, ?_, ?_, ?_, ?_, ?_⟩
  · exact ((((Below.refl _ _).alloc (Nat.le_refl _) _).alloc (by simp) _).alloc (by simp; omega) _).alloc (by simp; omega) _
  · exact World.rangeAt_alloc (World.rangeAt_alloc (World.rangeAt_alloc (range_new w a 30) _) _) _
  · have := range_new (w.alloc (.cells (cl a).toArray 30)) b 30
    rw [e1] at this
    exact World.rangeAt_alloc (World.rangeAt_alloc this _) _
  · have := there_new ((w.alloc (.cells (cl a).toArray 30)).alloc (.cells (cl b).toArray 30)) (cl (mixTo a b 0)).toArray 30
    rw [e2, h0] at this
    exact World.there_alloc this _
  · have := range_new (((w.alloc (.cells (cl a).toArray 30)).alloc (.cells (cl b).toArray 30)).alloc (.cells (cl (mixTo a b 0)).toArray 30)) (mixTo a b 0) 30
    rw [e3] at this
    exact this
  · have := there_new (((w.alloc (.cells (cl a).toArray 30)).alloc (.cells (cl b).toArray 30)).alloc (.cells (cl (mixTo a b 0)).toArray 30)) (cl (mixTo a b 0)).toArray 30
    rw [e3, h0] at this
    exact this
theorem mix_step {a b : List Int} {w wr : World} {k : Nat} (h : MixRel a b w k wr) (hk : k < 32) :
    MixRel a b w (k + 1) (wr.setCell ⟨w.heap.size + 1 + 1 + 1, k, none⟩ (.int .u8 (mixAt (a.getD k 0) (b.getD k 0) k))).drew := by
  have hs : MixRel a b w (k + 1) (wr.setCell ⟨w.heap.size + 1 + 1 + 1, 0 + k, none⟩ (.int .u8 (mixAt (a.getD k 0) (b.getD k 0) k))) := by
    refine ⟨h.below.setCell (by simp only []; omega) _, range_other h.ra (by omega), range_other h.rb (by omega), there_set h.rr, ?_, there_set h.td⟩
    refine range_set h.rd (by rw [mixTo_length]; omega) ?_ (by rw [mixTo_length, mixTo_length]) fun i hi => ?_
    · rw [mixTo_get _ _ _ _ hk, if_pos (by omega)]
    · by_cases h32 : i < 32
      · rw [mixTo_get _ _ _ _ h32, mixTo_get _ _ _ _ h32]
        by_cases hik : i < k
        · rw [if_pos hik, if_pos (by omega)]
        · rw [if_neg hik, if_neg (by omega)]
      · rw [getD_past _ _ (by rw [mixTo_length]; omega), getD_past _ _ (by rw [mixTo_length]; omega)]
  rw [Nat.zero_add] at hs
  exact ⟨hs.below.drew, by simpa using hs.ra, by simpa using hs.rb, by simpa using hs.rr, by simpa using hs.rd, by simpa using hs.td⟩

theorem wrap_u8 (x : Int) : IntKind.u8.wrap x = x % 256 := by simp [IntKind.wrap, IntKind.signed, IntKind.bits]

theorem slow_any (a b : List Int) (ha : a.length = 32) (hb : b.length = 32) (w : World) :
    Calls Yatd.prog 19 #[.agg (cl a).toArray, .agg (cl b).toArray] w fun e w' => e = .returned (.agg (cl (mixD a b)).toArray) ∧ Below w.heap.size w w' := by
  go_enter Yatd.func19, Yatd.ntmps19
  go_wp2
  go_loopw [7] (fun i wr => ∃ k : Nat, k ≤ 32 ∧ i = .int .i64 k ∧ MixRel a b w k wr) (fun i _ => 32 - (intOf i).toNat)
  case atStart => exact ⟨0, by omega, rfl, mix_start a b w⟩
  case round =>
    obtain ⟨k, hk, rfl, hrel⟩ := hrel
    by_cases hlt : k < 32
    · have hs := mix_step hrel hlt
      obtain ⟨x, hx⟩ : ∃ x, x = a.getD k 0 := ⟨_, rfl⟩
      obtain ⟨y, hy⟩ : ∃ y, y = b.getD k 0 := ⟨_, rfl⟩
      have c1 : wr.cell? ⟨w.heap.size, k, none⟩ = some (.int .u8 x) := by have := range_get hrel.ra k (by omega); rw [hx]; simpa using this
      have c2 : wr.cell? ⟨w.heap.size + 1, k, none⟩ = some (.int .u8 y) := by have := range_get hrel.rb k (by omega); rw [hy]; simpa using this
      have c3 := range_get hrel.rd k (by rw [mixTo_length]; omega)
      have c4 := (hrel.td k (by omega)).2
      obtain ⟨z, hz⟩ : ∃ z, z = (mixTo a b k).getD k 0 := ⟨_, rfl⟩
      rw [← hz, Nat.zero_add] at c3
      have e1 := wrap_u8 (y * 2)
      have e2 : IntKind.u8.wrap (k : Int) = k := by rw [wrap_u8]; omega
      have hk0 : (0 : Int) ≤ (k : Int) := Int.natCast_nonneg _
      have hk1 : (k : Int) < 32 := by omega
      rw [Nat.zero_add] at c4
      rw [← hx, ← hy] at hs
      have HS : Hid _ := hs
      clear hs hx hy hz hrel ha hb
      go_wp2

      go_region_held3 (fun w' => w'.cell? ⟨w.heap.size, k, none⟩ = some (.int .u8 x) ∧ w'.cell? ⟨w.heap.size + 1, k, none⟩ = some (.int .u8 y)) (first | exact ⟨cell_far (by omega) c1, cell_far (by omega) c2⟩ | go_keep) (fail)
      go_wp2
      go_roundw
      case rel => exact ⟨k + 1, by omega, by go_num, HS.out⟩
      case measure => simp [intOf]; omega
    · obtain rfl : k = 32 := by omega
      have hd := hrel.rd
      have ht := hrel.rr
      have hbel := hrel.below
      clear hrel hk
      have h32 := mixTo_length a b 32
      go_wp2_with (first | (refine load30 (.tmp 5) (by rfl) (by rfl) (w.heap.size + 1 + 1 + 1) 0 (mixTo a b 32) (by rfl) h32 hd ?_) | (refine store30 (.tmp 4) (.tmp 29) (by rfl) (by rfl) (w.heap.size + 1 + 1) 0 (mixTo a b 32) (by rfl) (by rfl) h32 ht ?_))
      exact ret30 4 (w.heap.size + 1 + 1) (mixTo a b 32) rfl rfl h32 (World.rangeAt_setCells_same _ _ _ _ (by rw [cl_length, h32]; exact ht)) rfl ⟨rfl, below_setCells (by omega) _ _ _ hbel⟩

theorem mix_any (a b : List Int) (ha : a.length = 32) (hb : b.length = 32) (w : World) :
    Calls Yatd.prog 18 #[.agg (cl a).toArray, .agg (cl b).toArray] w fun e w' => e = .returned (.agg (cl (mixD a b)).toArray) ∧ Below w.heap.size w w' := by
  go_enter Yatd.func18, Yatd.ntmps18
  go_wp2
  go_loopw [7] (fun i wr => ∃ k : Nat, k ≤ 32 ∧ i = .int .i64 k ∧ MixRel a b w k wr) (fun i _ => 32 - (intOf i).toNat)
  case atStart => exact ⟨0, by omega, rfl, mix_start a b w⟩
  case round =>
    obtain ⟨k, hk, rfl, hrel⟩ := hrel
    by_cases hlt : k < 32
    · have hs := mix_step hrel hlt
      obtain ⟨x, hx⟩ : ∃ x, x = a.getD k 0 := ⟨_, rfl⟩
      obtain ⟨y, hy⟩ : ∃ y, y = b.getD k 0 := ⟨_, rfl⟩
      have c1 : wr.cell? ⟨w.heap.size, k, none⟩ = some (.int .u8 x) := by have := range_get hrel.ra k (by omega); rw [hx]; simpa using this
      have c2 : wr.cell? ⟨w.heap.size + 1, k, none⟩ = some (.int .u8 y) := by have := range_get hrel.rb k (by omega); rw [hy]; simpa using this
      have c3 := range_get hrel.rd k (by rw [mixTo_length]; omega)
      have c4 := (hrel.td k (by omega)).2
      obtain ⟨z, hz⟩ : ∃ z, z = (mixTo a b k).getD k 0 := ⟨_, rfl⟩
      rw [← hz, Nat.zero_add] at c3
      have e1 := wrap_u8 (y * 2)
      have e2 : IntKind.u8.wrap (k : Int) = k := by rw [wrap_u8]; omega
      have hk0 : (0 : Int) ≤ (k : Int) := Int.natCast_nonneg _
      have hk1 : (k : Int) < 32 := by omega
      rw [Nat.zero_add] at c4
      rw [← hx, ← hy] at hs
      have HS : Hid _ := hs
      clear hs hx hy hz hrel ha hb
      go_wp2

      go_region_held3 (fun w' => w'.cell? ⟨w.heap.size, k, none⟩ = some (.int .u8 x) ∧ w'.cell? ⟨w.heap.size + 1, k, none⟩ = some (.int .u8 y)) (first | exact ⟨cell_far (by omega) c1, cell_far (by omega) c2⟩ | go_keep) (first | (go_at_call 22; refine (rot_any _ _).mono ?_; rintro e w' ⟨rfl, rfl⟩))
      go_wp2
      go_roundw
      case rel => exact ⟨k + 1, by omega, by go_num, HS.out⟩
      case measure => simp [intOf]; omega
    · obtain rfl : k = 32 := by omega
      have hd := hrel.rd
      have ht := hrel.rr
      have hbel := hrel.below
      clear hrel hk
      have h32 := mixTo_length a b 32
      go_wp2_with (first | (refine load30 (.tmp 5) (by rfl) (by rfl) (w.heap.size + 1 + 1 + 1) 0 (mixTo a b 32) (by rfl) h32 hd ?_) | (refine store30 (.tmp 4) (.tmp 24) (by rfl) (by rfl) (w.heap.size + 1 + 1) 0 (mixTo a b 32) (by rfl) (by rfl) h32 ht ?_))
      exact ret30 4 (w.heap.size + 1 + 1) (mixTo a b 32) rfl rfl h32 (World.rangeAt_setCells_same _ _ _ _ (by rw [cl_length, h32]; exact ht)) rfl ⟨rfl, below_setCells (by omega) _ _ _ hbel⟩


end Go.Proofs.Ygdatg
