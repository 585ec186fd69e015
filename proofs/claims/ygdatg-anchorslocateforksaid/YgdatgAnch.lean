import Derived.Test.YgdatgRoot1
namespace Go.Proofs.Ygdatg
open Go.RowKit

/-- The roots of all prefixes. -/
def chainD (ds : List (List Int)) : List (List Int) := Plain.chain mixD zeroD ds
theorem chainD_length (ds : List (List Int)) : (chainD ds).length = ds.length := Plain.chain_length _ _ ds
theorem chainD_get (ds : List (List Int)) (i : Nat) (h : i < ds.length) : (chainD ds)[i]? = some (rootD (ds.take (i + 1))) := by
  simp [chainD, Plain.chain, List.getElem?_range h, rootD]

/-- The row that is being filled: k digests are there. -/
structure OutRel (w : World) (n k : Nat) (cs : List (List Int)) (wr : World) : Prop where
  free : ∀ i, i < n → wr.there w.heap.size (i * 32) 32
  done : ∀ i d, i < k → cs[i]? = some d → wr.rangeAt w.heap.size (i * 32) (cl d)
  below : Below w.heap.size w wr
  lt : w.heap.size < wr.heap.size

theorem out_start {w w1 : World} {n : Nat} {xs : List Value} (cs : List (List Int)) (h : w1.ownsRow w.heap.size 30 32 (.slice (some ⟨w.heap.size, 0, none⟩) n n) n xs) (hg : w.grownBy w1 none) : OutRel w n 0 cs w1 := by
  rcases h.2 with ⟨e, _⟩ | ⟨g, cap, cur, e, hb, hh, hn, hm, hs, ht⟩
  · cases e
  · cases e
    have hlt : w.heap.size < w1.heap.size := (Array.getElem?_eq_some_iff.1 hh).1
    refine ⟨fun i hi j hj => ⟨?_, frozen_of_row _ _ _ _ _ hh⟩, fun i d hi => by omega, (Below.refl _ _).grown hg (Nat.le_refl _) (fun k hk => by cases hk), hlt⟩
    rw [cell_of_row _ _ _ _ _ _ hh]
    have : i * 32 + j < cur.size := by rw [hs]; omega
    simp [this]

theorem out_below {w wr w2 : World} {n k : Nat} {cs : List (List Int)} (h : OutRel w n k cs wr) (hb : Below wr.heap.size wr w2) : OutRel w n k cs w2 :=
  ⟨fun i hi => there_below (h.free i hi) hb h.lt, fun i d hi hd => range_below (h.done i d hi hd) hb h.lt, h.below.trans (hb.mono h.below.size), Nat.lt_of_lt_of_le h.lt hb.size⟩

theorem out_step {w wr : World} {n k : Nat} {cs : List (List Int)} {r : List Int} (h : OutRel w n k cs wr) (hk : k < n) (hl : ∀ d ∈ cs, d.length = 32) (hr : cs[k]? = some r) : OutRel w n (k + 1) cs (wr.setCells w.heap.size (k * 32) (cl r)) := by
  have hr32 := hl r (List.mem_of_getElem? hr)
  refine ⟨fun i hi => World.there_setCells (h.free i hi) _ _ _, fun i d hi hd => ?_, below_setCells (Nat.le_refl _) _ _ _ h.below, by rw [size_setCells]; exact h.lt⟩
  by_cases e : i = k
  · subst e
    rw [hr] at hd
    cases hd
    exact World.rangeAt_setCells_same _ _ _ _ (by rw [cl_length, hr32]; exact h.free i hk)
  · have hd32 := hl d (List.mem_of_getElem? hd)
    refine World.rangeAt_setCells_apart (h.done i d (by omega) hd) _ _ _ (.inr ?_)
    rw [cl_length, cl_length, hr32, hd32]
    omega

theorem out_end {w wr : World} {n : Nat} {cs : List (List Int)} (h : OutRel w n n cs wr) (hn : cs.length = n) (hl : ∀ d ∈ cs, d.length = 32) : Digs wr (some ⟨w.heap.size, 0, none⟩) cs :=
  ⟨hl, fun _ => ⟨w.heap.size, 0, rfl, fun i d hd => by
    have hi := (List.getElem?_eq_some_iff.1 hd).1
    rw [Nat.zero_add]
    exact h.done i d (by omega) hd⟩⟩

theorem chainD_len32 {w : World} {a : Option Addr} {ds : List (List Int)} (hd : Digs w a ds) : ∀ d ∈ chainD ds, d.length = 32 := by
  intro d hm
  obtain ⟨i, hi, e⟩ := List.mem_iff_getElem.1 hm
  have hl : i < ds.length := by rwa [chainD_length] at hi
  have := chainD_get ds i hl
  rw [List.getElem?_eq_getElem hi, e] at this
  rw [Option.some.inj this]
  exact rootD_len (hd.take (i + 1)) (by rw [List.length_take]; omega)

theorem anchors_any (n cap : Nat) (a : Option Addr) (ds : List (List Int)) (w : World) (hn : ds.length = n) (h1 : n ≤ 65536) (hc : n ≤ cap) (hd : Digs w a ds) :
    Calls Yatd.prog 9 #[.slice a n cap] w fun e w' => e = .returned (.slice (some ⟨w.heap.size, 0, none⟩) n n) ∧ Digs w' (some ⟨w.heap.size, 0, none⟩) (chainD ds) ∧ Below w.heap.size w w' := by
  have g2 : (n : Int) ≤ 65536 := by omega
  obtain ⟨i0, hi0, hz0, hz1, hz2⟩ := info_parts Yatd.info30
  have hl32 := chainD_len32 hd
  have hlen : (chainD ds).length = n := by rw [chainD_length, hn]
  go_enter Yatd.func9, Yatd.ntmps9
  go_wp2_with (first | (at_make; refine wpList_make_full _ (by rfl) _ _ 24 (by rfl) w.heap.size 30 i0 (.agg (cl zeroD).toArray) 32 Yatd.underlying24 hi0 hz0 hz1 .i64 .i64 _ _ n (by rfl) (by rfl) (by omega) (by omega) (by rw [hz2]; omega) (by unfold maxLen; omega) (Nat.le_refl _) ?_; intro w1 hown hgrow))
  have O0 := out_start (chainD ds) hown hgrow
  clear hown hgrow
  go_loopw [10] (fun i wr => ∃ k : Nat, k ≤ n ∧ i = .int .i64 k ∧ OutRel w n k (chainD ds) wr) (fun i _ => n - (intOf i).toNat)
  case atStart => exact ⟨0, by omega, rfl, O0⟩
  case round =>
    obtain ⟨k, hk, rfl, O⟩ := hrel
    clear O0
    by_cases hlt : k < n
    · have hk0 : (0 : Int) ≤ (k : Int) := Int.natCast_nonneg _
      have hk1 : (k : Int) < (n : Int) := by omega
      obtain ⟨b, o, rfl, hr⟩ := hd.lies (by omega)
      have HC : Hid (Calls Yatd.prog 12 #[.slice (some ⟨b, o, none⟩) (k + 1) cap] wr fun e w' => e = .returned (.agg (cl (rootD (ds.take (k + 1)))).toArray) ∧ Below wr.heap.size wr w') :=
        root_any (k + 1) cap _ (ds.take (k + 1)) wr (by rw [List.length_take]; omega) (by omega) (by omega) (by omega) ((hd.below O.below).take (k + 1))
      have hr1 := chainD_get ds k (by omega)
      generalize rootD (ds.take (k + 1)) = r at *
      have hr32 : r.length = 32 := hl32 r (List.mem_of_getElem? hr1)
      have H1 : Hid ((chainD ds)[k]? = some r) := hr1
      clear hr1 hr hd
      go_wp2_with fail
      refine HC.out.mono ?_
      rintro e w2 ⟨rfl, hb2⟩
      have O2 := out_below O hb2
      have ht := O2.free k hlt
      have HS : Hid (OutRel w n (k + 1) (chainD ds) (w2.setCells w.heap.size (k * 32) (cl r))) := out_step O2 hlt hl32 H1.out
      clear O O2 HC H1
      go_wp2_with (first | (refine store30 (.tmp 20) (.tmp 19) (by rfl) (by rfl) w.heap.size (k * 32) r (by rfl) (by rfl) hr32 (by exact ht) ?_))
      go_roundw
      case rel => exact ⟨k + 1, by omega, by go_num, HS.out⟩
      case measure => simp [intOf]; omega
    · obtain rfl : k = n := by omega
      have hE := out_end O hlen hl32
      have hB := O.below
      go_wp2
      go_ret
      exact ⟨rfl, hE, hB⟩

end Go.Proofs.Ygdatg
