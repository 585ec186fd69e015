import Derived.Test.YgdatgFlat
namespace Go.Proofs.Ygdatg
open Go.RowKit

theorem flat_inv : ∀ (ps : List (List Int)), (∀ d ∈ ps, d.length = 32) → ∀ (j : Nat) (v : Value), (flat ps)[j]? = some v → ∃ d, ps[j / 32]? = some d ∧ (cl d)[j % 32]? = some v
  | [], _, j, v, h => by simp [flat] at h
  | e :: ps, hl, j, v, h => by
    have he := hl e (by simp)
    have hcl : (cl e).length = 32 := by rw [cl_length, he]
    have hf : flat (e :: ps) = cl e ++ flat ps := by simp [flat]
    rw [hf] at h
    by_cases hj : j < 32
    · rw [List.getElem?_append_left (by omega)] at h
      refine ⟨e, ?_, ?_⟩
      · rw [show j / 32 = 0 from by omega]; simp
      · rw [show j % 32 = j from by omega]; exact h
    · rw [List.getElem?_append_right (by omega), hcl] at h
      obtain ⟨d, h1, h2⟩ := flat_inv ps (fun d hd => hl d (by simp [hd])) (j - 32) v h
      refine ⟨d, ?_, ?_⟩
      · rw [show j / 32 = (j - 32) / 32 + 1 from by omega]; simpa using h1
      · rw [show j % 32 = (j - 32) % 32 from by omega]; exact h2

theorem flat_one (ps : List (List Int)) : ∀ u ∈ flat ps, u.oneCell' = true := by
  intro u hu
  obtain ⟨d, _, hd⟩ := List.mem_flatMap.1 hu
  exact cl_one d u hd

theorem digs_cells {w : World} {g o : Nat} {ds : List (List Int)} (h : Digs w (some ⟨g, o, none⟩) ds) : ∀ j u, (flat ds)[j]? = some u → w.cell? ((⟨g, o, none⟩ : Addr).add j) = some u := by
  intro j u hu
  obtain ⟨d, h1, h2⟩ := flat_inv ds h.len j u hu
  obtain ⟨b, p, e, hr⟩ := h.lies (by have := (List.getElem?_eq_some_iff.1 h1).1; omega)
  have e2 : (⟨g, o, none⟩ : Addr) = ⟨b, p, none⟩ := Option.some.inj e
  obtain ⟨rfl, rfl⟩ : g = b ∧ o = p := ⟨congrArg Addr.block e2, congrArg Addr.off e2⟩
  have := hr _ d h1 _ u h2
  rw [Addr.add_mid]
  rwa [show o + j / 32 * 32 + j % 32 = o + j from by omega] at this

theorem clone_any (g n : Nat) (ds : List (List Int)) (w : World) (hn : ds.length = n) (h1 : n ≤ 65536) (hd : Digs w (some ⟨g, 0, none⟩) ds) :
    Calls Yatd.prog 7 #[.slice (some ⟨g, 0, none⟩) n n] w fun e w' => ∃ a c, e = .returned (.slice a n c) ∧ Digs w' a ds ∧ Below w.heap.size w w' := by
  obtain ⟨i0, hi0, hz0, hz1, hz2⟩ := info_parts Yatd.info30
  have hO : (w.alloc (.cells #[] 30)).ownsRow w.heap.size 30 32 (.slice (some ⟨w.heap.size, 0, none⟩) 0 0) 0 [] := World.ownsRow_made w #[] 0 (Nat.le_refl _) (Nat.zero_le _) (by simp)
  have hB : Below w.heap.size w (w.alloc (.cells #[] 30)) := (Below.refl _ _).alloc (Nat.le_refl _) _
  have hC := digs_cells (hd.below hB)
  have hF := flat_length ds hd.len
  have h32 := hd.len
  rw [hn] at hF
  clear hd
  have hnil : ∀ w, (binOp .eql 24 (.slice (some ⟨g, 0, none⟩) n n) (.slice none 0 0)).run Yatd.prog w = .ok (.bool false) w := fun w => Lib.run_eql_slice_nil w 24 30 (some ⟨g, 0, none⟩) n n 0 0 Yatd.underlying24
  go_enter Yatd.func7, Yatd.ntmps7
  go_wp2_with (first | (at_builtin; refine wpList_append_own _ (by rfl) (.tmp 5) (.tmp 6) 24 (by rfl) w.heap.size 30 i0 (.agg (cl zeroD).toArray) 32 32 Yatd.underlying24 hi0 hz0 hz1 hz2 (by rfl) (by omega) (.slice (some ⟨w.heap.size, 0, none⟩) 0 0) 0 [] (by rfl) hO ⟨g, 0, none⟩ n n (flat ds) (by rfl) hF hC (flat_one ds) (by unfold maxLen; omega) (by omega) (by simp) ?_; intro v' w1 hown hgrow hnl))
  rw [Nat.zero_add, List.nil_append] at hown
  have hB1 : Below w.heap.size w w1 := hB.grown hgrow (by simp) (fun k hk => by cases hk; exact Nat.le_refl _)
  go_ret
  rcases hown.2 with ⟨e, _⟩ | ⟨g', c, cur, rfl, rest⟩
  · exact absurd (hnl.1 e).1 (by simp)
  · exact ⟨some ⟨g', 0, none⟩, c, rfl, own_digs hown h32, hB1⟩

end Go.Proofs.Ygdatg
