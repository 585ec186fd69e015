import Derived.Test.YgdatgTop0
namespace Go.Proofs.Ygdatg
open Go.RowKit

theorem cells3 (w : World) (x y z : Value) (t : TypeId) : (w.alloc (.cells #[x, y, z] t)).cell? ⟨w.heap.size, 0, none⟩ = some x ∧ (w.alloc (.cells #[x, y, z] t)).cell? ⟨w.heap.size, 1, none⟩ = some y ∧ (w.alloc (.cells #[x, y, z] t)).cell? ⟨w.heap.size, 2, none⟩ = some z := by
  refine ⟨?_, ?_, ?_⟩ <;> (rw [cell_of_row _ _ _ _ _ _ (heap_alloc_new w _)]; rfl)
theorem cells2 (w : World) (x y : Value) (t : TypeId) : (w.alloc (.cells #[x, y] t)).cell? ⟨w.heap.size, 0, none⟩ = some x ∧ (w.alloc (.cells #[x, y] t)).cell? ⟨w.heap.size, 1, none⟩ = some y := by
  refine ⟨?_, ?_⟩ <;> (rw [cell_of_row _ _ _ _ _ _ (heap_alloc_new w _)]; rfl)

set_option maxRecDepth 100000 in
/-- More than 65536 items: true at once. -/
theorem top_big (a0 a1 a2 : Option Addr) (n0 n1 n2 c0 c1 c2 : Nat) (w : World) (h0 : n0 ≤ 9223372036854775807) (h1 : n1 ≤ 9223372036854775807) (h2 : n2 ≤ 9223372036854775807) (hs : ¬ n0 + n1 + n2 ≤ 65536) :
    Calls Yatd.prog 3 #[.slice a0 n0 c0, .slice a1 n1 c1, .slice a2 n2 c2] w fun e w' => e = .returned (.bool true) ∧ Below w.heap.size w w' := by
  obtain ⟨k1, k2, k3⟩ := cells3 w (.int .i64 n0) (.int .i64 n1) (.int .i64 n2) 3
  have H4 : Hid (Calls Yatd.prog 4 #[.slice (some ⟨w.heap.size, 0, none⟩) 3 3] (w.alloc (.cells #[.int .i64 n0, .int .i64 n1, .int .i64 n2] 3)) fun e w' => e = .returned (.bool false) ∧ w' = w.alloc (.cells #[.int .i64 n0, .int .i64 n1, .int .i64 n2] 3)) := by
    have := within_any w.heap.size n0 n1 n2 _ h0 h1 h2 k1 k2 k3
    rwa [decide_eq_false hs] at this
  clear k1 k2 k3 hs h0 h1 h2
  go_enter Yatd.func3, Yatd.ntmps3
  go_wp2_with (go_at_call 4; refine H4.out.mono ?_; rintro e w' ⟨rfl, rfl⟩)
  go_ret
  exact ⟨rfl, (Below.refl _ _).alloc (Nat.le_refl _) _⟩

theorem cat_call {w V : World} {a0 a1 : Option Addr} {n0 n1 c0 c1 : Nat} {xc xa : List Int} (hb : Below w.heap.size w V) (l0 : xc.length = n0) (l1 : xa.length = n1) (hs : n0 + n1 ≤ 65536)
    (e0 : a0 = none → n0 = 0 ∧ c0 = 0) (e1 : a1 = none → n1 = 0 ∧ c1 = 0) (u0 : U64s w a0 xc) (u1 : U64s w a1 xa) {bs n : Nat} (hbs : V.heap.size = bs) (hn : Hid (n0 + n1 = n)) :
    Calls Yatd.prog 6 #[.slice (some ⟨bs, 0, none⟩) 2 2] (V.alloc (.cells #[.slice a0 n0 c0, .slice a1 n1 c1] 22)) fun e w' => ∃ a c, e = .returned (.slice a n c) ∧ U64s w' a (xc ++ xa) ∧ Below V.heap.size V w' := by
  subst hbs
  have hn' := hn.out
  subst hn'
  have hB : Below V.heap.size V (V.alloc (.cells #[.slice a0 n0 c0, .slice a1 n1 c1] 22)) := (Below.refl _ _).alloc (Nat.le_refl _) _
  obtain ⟨k1, k2⟩ := cells2 V (.slice a0 n0 c0) (.slice a1 n1 c1) 22
  refine (concat_any V.heap.size n0 n1 c0 c1 a0 a1 xc xa _ l0 l1 hs e0 e1 ((u0.below hb).below hB) ((u1.below hb).below hB) k1 k2).mono ?_
  rintro e w' ⟨a, c, rfl, hU, hb'⟩
  exact ⟨a, c, rfl, hU, hB.trans (hb'.mono (by simp))⟩

set_option maxRecDepth 100000 in
set_option maxHeartbeats 4000000 in
theorem top_in (a0 a1 a2 : Option Addr) (n0 n1 n2 c0 c1 c2 : Nat) (xc xa xb : List Int) (w : World) (l0 : xc.length = n0) (l1 : xa.length = n1) (l2 : xb.length = n2) (hs : n0 + n1 + n2 ≤ 65536)
    (e0 : a0 = none → n0 = 0 ∧ c0 = 0) (e1 : a1 = none → n1 = 0 ∧ c1 = 0) (e2 : a2 = none → n2 = 0 ∧ c2 = 0) (u0 : U64s w a0 xc) (u1 : U64s w a1 xa) (u2 : U64s w a2 xb) :
    Calls Yatd.prog 3 #[.slice a0 n0 c0, .slice a1 n1 c1, .slice a2 n2 c2] w fun e w' => e = .returned (.bool true) ∧ Below w.heap.size w w' := by
  obtain ⟨k1, k2, k3⟩ := cells3 w (.int .i64 n0) (.int .i64 n1) (.int .i64 n2) 3
  have H4 : Hid (Calls Yatd.prog 4 #[.slice (some ⟨w.heap.size, 0, none⟩) 3 3] (w.alloc (.cells #[.int .i64 n0, .int .i64 n1, .int .i64 n2] 3)) fun e w' => e = .returned (.bool true) ∧ w' = w.alloc (.cells #[.int .i64 n0, .int .i64 n1, .int .i64 n2] 3)) := by
    have := within_any w.heap.size n0 n1 n2 _ (by omega) (by omega) (by omega) k1 k2 k3
    rwa [decide_eq_true hs] at this
  clear k1 k2 k3
  obtain ⟨na, hna⟩ : ∃ na, n0 + n1 = na := ⟨_, rfl⟩
  obtain ⟨nb, hnb⟩ : ∃ nb, n0 + n2 = nb := ⟨_, rfl⟩
  have HNA : Hid (n0 + n1 = na) := hna
  have HNB : Hid (n0 + n2 = nb) := hnb
  have p1 : n0 ≤ na := by omega
  have p2 : n0 ≤ nb := by omega
  have p3 : na ≤ 65536 := by omega
  have p4 : nb ≤ 65536 := by omega
  have hs1 : n0 + n1 ≤ 65536 := by omega
  have hs2 : n0 + n2 ≤ 65536 := by omega
  have lia : (xc ++ xa).length = na := by rw [List.length_append]; omega
  have lib : (xc ++ xb).length = nb := by rw [List.length_append]; omega
  clear hna hnb hs
  have q1 : (n0 : Int) ≤ (na : Int) := by omega
  have q2 : (n0 : Int) ≤ (nb : Int) := by omega
  have q3 : (na : Int) ≤ 65536 := by omega
  have q4 : (nb : Int) ≤ 65536 := by omega
  have g0 : (0 : Int) ≤ (n0 : Int) := Int.natCast_nonneg _
  have g1 : (0 : Int) ≤ (n1 : Int) := Int.natCast_nonneg _
  have g2 : (0 : Int) ≤ (n2 : Int) := Int.natCast_nonneg _
  -- the two lists of leaves
  have H5a : Hid (∀ W r k, U64s W r (xc ++ xa) → Calls Yatd.prog 5 #[.slice r na k] W fun e w' => e = .returned (.slice (some ⟨W.heap.size, 0, none⟩) na na) ∧ Digs w' (some ⟨W.heap.size, 0, none⟩) ((xc ++ xa).map leafD) ∧ Below W.heap.size W w') := fun W r k hU => leaves_any na k r (xc ++ xa) W lia p3 hU
  have H5b : Hid (∀ W r k, U64s W r (xc ++ xb) → Calls Yatd.prog 5 #[.slice r nb k] W fun e w' => e = .returned (.slice (some ⟨W.heap.size, 0, none⟩) nb nb) ∧ Digs w' (some ⟨W.heap.size, 0, none⟩) ((xc ++ xb).map leafD) ∧ Below W.heap.size W w') := fun W r k hU => leaves_any nb k r (xc ++ xb) W lib p4 hU
  have hia : ((xc ++ xa).map leafD).length = na := by rw [List.length_map, lia]
  have hib : ((xc ++ xb).map leafD).length = nb := by rw [List.length_map, lib]
  obtain ⟨ia, hIa⟩ : ∃ l, (xc ++ xa).map leafD = l := ⟨_, rfl⟩
  obtain ⟨ib, hIb⟩ : ∃ l, (xc ++ xb).map leafD = l := ⟨_, rfl⟩
  rw [hIa] at hia H5a
  rw [hIb] at hib H5b
  have HIA : Hid ((xc ++ xa).map leafD = ia) := hIa
  have HIB : Hid ((xc ++ xb).map leafD = ib) := hIb
  clear hIa hIb
  go_enter Yatd.func3, Yatd.ntmps3
  go_wp2_with (go_at_call 4; refine H4.out.mono ?_; rintro e w' ⟨rfl, rfl⟩)
  have b1 : Below w.heap.size w (w.alloc (.cells #[.int .i64 n0, .int .i64 n1, .int .i64 n2] 3)) := (Below.refl _ _).alloc (Nat.le_refl _) _
  refine (cat_call b1 l0 l1 hs1 e0 e1 u0 u1 (by simp) HNA).mono ?_
  rintro e w3 ⟨ra, rc, rfl, hU3, hb3⟩
  have b3 : Below w.heap.size w w3 := b1.trans (hb3.mono (by simp))
  clear b1 hb3 H4
  go_wp2_with fail
  refine (H5a.out w3 ra rc hU3).mono ?_
  rintro e w4 ⟨rfl, hd4, hb4⟩
  have b4 : Below w.heap.size w w4 := b3.trans (hb4.mono b3.size)
  clear hU3 hb4 H5a
  go_wp2_with fail
  refine (cat_call b4 l0 l2 hs2 e0 e2 u0 u2 rfl HNB).mono ?_
  rintro e w5 ⟨rb, rd, rfl, hU5, hb5⟩
  have b5 : Below w.heap.size w w5 := b4.trans (hb5.mono b4.size)
  have hd5 := hd4.below hb5
  clear hb5 hd4
  go_wp2_with fail
  refine (H5b.out w5 rb rd hU5).mono ?_
  rintro e w6 ⟨rfl, hd6, hb6⟩
  have I6 : Ids w w6 (some ⟨w3.heap.size, 0, none⟩) (some ⟨w5.heap.size, 0, none⟩) ia ib := ⟨b5.trans (hb6.mono b5.size), hd5.below hb6, hd6⟩
  clear hU5 hb6 H5b hd5 hd6 b3 b4 b5
  generalize w3.heap.size = ga at *
  generalize w5.heap.size = gb at *
  -- the two copies
  go_wp2_with fail
  refine (clone_any ga na ia w6 hia p3 I6.da).mono ?_
  rintro e w7 ⟨ka, kc, rfl, hk7, hb7⟩
  have I7 := I6.next hb7
  clear hb7 I6
  go_wp2_with fail
  refine (clone_any gb nb ib w7 hib p4 I7.db).mono ?_
  rintro e w8 ⟨kb, kd, rfl, hk8, hb8⟩
  have I8 := I7.next hb8
  have hk7' := hk7.below hb8
  clear hb8 I7 hk7
  -- the node hash
  go_wp2_with fail
  refine (agree_any na na _ ia w8 hia p3 I8.da).mono ?_
  rintro e w9 ⟨rfl, hb9⟩
  have I9 := I8.next hb9
  have m7 := hk7'.below hb9
  have m8 := hk8.below hb9
  clear hb9 I8 hk7' hk8
  go_wp2_with fail
  refine (agree_any nb nb _ ib w9 hib p4 I9.db).mono ?_
  rintro e w10 ⟨rfl, hb10⟩
  have I10 := I9.next hb10
  have m9 := m7.below hb10
  have m10 := m8.below hb10
  clear hb10 I9 m7 m8
  -- the chains
  go_wp2_with fail
  refine (anchors_any na na _ ia w10 hia p3 (Nat.le_refl _) I10.da).mono ?_
  rintro e w11 ⟨rfl, hc11, hb11⟩
  have I11 := I10.next hb11
  have m11 := m9.below hb11
  have m12 := m10.below hb11
  clear hb11 I10 m9 m10
  go_wp2_with fail
  refine (anchors_any nb nb _ ib w11 hib p4 (Nat.le_refl _) I11.db).mono ?_
  rintro e w12 ⟨rfl, hc12, hb12⟩
  have A12 : All w w12 (some ⟨ga, 0, none⟩) (some ⟨gb, 0, none⟩) (some ⟨w10.heap.size, 0, none⟩) (some ⟨w11.heap.size, 0, none⟩) ia ib (chainD ia) (chainD ib) := ⟨I11.next hb12, hc11.below hb12, hc12⟩
  have m13 := m11.below hb12
  have m14 := m12.below hb12
  clear hb12 I11 m11 m12 hc11 hc12
  generalize w10.heap.size = gc at *
  generalize w11.heap.size = gd at *
  -- the leaves are as they were
  go_wp2_with fail
  refine (eqD_true na na kc _ ka ia w12 hia p3 A12.ids.da m13).mono ?_
  rintro e w13 ⟨rfl, hb13⟩
  have A13 := A12.next hb13
  have m15 := m14.below hb13
  clear hb13 A12 m13 m14
  go_wp2_with fail
  refine (eqD_true nb nb kd _ kb ib w13 hib p4 A13.ids.db m15).mono ?_
  rintro e w14 ⟨rfl, hb14⟩
  have A14 := A13.next hb14
  clear hb14 A13 m15
  go_wp2_with fail
  clear e0 e1 e2 u0
  -- every anchor of the first chain is the root from the top down
  go_loopw [65] (fun i wr => ∃ k : Nat, k ≤ na ∧ i = .int .i64 k ∧ All w wr (some ⟨ga, 0, none⟩) (some ⟨gb, 0, none⟩) (some ⟨gc, 0, none⟩) (some ⟨gd, 0, none⟩) ia ib (chainD ia) (chainD ib)) (fun i _ => na - (intOf i).toNat)
  case atStart => exact ⟨0, by omega, rfl, A14⟩
  case round =>
    obtain ⟨k, hk, rfl, A⟩ := hrel
    clear A14
    by_cases hlt : k < na
    · have hk0 : (0 : Int) ≤ (k : Int) := Int.natCast_nonneg _
      have hk1 : (k : Int) < (na : Int) := by omega
      have hk2 : (0 : Int) ≤ (k : Int) + 1 := by omega
      have hk3 : (k : Int) + 1 ≤ (na : Int) := by omega
      have hwk : IntKind.i64.wrap ((k : Int) + 1) = (k : Int) + 1 := by rw [IntKind.wrap_i64]; omega
      have hw0 : Below wr.heap.size wr wr.drew := (Below.refl _ _).drew
      have hca := chainD_get ia k (by omega)
      have hr32 := A.ca.len _ (List.mem_of_getElem? hca)
      obtain ⟨b', o', e', hlies⟩ := A.ca.lies (by rw [chainD_length]; omega)
      cases e'
      have hrow := range_below (hlies k _ hca) hw0 (range_lt (hlies k _ hca) hr32)
      have HC : Hid (Calls Yatd.prog 11 #[.slice (some ⟨ga, 0, none⟩) (k + 1) na] wr.drew fun e w' => e = .returned (.agg (cl (rootD (ia.take (k + 1)))).toArray) ∧ Below wr.drew.heap.size wr.drew w') :=
        slowRoot_any (k + 1) na _ (ia.take (k + 1)) wr.drew (by rw [List.length_take]; omega) (by omega) (by omega) ((A.ids.da.below hw0).take (k + 1))
      generalize rootD (ia.take (k + 1)) = r at *
      have hq : ∀ w, (Op.equalIn 10000 30 (.agg (cl r).toArray) (.agg (cl r).toArray)).run Yatd.prog w = .ok true w := fun w => by rw [neq_in30 w 9998 r r hr32 hr32]; simp
      have lgc : gc < wr.drew.heap.size := range_lt hrow hr32
      have hi := size30 r hr32
      have hu := Yatd.underlying30
      have AD := A.next hw0
      clear hlies hca A hw0
      rw [Nat.zero_add] at hrow
      go_wp2
      go_region_held3 (fun w' => w'.rangeAt gc (k * 32) (cl r)) (first | with_reducible exact hrow | with_reducible exact range_below hrow hb15 lgc)
        (first | (go_at_call 11; refine HC.out.mono ?_; rintro e w15 ⟨rfl, hb15⟩))
      have AE := AD.next hb15
      clear hb15 AD hrow HC hq lgc hi hu
      go_wp2
      go_roundw
      case rel => exact ⟨k + 1, by omega, by go_num, AE⟩
      case measure => simp [intOf]; omega
    · obtain ⟨wA, rfl⟩ : ∃ W : World, W = wr := ⟨wr, rfl⟩
      have hk9 : ¬ (k : Int) < (na : Int) := by omega
      clear hk hlt
      go_wp2
      clear hk9
      -- every anchor of the second chain
      go_loopw [81] (fun i wr => ∃ k : Nat, k ≤ nb ∧ i = .int .i64 k ∧ All w wr (some ⟨ga, 0, none⟩) (some ⟨gb, 0, none⟩) (some ⟨gc, 0, none⟩) (some ⟨gd, 0, none⟩) ia ib (chainD ia) (chainD ib)) (fun i _ => nb - (intOf i).toNat)
      case atStart => exact ⟨0, by omega, rfl, A⟩
      case round =>
        clear A
        obtain ⟨k, hk, rfl, A⟩ := hrel
        by_cases hlt : k < nb
        · have hk0 : (0 : Int) ≤ (k : Int) := Int.natCast_nonneg _
          have hk1 : (k : Int) < (nb : Int) := by omega
          have hk2 : (0 : Int) ≤ (k : Int) + 1 := by omega
          have hk3 : (k : Int) + 1 ≤ (nb : Int) := by omega
          have hwk : IntKind.i64.wrap ((k : Int) + 1) = (k : Int) + 1 := by rw [IntKind.wrap_i64]; omega
          have hw0 : Below wr.heap.size wr wr.drew := (Below.refl _ _).drew
          have hca := chainD_get ib k (by omega)
          have hr32 := A.cb.len _ (List.mem_of_getElem? hca)
          obtain ⟨b', o', e', hlies⟩ := A.cb.lies (by rw [chainD_length]; omega)
          cases e'
          have hrow := range_below (hlies k _ hca) hw0 (range_lt (hlies k _ hca) hr32)
          have HC : Hid (Calls Yatd.prog 11 #[.slice (some ⟨gb, 0, none⟩) (k + 1) nb] wr.drew fun e w' => e = .returned (.agg (cl (rootD (ib.take (k + 1)))).toArray) ∧ Below wr.drew.heap.size wr.drew w') :=
            slowRoot_any (k + 1) nb _ (ib.take (k + 1)) wr.drew (by rw [List.length_take]; omega) (by omega) (by omega) ((A.ids.db.below hw0).take (k + 1))
          generalize rootD (ib.take (k + 1)) = r at *
          have hq : ∀ w, (Op.equalIn 10000 30 (.agg (cl r).toArray) (.agg (cl r).toArray)).run Yatd.prog w = .ok true w := fun w => by rw [neq_in30 w 9998 r r hr32 hr32]; simp
          have lgd : gd < wr.drew.heap.size := range_lt hrow hr32
          have hi := size30 r hr32
          have hu := Yatd.underlying30
          have AD := A.next hw0
          clear hlies hca A hw0
          rw [Nat.zero_add] at hrow
          go_wp2
          go_region_held3 (fun w' => w'.rangeAt gd (k * 32) (cl r)) (first | with_reducible exact hrow | with_reducible exact range_below hrow hb15 lgd)
            (first | (go_at_call 11; refine HC.out.mono ?_; rintro e w15 ⟨rfl, hb15⟩))
          have AE := AD.next hb15
          clear hb15 AD hrow HC hq lgd hi hu
          go_wp2
          go_roundw
          case rel => exact ⟨k + 1, by omega, by go_num, AE⟩
          case measure => simp [intOf]; omega
        · obtain ⟨wB, rfl⟩ : ∃ W : World, W = wr := ⟨wr, rfl⟩
          have hk9 : ¬ (k : Int) < (nb : Int) := by omega
          clear hk hlt
          -- the root of nothing
          have hq0 : ∀ w, (Op.equalIn 10000 30 (.agg (cl zeroD).toArray) (.agg #[.int .u8 0, .int .u8 0, .int .u8 0, .int .u8 0, .int .u8 0, .int .u8 0, .int .u8 0, .int .u8 0, .int .u8 0, .int .u8 0, .int .u8 0, .int .u8 0, .int .u8 0, .int .u8 0, .int .u8 0, .int .u8 0, .int .u8 0, .int .u8 0, .int .u8 0, .int .u8 0, .int .u8 0, .int .u8 0, .int .u8 0, .int .u8 0, .int .u8 0, .int .u8 0, .int .u8 0, .int .u8 0, .int .u8 0, .int .u8 0, .int .u8 0, .int .u8 0])).run Yatd.prog w = .ok true w := fun w => by
            have := neq_in30 w 9998 zeroD zeroD zeroD_length zeroD_length
            simp only [beq_self_eq_true] at this
            exact this
          go_wp2_with fail
          refine (root_nil wB).mono ?_
          rintro e w16 ⟨rfl, hb16⟩
          have A16 := A.next hb16
          clear A hb16
          have lA : (chainD ia).length = na := by rw [chainD_length, hia]
          have lB : (chainD ib).length = nb := by rw [chainD_length, hib]
          have hfork : (chainD ia).take n0 = (chainD ib).take n0 := by
            have := chain_fork (xc.map leafD) (xa.map leafD) (xb.map leafD)
            rwa [← List.map_append, ← List.map_append, HIA.out, HIB.out, List.length_map, l0] at this
          have PF := fork_div (chainD ia) n0 n1 (by rw [lA]; exact HNA.out.symm)
          obtain ⟨d, hd⟩ := div_exists (chainD ia) (chainD ib)
          have PP : Parts n0 (chainD ia) (chainD ib) d := parts_of hd hfork (by omega) (by omega)
          have HEQ : Hid (xa = xb → d = -1) := fun e => by
            refine hd.uniq ?_
            rw [← HIA.out, ← HIB.out, e]
            exact Plain.IsDiv.self _
          have lT : ((chainD ia).take n0).length = n0 := by rw [List.length_take]; omega
          clear hfork HIA HIB lia lib
          generalize chainD ia = A at *
          generalize chainD ib = B at *
          have HLA : Hid (A.length = na) := lA
          have HLB : Hid (B.length = nb) := lB
          have HLT : Hid ((A.take n0).length = n0) := lT
          clear lA lB lT hia hib
          by_cases hp : 0 < n1
          all_goals
            first
              | rw [if_pos hp] at PF
              | rw [if_neg hp] at PF
            have hp1 : (0 : Int) < (n1 : Int) ∨ ¬ (0 : Int) < (n1 : Int) := by omega
            rcases hp1 with hp1 | hp1
            all_goals try (exfalso; omega)
          all_goals
            go_wp2_with fail
            refine (div_any na n0 na na _ _ A (A.take n0) _ w16 HLA.out HLT.out p3 (by omega) A16.ca (A16.ca.take n0) PF).mono ?_
            rintro e w17 ⟨rfl, hb17⟩
            have A17 := A16.next hb17
            clear A16 hb17 PF hq0
            by_cases hd1 : d = -1
            · subst hd1
              have hAB := PP.same rfl
              have hnn : na = nb := by rw [← HLA.out, ← HLB.out, hAB]
              subst hAB
              subst hnn
              obtain ⟨v, hv⟩ : ∃ v : Bool, v = true ↔ xa = xb := ⟨decide (xa = xb), by simp⟩
              have HV : Hid (v = true ↔ xa = xb) := hv
              clear hv HEQ PP
              go_wp2_with fail
              refine (div_any na na na na _ _ A A (-1) w17 HLA.out HLA.out p3 p3 A17.ca A17.cb (Plain.IsDiv.self _)).mono ?_
              rintro e w18 ⟨rfl, hb18⟩
              have A18 := A17.next hb18
              clear A17 hb18
              go_wp2_with fail
              refine (pdiv_any na na na na _ _ A A (-1) w18 HLA.out HLA.out p3 p3 A18.ca A18.cb (Plain.IsDiv.self _)).mono ?_
              rintro e w19 ⟨rfl, hb19⟩
              have A19 := A18.next hb19
              clear A18 hb19
              go_wp2_with fail
              refine (div_any na na na na _ _ A A (-1) w19 HLA.out HLA.out p3 p3 A19.cb A19.ca (Plain.IsDiv.self _)).mono ?_
              rintro e w20 ⟨rfl, hb20⟩
              have A20 := A19.next hb20
              clear A19 hb20
              go_wp2_with fail
              refine (eq64_any n1 n2 c1 c2 a1 a2 xa xb w20 l1 l2 (by omega) (by omega) (u1.below A20.ids.below) (u2.below A20.ids.below) v HV.out).mono ?_
              rintro e w21 ⟨rfl, hb21⟩
              have A21 := A20.next hb21
              clear A20 hb21 HV
              cases v
              all_goals
                go_wp2_with fail
                refine (eqD_true na na na _ _ A w21 HLA.out p3 A21.ca A21.cb).mono ?_
                rintro e w22 ⟨rfl, hb22⟩
                have A22 := A21.next hb22
                clear A21 hb22
                go_wp2
                go_ret
                exact ⟨rfl, A22.ids.below⟩
            · have hxne : ¬ xa = xb := fun e => hd1 (HEQ.out e)
              have plow := PP.low hd1
              have phigh := PP.high hd1
              have ppre := PP.pre hd1
              have pdif := PP.differ hd1
              have plen := PP.lens hd1
              have pdiv := PP.div
              obtain ⟨k, rfl⟩ := Int.eq_ofNat_of_zero_le plow.2
              rw [Int.toNat_natCast] at ppre pdif plen
              rw [HLA.out, HLB.out] at phigh pdif plen
              have HPRE : Hid (A.take k = B.take k) := ppre
              have HDIF : Hid (k < min na nb → A.getD k zeroD ≠ B.getD k zeroD) := pdif
              have HLEN : Hid (¬ k < min na nb → na ≠ nb) := plen
              have r1 : n0 ≤ k := by omega
              have r2 : k ≤ na := by omega
              have r3 : k ≤ nb := by omega
              have HV : Hid (false = true ↔ xa = xb) := ⟨fun h => by simp at h, fun h => absurd h hxne⟩
              clear PP plow phigh ppre pdif plen HEQ hxne
              have i1 : (n0 : Int) ≤ (k : Int) := by omega
              have i2 : (k : Int) ≤ (na : Int) := by omega
              have i3 : (k : Int) ≤ (nb : Int) := by omega
              have i4 : (0 : Int) ≤ (k : Int) := by omega
              have i5 : ((k : Int) == -1) = false := by rw [beq_eq_false_iff_ne]; omega
              clear hd1 hd
              go_wp2_with fail
              refine (div_any na nb na nb _ _ A B k w17 HLA.out HLB.out p3 p4 A17.ca A17.cb pdiv).mono ?_
              rintro e w18 ⟨rfl, hb18⟩
              have A18 := A17.next hb18
              clear A17 hb18
              go_wp2_with fail
              refine (pdiv_any na nb na nb _ _ A B k w18 HLA.out HLB.out p3 p4 A18.ca A18.cb pdiv).mono ?_
              rintro e w19 ⟨rfl, hb19⟩
              have A19 := A18.next hb19
              clear A18 hb19
              go_wp2_with fail
              refine (div_any nb na nb na _ _ B A k w19 HLB.out HLA.out p4 p3 A19.cb A19.ca pdiv.symm).mono ?_
              rintro e w20 ⟨rfl, hb20⟩
              have A20 := A19.next hb20
              clear A19 hb20 pdiv
              go_wp2_with fail
              refine (eq64_any n1 n2 c1 c2 a1 a2 xa xb w20 l1 l2 (by omega) (by omega) (u1.below A20.ids.below) (u2.below A20.ids.below) false HV.out).mono ?_
              rintro e w21 ⟨rfl, hb21⟩
              have A21 := A20.next hb21
              clear A20 hb21 HV
              have D1 := A21.ca.take k
              have D2 : Digs w21 (some ⟨gd, 0, none⟩) (A.take k) := by rw [HPRE.out]; exact A21.cb.take k
              have DN1 : ∀ n, Digs (w21.drewN n) (some ⟨gc, 0, none⟩) (A.take k) := fun n => D1.below (below_drewN (Below.refl _ _) n)
              have DN2 : ∀ n, Digs (w21.drewN n) (some ⟨gd, 0, none⟩) (A.take k) := fun n => D2.below (below_drewN (Below.refl _ _) n)
              have lAk : (A.take k).length = k := by rw [List.length_take, HLA.out]; omega
              have HQ : Hid (∀ n, Calls Yatd.prog 10 #[.slice (some ⟨gc, 0, none⟩) k na, .slice (some ⟨gd, 0, none⟩) k nb] (w21.drewN n) fun e w' => e = .returned (.bool true) ∧ ∃ q, w' = (w21.drewN n).drewN q) := fun n => eqD_quiet k na nb _ _ (A.take k) _ lAk (by omega) (DN1 n) (DN2 n)
              clear D1 D2 DN1 DN2 lAk HPRE
              have j1 : decide (k < n0) = false := by simp; omega
              have j2 : decide (na < k) = false := by simp; omega
              have j3 : decide (nb < k) = false := by simp; omega
              rcases Nat.lt_or_ge nb na with hmn | hmn
              all_goals
                by_cases hlt : k < min na nb
                · have t1 : (k : Int) < (na : Int) := by omega
                  have t2 : (k : Int) < (nb : Int) := by omega
                  have hne := HDIF.out hlt
                  obtain ⟨b1, o1, ea, hla⟩ := A21.ca.lies (by rw [HLA.out]; omega)
                  cases ea
                  obtain ⟨b2, o2, eb, hlb⟩ := A21.cb.lies (by rw [HLB.out]; omega)
                  cases eb
                  have hx := A21.ca.getD_len k
                  have hy := A21.cb.getD_len k
                  have v1 := Digs.get hla k (by rw [HLA.out]; omega)
                  have v2 := Digs.get hlb k (by rw [HLB.out]; omega)
                  rw [Nat.zero_add] at v1 v2
                  generalize A.getD k zeroD = x at *
                  generalize B.getD k zeroD = y at *
                  have hq : (x == y) = false := by simp [hne]
                  have hbel := A21.ids.below
                  clear A21 hla hlb HDIF HLEN hne
                  go_wp2
                  go_quiet ((go_at_call 10; exact Calls.quiet_of (HQ.out _)))
                  go_wp2
                  have s1 := range_drewN v1 nq
                  have s2 := range_drewN v2 nq
                  have HQ2 : Hid ((x == y) = false) := hq
                  clear hq HQ v1 v2
                  refine wp_region_quiet_lit (by kernel_rfl) (by kernel_rfl) ?_
                  repeat (first
                    | (refine quiet_load30 (.tmp 169) (by rfl) gc (k * 32) x (by rfl) (by rfl) hx s1 ?_; simp only [Act.put, List.setIfInBounds_toArray, List.set_cons_zero, List.set_cons_succ])
                    | (refine quiet_load30 (.tmp 173) (by rfl) gd (k * 32) y (by rfl) (by rfl) hy s2 ?_; simp only [Act.put, List.setIfInBounds_toArray, List.set_cons_zero, List.set_cons_succ])
                    | (refine quiet_neq30 (.tmp 170) (.tmp 174) (by rfl) x y false (by rfl) (by rfl) (by rfl) hx hy HQ2.out ?_; simp only [Act.put, List.setIfInBounds_toArray, List.set_cons_zero, List.set_cons_succ])
                    | go_big_quiet_step (fail))
                  refine wpQuiet_nil ?_
                  intro _ hw'
                  obtain ⟨nq2, hw''⟩ := hw'
                  subst hw''
                  go_wp2
                  go_ret
                  exact ⟨rfl, below_drewN (below_drewN hbel _) _⟩
                · have hne := HLEN.out hlt
                  have t1 : ¬ (k : Int) < (na : Int) ∨ ¬ (k : Int) < (nb : Int) := by omega
                  have t3 : ((na : Int) != (nb : Int)) = true := by rw [bne_iff_ne]; omega
                  have hbel := A21.ids.below
                  clear A21 HDIF HLEN
                  go_wp2
                  go_quiet ((go_at_call 10; exact Calls.quiet_of (HQ.out _)))
                  go_wp2
                  go_ret
                  exact ⟨rfl, below_drewN hbel _⟩

end Go.Proofs.Ygdatg
