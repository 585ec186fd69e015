import Derived.Test.YgdatgConcat
import Derived.Test.YgdatgClone
import Derived.Test.YgdatgEq64
import Derived.Test.YgdatgWithin
import Derived.Test.YgdatgAgree
import Derived.Test.YgdatgEq
import Derived.Test.YgdatgPdiv
namespace Go.Proofs.Ygdatg
open Go.RowKit

/-! ### The plain law: what the chains of two logs with a common start do -/
theorem chain_fork (c a b : List (List Int)) : (chainD (c ++ a)).take c.length = (chainD (c ++ b)).take c.length := Plain.chain_take _ _ c a b

theorem div_exists : ∀ (a b : List (List Int)), ∃ d, Plain.IsDiv a b d
  | [], [] => ⟨-1, Plain.IsDiv.self _⟩
  | [], y :: b => ⟨0, ⟨.inr ⟨0, rfl, by simp, .inr ⟨by simp, by simp⟩⟩⟩⟩
  | x :: a, [] => ⟨0, ⟨.inr ⟨0, rfl, by simp, .inr ⟨by simp, by simp⟩⟩⟩⟩
  | x :: a, y :: b => by
    by_cases h : x = y
    · subst h
      obtain ⟨d, hd⟩ := div_exists a b
      rcases hd.ok with ⟨h1, h2⟩ | ⟨k, h1, h2, h3⟩
      · exact ⟨-1, ⟨.inl ⟨rfl, by rw [h2]⟩⟩⟩
      · refine ⟨(k + 1 : Nat), ⟨.inr ⟨k + 1, rfl, by simp [h2], ?_⟩⟩⟩
        rcases h3 with ⟨u, v, hu, hv, hn⟩ | ⟨hn, hk⟩
        · exact .inl ⟨u, v, by simpa using hu, by simpa using hv, hn⟩
        · exact .inr ⟨by simpa using hn, by simp; omega⟩
    · exact ⟨0, ⟨.inr ⟨0, rfl, by simp, .inl ⟨x, y, by simp, by simp, h⟩⟩⟩⟩

/-- ALL THAT THE LAW ASKS OF d, the point where the chains part. c: the length of the common start; A, B: the chains. -/
structure Parts (c : Nat) (A B : List (List Int)) (d : Int) : Prop where
  div : Plain.IsDiv A B d
  same : d = -1 → A = B
  low : d ≠ -1 → (c : Int) ≤ d ∧ 0 ≤ d
  high : d ≠ -1 → d ≤ (min A.length B.length : Nat)
  pre : d ≠ -1 → A.take d.toNat = B.take d.toNat
  differ : d ≠ -1 → d.toNat < min A.length B.length → A.getD d.toNat zeroD ≠ B.getD d.toNat zeroD
  lens : d ≠ -1 → ¬ d.toNat < min A.length B.length → A.length ≠ B.length

theorem parts_of {c : Nat} {A B : List (List Int)} {d : Int} (h : Plain.IsDiv A B d) (hc : A.take c = B.take c) (h1 : c ≤ A.length) (h2 : c ≤ B.length) : Parts c A B d := by
  refine ⟨h, fun e => ?_, fun e => ?_, fun e => ?_, fun e => ?_, fun e hlt => ?_, fun e hlt => ?_⟩
  · rcases h.ok with ⟨_, h3⟩ | ⟨k, h3, _⟩
    · exact h3
    · omega
  · have := h.above hc h1 h2 e
    exact ⟨this, by omega⟩
  · rcases h.ok with ⟨h3, _⟩ | ⟨k, h3, _, h5⟩
    · exact absurd h3 e
    · have := Plain.IsDiv.min_le h5; omega
  · rcases h.ok with ⟨h3, _⟩ | ⟨k, h3, h4, _⟩
    · exact absurd h3 e
    · rw [h3, Int.toNat_natCast]; exact h4
  · rcases h.ok with ⟨h3, _⟩ | ⟨k, h3, _, h5⟩
    · exact absurd h3 e
    · rw [h3, Int.toNat_natCast] at hlt ⊢
      rcases h5 with ⟨x, y, hx, hy, hn⟩ | ⟨_, hk⟩
      · rw [List.getD, List.getD, hx, hy]; exact hn
      · omega
  · rcases h.ok with ⟨h3, _⟩ | ⟨k, h3, _, h5⟩
    · exact absurd h3 e
    · rw [h3, Int.toNat_natCast] at hlt
      rcases h5 with ⟨x, y, hx, hy, hn⟩ | ⟨hne, _⟩
      · have h1 := (List.getElem?_eq_some_iff.1 hx).1
        have h2 := (List.getElem?_eq_some_iff.1 hy).1
        omega
      · exact hne

theorem fork_div (A : List (List Int)) (c t : Nat) (h : A.length = c + t) : Plain.IsDiv A (A.take c) (if 0 < t then (c : Int) else -1) := by
  by_cases ht : 0 < t
  · rw [if_pos ht]; exact Plain.IsDiv.fork A c (by omega)
  · rw [if_neg ht, List.take_of_length_le (by omega)]; exact Plain.IsDiv.self A

/-! ### What is carried from call to call -/
/-- Both lists of leaves lie in memory. -/
structure Ids (w W : World) (pa pb : Option Addr) (ia ib : List (List Int)) : Prop where
  below : Below w.heap.size w W
  da : Digs W pa ia
  db : Digs W pb ib
theorem Ids.next {w W W' : World} {pa pb : Option Addr} {ia ib : List (List Int)} (h : Ids w W pa pb ia ib) (hb : Below W.heap.size W W') : Ids w W' pa pb ia ib := ⟨h.below.trans (hb.mono h.below.size), h.da.below hb, h.db.below hb⟩

/-- .. and the copies, and the chains. -/
structure All (w W : World) (pa pb qa qb : Option Addr) (ia ib A B : List (List Int)) : Prop where
  ids : Ids w W pa pb ia ib
  ca : Digs W qa A
  cb : Digs W qb B
theorem All.next {w W W' : World} {pa pb qa qb : Option Addr} {ia ib A B : List (List Int)} (h : All w W pa pb qa qb ia ib A B) (hb : Below W.heap.size W W') : All w W' pa pb qa qb ia ib A B := ⟨h.ids.next hb, h.ca.below hb, h.cb.below hb⟩

end Go.Proofs.Ygdatg
