namespace Go.Proofs.Ygdatg.Plain

variable {α : Type}

/-- One level up: neighbours are paired, the last of an odd level with itself. -/
def pairs (m : α → α → α) : List α → List α
  | [] => []
  | [x] => [m x x]
  | x :: y :: r => m x y :: pairs m r

theorem pairs_length (m : α → α → α) : ∀ l : List α, (pairs m l).length = (l.length + 1) / 2
  | [] => by simp [pairs]
  | [x] => by simp [pairs]
  | x :: y :: r => by
    have := pairs_length m r
    simp only [pairs, List.length_cons, this]; omega

theorem pairs_getD (m : α → α → α) (z : α) : ∀ (l : List α) (i : Nat), 2 * i < l.length →
    (pairs m l).getD i z = if 2 * i + 1 < l.length then m (l.getD (2 * i) z) (l.getD (2 * i + 1) z) else m (l.getD (2 * i) z) (l.getD (2 * i) z)
  | [], i, h => by simp at h
  | [x], i, h => by
    have : i = 0 := by simp at h; omega
    subst this; simp [pairs]
  | x :: y :: r, 0, _ => by simp [pairs]
  | x :: y :: r, i + 1, h => by
    have ih := pairs_getD m z r i (by simp at h; omega)
    have e1 : (pairs m (x :: y :: r)).getD (i + 1) z = (pairs m r).getD i z := by simp [pairs]
    have e2 : (x :: y :: r).getD (2 * (i + 1)) z = r.getD (2 * i) z := by
      rw [show 2 * (i + 1) = (2 * i + 1) + 1 from by omega]; simp
    have e3 : (x :: y :: r).getD (2 * (i + 1) + 1) z = r.getD (2 * i + 1) z := by
      rw [show 2 * (i + 1) + 1 = (2 * i + 1 + 1) + 1 from by omega]; simp
    rw [e1, ih, e2, e3]
    have e4 : (2 * (i + 1) + 1 < (x :: y :: r).length) ↔ 2 * i + 1 < r.length := by simp; omega
    simp only [e4]

/-- Level by level, 'f' levels at most. -/
def rootF (m : α → α → α) (z : α) : Nat → List α → α
  | 0, l => l.getD 0 z
  | f + 1, l => if l.length ≤ 1 then l.getD 0 z else rootF m z f (pairs m l)

def root (m : α → α → α) (z : α) (l : List α) : α := rootF m z l.length l

/-- The node of height h above the leaf lo, from the top down. -/
def node (m : α → α → α) (z : α) (ids : List α) : Nat → Nat → α
  | 0, lo => ids.getD lo z
  | h + 1, lo => if lo + 2 ^ h < ids.length then m (node m z ids h lo) (node m z ids h (lo + 2 ^ h)) else m (node m z ids h lo) (node m z ids h lo)

theorem node_pairs (m : α → α → α) (z : α) (ids : List α) : ∀ (h lo : Nat), 2 * lo < ids.length → node m z ids (h + 1) (2 * lo) = node m z (pairs m ids) h lo
  | 0, lo, hl => by
    rw [node, node, node, node, pairs_getD m z ids lo hl]
  | h + 1, lo, hl => by
    have ih := node_pairs m z ids h lo hl
    rw [show node m z ids (h + 1 + 1) (2 * lo) = if 2 * lo + 2 ^ (h + 1) < ids.length then m (node m z ids (h + 1) (2 * lo)) (node m z ids (h + 1) (2 * lo + 2 ^ (h + 1))) else m (node m z ids (h + 1) (2 * lo)) (node m z ids (h + 1) (2 * lo)) from rfl, ih,
      show node m z (pairs m ids) (h + 1) lo = if lo + 2 ^ h < (pairs m ids).length then m (node m z (pairs m ids) h lo) (node m z (pairs m ids) h (lo + 2 ^ h)) else m (node m z (pairs m ids) h lo) (node m z (pairs m ids) h lo) from rfl]
    have e : (2 * lo + 2 ^ (h + 1) < ids.length) ↔ lo + 2 ^ h < (pairs m ids).length := by
      rw [pairs_length, Nat.pow_succ]; omega
    simp only [e]
    by_cases hc : lo + 2 ^ h < (pairs m ids).length
    · have h2 : 2 * (lo + 2 ^ h) < ids.length := by have := e.2 hc; rw [Nat.pow_succ] at this; omega
      rw [if_pos hc, if_pos hc, show 2 * lo + 2 ^ (h + 1) = 2 * (lo + 2 ^ h) from by rw [Nat.pow_succ]; omega, node_pairs m z ids h (lo + 2 ^ h) h2]
    · rw [if_neg hc, if_neg hc]

/-- How many halvings till nothing is left. -/
def blen : Nat → Nat → Nat
  | 0, _ => 0
  | f + 1, n => if n = 0 then 0 else blen f (n / 2) + 1

theorem blen_more : ∀ (f g n : Nat), n ≤ f → n ≤ g → blen f n = blen g n
  | 0, 0, _, _, _ => rfl
  | 0, g + 1, n, h, _ => by have : n = 0 := by omega
                            subst this; simp [blen]
  | f + 1, 0, n, _, h => by have : n = 0 := by omega
                            subst this; simp [blen]
  | f + 1, g + 1, n, h1, h2 => by
    by_cases hn : n = 0
    · subst hn; simp [blen]
    · simp only [blen, if_neg hn]; rw [blen_more f g (n / 2) (by omega) (by omega)]

def len2 (n : Nat) : Nat := blen n n

theorem len2_zero : len2 0 = 0 := rfl
theorem len2_pos (n : Nat) (h : 0 < n) : len2 n = len2 (n / 2) + 1 := by
  unfold len2
  cases n with
  | zero => omega
  | succ k =>
    show (if k + 1 = 0 then 0 else blen k ((k + 1) / 2) + 1) = _
    rw [if_neg (by omega), blen_more k ((k + 1) / 2) ((k + 1) / 2) (by omega) (by omega)]

theorem rootF_node (m : α → α → α) (z : α) : ∀ (f : Nat) (l : List α), 0 < l.length → l.length ≤ f + 1 → rootF m z f l = node m z l (len2 (l.length - 1)) 0
  | 0, l, h0, h1 => by
    have : l.length - 1 = 0 := by omega
    rw [this]; rfl
  | f + 1, l, h0, h1 => by
    rw [rootF]
    by_cases hl : l.length ≤ 1
    · rw [if_pos hl]
      have : l.length - 1 = 0 := by omega
      rw [this]; rfl
    · rw [if_neg hl, len2_pos _ (by omega)]
      have hp := pairs_length m l
      rw [rootF_node m z f (pairs m l) (by omega) (by omega)]
      have e : (pairs m l).length - 1 = (l.length - 1) / 2 := by omega
      rw [e]
      exact (node_pairs m z l (len2 ((l.length - 1) / 2)) 0 (by omega)).symm

theorem root_node (m : α → α → α) (z : α) (l : List α) (h : 0 < l.length) : root m z l = node m z l (len2 (l.length - 1)) 0 :=
  rootF_node m z l.length l h (by omega)

/-! ### Where two chains part -/
structure IsDiv (a b : List α) (d : Int) : Prop where
  ok : (d = -1 ∧ a = b) ∨ ∃ k : Nat, d = k ∧ a.take k = b.take k ∧ ((∃ x y, a[k]? = some x ∧ b[k]? = some y ∧ x ≠ y) ∨ (a.length ≠ b.length ∧ k = min a.length b.length))

theorem IsDiv.symm {a b : List α} {d : Int} (h : IsDiv a b d) : IsDiv b a d := by
  rcases h.ok with ⟨h1, h2⟩ | ⟨k, h1, h2, h3⟩
  · exact ⟨.inl ⟨h1, h2.symm⟩⟩
  · refine ⟨.inr ⟨k, h1, h2.symm, ?_⟩⟩
    rcases h3 with ⟨x, y, hx, hy, hn⟩ | ⟨hn, hk⟩
    · exact .inl ⟨y, x, hy, hx, fun e => hn e.symm⟩
    · exact .inr ⟨fun e => hn e.symm, by omega⟩

theorem take_get {a b : List α} {k i : Nat} (h : a.take k = b.take k) (hi : i < k) : a[i]? = b[i]? := by
  have := congrArg (fun l : List α => l[i]?) h
  simpa [List.getElem?_take, hi] using this

theorem IsDiv.le {a b : List α} {d : Int} {k : Nat} (h : IsDiv a b d) (hd : d = k) : k ≤ a.length ∧ k ≤ b.length := by
  rcases h.ok with ⟨h1, h2⟩ | ⟨j, h1, h2, h3⟩
  · omega
  · have : j = k := by omega
    subst this
    rcases h3 with ⟨x, y, hx, hy, hn⟩ | ⟨hn, hk⟩
    · have h1 := (List.getElem?_eq_some_iff.1 hx).1
      have h2 := (List.getElem?_eq_some_iff.1 hy).1
      omega
    · omega

theorem IsDiv.not_lt {a b : List α} {j k : Nat} (hj : (∃ x y, a[j]? = some x ∧ b[j]? = some y ∧ x ≠ y) ∨ (a.length ≠ b.length ∧ j = min a.length b.length))
    (h2 : a.take k = b.take k) (hk : k ≤ min a.length b.length) : ¬ j < k := by
  intro hlt
  rcases hj with ⟨x, y, hx, hy, hn⟩ | ⟨_, hj⟩
  · have := take_get h2 hlt
    rw [hx, hy] at this
    exact hn (Option.some.inj this)
  · omega

theorem IsDiv.min_le {a b : List α} {j : Nat} (hj : (∃ x y, a[j]? = some x ∧ b[j]? = some y ∧ x ≠ y) ∨ (a.length ≠ b.length ∧ j = min a.length b.length)) : j ≤ min a.length b.length := by
  rcases hj with ⟨x, y, hx, hy, hn⟩ | ⟨_, hj⟩
  · have h1 := (List.getElem?_eq_some_iff.1 hx).1
    have h2 := (List.getElem?_eq_some_iff.1 hy).1
    omega
  · omega

theorem IsDiv.ne {a b : List α} {j : Nat} (hj : (∃ x y, a[j]? = some x ∧ b[j]? = some y ∧ x ≠ y) ∨ (a.length ≠ b.length ∧ j = min a.length b.length)) : a ≠ b := by
  rintro rfl
  rcases hj with ⟨x, y, hx, hy, hn⟩ | ⟨h, hj⟩
  · rw [hx] at hy; exact hn (Option.some.inj hy)
  · exact h rfl

theorem IsDiv.uniq {a b : List α} {d e : Int} (h : IsDiv a b d) (k : IsDiv a b e) : d = e := by
  rcases h.ok with ⟨h1, h2⟩ | ⟨j, h1, h2, h3⟩ <;> rcases k.ok with ⟨k1, k2⟩ | ⟨i, k1, k2, k3⟩
  · omega
  · exact absurd h2 (IsDiv.ne k3)
  · exact absurd k2 (IsDiv.ne h3)
  · have l1 := IsDiv.not_lt h3 k2 (IsDiv.min_le k3)
    have l2 := IsDiv.not_lt k3 h2 (IsDiv.min_le h3)
    omega

theorem IsDiv.self (a : List α) : IsDiv a a (-1) := ⟨.inl ⟨rfl, rfl⟩⟩

theorem IsDiv.fork (a : List α) (c : Nat) (h : c < a.length) : IsDiv a (a.take c) c :=
  ⟨.inr ⟨c, rfl, by rw [List.take_take, Nat.min_self], .inr ⟨by rw [List.length_take]; omega, by rw [List.length_take]; omega⟩⟩⟩

theorem IsDiv.above {a b : List α} {d : Int} {c : Nat} (h : IsDiv a b d) (hc : a.take c = b.take c) (h1 : c ≤ a.length) (h2 : c ≤ b.length) (hd : d ≠ -1) : (c : Int) ≤ d := by
  rcases h.ok with ⟨h1, h2⟩ | ⟨j, h1, h2, h3⟩
  · exact absurd h1 hd
  · have := IsDiv.not_lt h3 hc (by omega)
    omega

/-! ### The anchors -/
def chain (m : α → α → α) (z : α) (ids : List α) : List α := (List.range ids.length).map fun i => root m z (ids.take (i + 1))

theorem chain_length (m : α → α → α) (z : α) (ids : List α) : (chain m z ids).length = ids.length := by simp [chain]

theorem chain_take (m : α → α → α) (z : α) (c a b : List α) : (chain m z (c ++ a)).take c.length = (chain m z (c ++ b)).take c.length := by
  apply List.ext_getElem?
  intro i
  rw [List.getElem?_take, List.getElem?_take]
  split
  · rename_i h
    have e1 : (c ++ a).take (i + 1) = c.take (i + 1) := by rw [List.take_append_of_le_length (by omega)]
    have e2 : (c ++ b).take (i + 1) = c.take (i + 1) := by rw [List.take_append_of_le_length (by omega)]
    simp only [chain, List.getElem?_map]
    rw [List.getElem?_range (by simp; omega), List.getElem?_range (by simp; omega)]
    simp only [Option.map_some, e1, e2]
  · rfl

end Go.Proofs.Ygdatg.Plain
