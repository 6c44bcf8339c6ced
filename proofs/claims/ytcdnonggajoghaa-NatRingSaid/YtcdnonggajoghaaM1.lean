/- Long division: plain facts. -/
import Derived.Test.YtcdnonggajoghaaC5
namespace Go.Proofs.Ytcdnonggajoghaa
set_option linter.unusedVariables false
set_option linter.unusedSimpArgs false

theorem kn_first {B P v1 v2 v3 top u0 u3 U v : Nat} (hv : v = (v1 * B + v2) * P + v3) (hU : U = (top * B + u0) * P + u3) (h1 : 0 < v1) (hB : 0 < B) (hP : 0 < P) (hu0 : u0 < B) (hu3 : u3 < P) :
    U / v ≤ top / v1 := by
  have hv0 : 0 < v := by
    rw [hv]
    have := Nat.mul_pos (Nat.mul_pos h1 hB) hP
    rw [Nat.add_mul]
    omega
  rw [Nat.le_div_iff_mul_le h1]
  have hq := Nat.div_mul_le_self U v
  generalize U / v = q at *
  apply Nat.le_of_lt_succ
  have h2 : (q * v1) * (B * P) < (top + 1) * (B * P) := by
    have h3 : (u0 + 1) * P ≤ B * P := Nat.mul_le_mul_right _ hu0
    rw [hv, hU] at hq
    simp only [Nat.add_mul, Nat.mul_add, Nat.one_mul, Nat.mul_assoc] at *
    omega
  exact Nat.lt_of_mul_lt_mul_right h2

theorem kn_step {B P v1 v2 v3 top u0 u3 U v guess rest : Nat} (hv : v = (v1 * B + v2) * P + v3) (hU : U = (top * B + u0) * P + u3) (hP : 0 < P) (hu3 : u3 < P) (hg : guess * v1 + rest = top)
    (h : rest * B + u0 < guess * v2) : U < guess * v := by
  have h1 : (rest * B + u0 + 1) * P ≤ guess * v2 * P := Nat.mul_le_mul_right _ h
  rw [hv, hU, ← hg]
  simp only [Nat.add_mul, Nat.mul_add, Nat.one_mul, Nat.mul_assoc] at *
  omega

theorem kn_last {B P v1 v2 v3 top u0 u3 U v guess rest : Nat} (hv : v = (v1 * B + v2) * P + v3) (hU : U = (top * B + u0) * P + u3) (h1 : 0 < v1) (hB : 0 < B) (hP : 0 < P) (hv3 : v3 < P) (hg : guess * v1 + rest = top)
    (h : guess * v2 ≤ rest * B + u0) (hb : guess < B) : guess ≤ U / v + 1 := by
  have hv0 : 0 < v := by
    rw [hv]
    have := Nat.mul_pos (Nat.mul_pos h1 hB) hP
    rw [Nat.add_mul]
    omega
  rw [← Nat.sub_le_iff_le_add, Nat.le_div_iff_mul_le hv0]
  rcases Nat.eq_zero_or_pos guess with h0 | h0
  · subst h0; simp
  obtain ⟨g, rfl⟩ : ∃ g, guess = g + 1 := ⟨guess - 1, by omega⟩
  rw [Nat.add_sub_cancel]
  have h2 : (g + 1) * v2 * P ≤ (rest * B + u0) * P := Nat.mul_le_mul_right _ h
  have h3 : (g + 1) * v3 ≤ (g + 1) * P := Nat.mul_le_mul_left _ (Nat.le_of_lt hv3)
  have h4 : (g + 1) * P ≤ B * P := Nat.mul_le_mul_right _ (Nat.le_of_lt hb)
  have h5 : 1 * (B * P) ≤ v1 * (B * P) := Nat.mul_le_mul_right _ h1
  rw [hv, hU, ← hg]
  simp only [Nat.add_mul, Nat.mul_add, Nat.one_mul, Nat.mul_assoc] at *
  omega

theorem kn_top {B P v1 v2 v3 top u0 u3 U v : Nat} (hv : v = (v1 * B + v2) * P + v3) (hU : U = (top * B + u0) * P + u3) (hP : 0 < P) (hB : 0 < B) (hv2 : v2 < B) (hv3 : v3 < P) (h : U < v * B) : top < (v1 + 1) * B := by
  have h1 : (v2 + 1) * P ≤ B * P := Nat.mul_le_mul_right _ hv2
  have h2 : v ≤ (v1 + 1) * B * P := by
    rw [hv]
    simp only [Nat.add_mul, Nat.mul_add, Nat.one_mul, Nat.mul_assoc] at *
    omega
  have h3 : v * B ≤ (v1 + 1) * B * P * B := Nat.mul_le_mul_right _ h2
  have h4 : top * (B * P) < (v1 + 1) * B * (B * P) := by
    have e1 : (v1 + 1) * B * P * B = (v1 + 1) * B * (B * P) := by rw [Nat.mul_assoc, Nat.mul_comm P B]
    rw [← e1]
    rw [hU] at h
    simp only [Nat.add_mul, Nat.mul_add, Nat.one_mul, Nat.mul_assoc] at *
    omega
  exact Nat.lt_of_mul_lt_mul_right h4

/-- The rest of the guess is long: the guess is a limb. -/
theorem kn_brk {B v1 top guess rest : Nat} (hg : guess * v1 + rest = top) (ht : top < (v1 + 1) * B) (hr : B ≤ rest) (h1 : 0 < v1) : guess < B := by
  have h2 : guess * v1 < B * v1 := by
    rw [Nat.add_mul, Nat.one_mul, Nat.mul_comm v1 B] at ht
    omega
  exact Nat.lt_of_mul_lt_mul_right h2

theorem two_split {l : List Nat} {n : Nat} (h : l.length = n) (hn : 2 ≤ n) : val l = (l.getD (n - 1) 0 * BB + l.getD (n - 2) 0) * BB ^ (n - 2) + val (l.take (n - 2)) := by
  obtain ⟨k, rfl⟩ : ∃ k, n = k + 2 := ⟨n - 2, by omega⟩
  have h1 := val_take_succ (l := l) (i := k + 1) (by omega)
  have h2 := val_take_succ (l := l) (i := k) (by omega)
  rw [List.take_of_length_le (by omega), h2] at h1
  rw [h1, show k + 2 - 1 = k + 1 by omega, show k + 2 - 2 = k by omega]
  generalize l.getD (k + 1) 0 = x
  generalize l.getD k 0 = y
  rw [Nat.pow_succ, Nat.add_mul, Nat.mul_comm (x * BB), Nat.mul_comm x BB, Nat.mul_comm y, Nat.mul_assoc]
  omega

theorem three_split {l : List Nat} {n : Nat} (h : l.length = n + 1) (hn : 2 ≤ n) :
    val l = ((l.getD n 0 * BB + l.getD (n - 1) 0) * BB + l.getD (n - 2) 0) * BB ^ (n - 2) + val (l.take (n - 2)) := by
  have h1 := val_take_succ (l := l) (i := n) (by omega)
  rw [List.take_of_length_le (by omega)] at h1
  have h2 := two_split (l := l.take n) (n := n) (by rw [List.length_take]; omega) hn
  have e1 : (l.take n).getD (n - 1) 0 = l.getD (n - 1) 0 := by simp [List.getD_eq_getElem?_getD, List.getElem?_take, show n - 1 < n by omega]
  have e2 : (l.take n).getD (n - 2) 0 = l.getD (n - 2) 0 := by simp [List.getD_eq_getElem?_getD, List.getElem?_take, show n - 2 < n by omega]
  rw [e1, e2, List.take_take, Nat.min_eq_left (by omega)] at h2
  rw [h1, h2]
  generalize l.getD n 0 = x
  generalize l.getD (n - 1) 0 = y
  generalize l.getD (n - 2) 0 = z
  obtain ⟨k, rfl⟩ : ∃ k, n = k + 2 := ⟨n - 2, by omega⟩
  rw [show k + 2 - 2 = k by omega]
  have e3 : BB ^ (k + 2) * x = x * BB * BB * BB ^ k := by
    rw [Nat.pow_succ, Nat.pow_succ, Nat.mul_comm _ x, Nat.mul_comm (BB ^ k), Nat.mul_assoc, Nat.mul_assoc, Nat.mul_assoc, Nat.mul_comm (BB ^ k) BB]
  rw [e3]
  simp only [Nat.add_mul]
  omega

theorem dg_mul_le (a b : Nat) : (dg (a * b)).length ≤ (dg a).length + (dg b).length := by
  refine length_dg_lt ?_
  rw [Nat.pow_add]
  exact Nat.mul_lt_mul'' (lt_of_length_dg a) (lt_of_length_dg b)

theorem val_take_any (l : List Nat) (i : Nat) : val (l.take (i + 1)) = val (l.take i) + BB ^ i * l.getD i 0 := by
  rcases Nat.lt_or_ge i l.length with hlt | hge
  · exact val_take_succ hlt
  · rw [List.take_of_length_le hge, List.take_of_length_le (by omega)]
    simp [List.getD_eq_getElem?_getD, hge]

theorem list_take_eq {u u' : List Nat} {i : Nat} (hl : u'.length = u.length) (h : ∀ k, k < i → u'.getD k 0 = u.getD k 0) : u'.take i = u.take i := by
  apply List.ext_getElem (by simp [hl])
  intro k h1 h2
  have h3 := h k (by simp at h1; omega)
  simp at h1 h2
  simpa [List.getD_eq_getElem?_getD, h1, h2, show k < u.length by omega, show k < u'.length by omega] using h3
theorem list_drop_eq {u u' : List Nat} {i : Nat} (hl : u'.length = u.length) (h : ∀ k, i ≤ k → u'.getD k 0 = u.getD k 0) : u'.drop i = u.drop i := by
  apply List.ext_getElem (by simp [hl])
  intro k h1 h2
  have h3 := h (i + k) (by omega)
  simp at h1 h2
  simpa [List.getD_eq_getElem?_getD, show i + k < u.length by omega, show i + k < u'.length by omega] using h3

theorem val_seg {u : List Nat} {i m : Nat} (h : i + m ≤ u.length) : val (u.drop i) = seg u i m + BB ^ m * val (u.drop (i + m)) := by
  have e := congrArg val (List.take_append_drop m (u.drop i))
  rw [val_append, List.length_take, List.length_drop, Nat.min_eq_left (by omega), List.drop_drop] at e
  exact e.symm
theorem val_at {u : List Nat} {i : Nat} (h : i ≤ u.length) : val u = val (u.take i) + BB ^ i * val (u.drop i) := by
  have e := congrArg val (List.take_append_drop i u)
  rw [val_append, List.length_take, Nat.min_eq_left h] at e
  exact e.symm

theorem seg_swap {u u' : List Nat} {i m : Nat} (hl : u'.length = u.length) (him : i + m ≤ u.length) (hs : ∀ k, k < i ∨ i + m ≤ k → u'.getD k 0 = u.getD k 0) :
    val u' + BB ^ i * seg u i m = val u + BB ^ i * seg u' i m ∧ val (u'.drop i) + seg u i m = val (u.drop i) + seg u' i m := by
  have h1 := list_take_eq hl (i := i) fun k hk => hs k (.inl hk)
  have h2 := list_drop_eq hl (i := i + m) fun k hk => hs k (.inr hk)
  have h3 : val (u'.drop i) + seg u i m = val (u.drop i) + seg u' i m := by
    rw [val_seg him, val_seg (show i + m ≤ u'.length by omega), h2]; omega
  refine ⟨?_, h3⟩
  rw [val_at (show i ≤ u.length by omega), val_at (show i ≤ u'.length by omega), h1, Nat.add_assoc, ← Nat.mul_add, h3, Nat.mul_add]
  omega

theorem split_unique {P s c R B : Nat} (h : s + P * c = R + P * B) (hs : s < P) (hR : R < P) : s = R ∧ c = B := by
  have e1 := congrArg (· / P) h
  have hP : 0 < P := by omega
  simp only [Nat.add_mul_div_left _ _ hP, Nat.div_eq_of_lt hs, Nat.div_eq_of_lt hR, Nat.zero_add] at e1
  subst e1
  exact ⟨by omega, rfl⟩

/-- A round of the division: the digit is right. -/
theorem kn_done {u u' q : List Nat} {i n U V A g : Nat} (hl : u'.length = u.length) (him : i + (n + 1) ≤ u.length) (hs : ∀ k, k < i ∨ i + (n + 1) ≤ k → u'.getD k 0 = u.getD k 0) (hV : 0 < V)
    (hU : seg u i (n + 1) = U) (hud : val (u.drop i) = U) (hU' : seg u' i (n + 1) = U % V) (hg : g = U / V) (hqi : q.getD i 0 = 0) (hi : i < q.length) (hA : val u + V * val q = A) :
    val (u'.drop i) < V ∧ val u' + V * val (q.set i g) = A := by
  obtain ⟨h1, h2⟩ := seg_swap hl him hs
  rw [hU, hU'] at h1 h2
  have h3 := Nat.mod_lt U hV
  refine ⟨by omega, ?_⟩
  have h4 := val_set (l := q) (j := i) hi g
  rw [hqi, Nat.mul_zero, Nat.add_zero] at h4
  rw [h4, hg, Nat.mul_add]
  have h5 : BB ^ i * U = BB ^ i * (U % V) + V * (BB ^ i * (U / V)) := by
    conv => lhs; rw [← Nat.mod_add_div U V]
    rw [Nat.mul_add, Nat.mul_left_comm]
  omega

end Go.Proofs.Ytcdnonggajoghaa
