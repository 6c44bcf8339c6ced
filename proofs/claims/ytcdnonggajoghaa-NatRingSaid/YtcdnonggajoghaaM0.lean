/- Numbers in limbs: plain facts. -/
import Derived.Test.YtcdnonggajoghaaV6
namespace Go.Proofs.Ytcdnonggajoghaa
set_option linter.unusedVariables false
set_option linter.unusedSimpArgs false

abbrev BB : Nat := 1000000000

def val : List Nat → Nat
  | [] => 0
  | x :: xs => x + BB * val xs
def okL (l : List Nat) : Prop := ∀ x ∈ l, x < BB
def dg (n : Nat) : List Nat := if h : n = 0 then [] else n % BB :: dg (n / BB)
termination_by n
decreasing_by exact Nat.div_lt_self (by omega) (by decide)
def canon (l : List Nat) : Prop := okL l ∧ ∀ x, l.getLast? = some x → x ≠ 0

theorem dg_zero : dg 0 = [] := by rw [dg]; simp
theorem dg_pos {n : Nat} (h : n ≠ 0) : dg n = n % BB :: dg (n / BB) := by rw [dg]; simp [h]

theorem val_dg (n : Nat) : val (dg n) = n := by
  induction n using Nat.strongRecOn with
  | _ n ih =>
    by_cases h : n = 0
    · subst h; rw [dg_zero]; rfl
    · rw [dg_pos h, val, ih _ (Nat.div_lt_self (by omega) (by decide))]
      exact Nat.mod_add_div n BB

theorem okL_dg (n : Nat) : okL (dg n) := by
  induction n using Nat.strongRecOn with
  | _ n ih =>
    by_cases h : n = 0
    · subst h; rw [dg_zero]; intro x hx; cases hx
    · rw [dg_pos h]
      intro x hx
      rcases List.mem_cons.1 hx with rfl | hx
      · exact Nat.mod_lt _ (by decide)
      · exact ih _ (Nat.div_lt_self (by omega) (by decide)) x hx

theorem dg_eq_nil {n : Nat} : dg n = [] ↔ n = 0 := by
  constructor
  · intro h
    by_cases hn : n = 0
    · exact hn
    · rw [dg_pos hn] at h; cases h
  · rintro rfl; exact dg_zero

theorem dg_last (n : Nat) : ∀ x, (dg n).getLast? = some x → x ≠ 0 := by
  induction n using Nat.strongRecOn with
  | _ n ih =>
    intro x hx
    by_cases h : n = 0
    · subst h; rw [dg_zero] at hx; cases hx
    · rw [dg_pos h] at hx
      by_cases h2 : n / BB = 0
      · rw [h2, dg_zero] at hx
        simp at hx
        have h3 : n < BB := (Nat.div_eq_zero_iff_lt (by decide)).1 h2
        have := Nat.mod_eq_of_lt h3
        omega
      · have hne : dg (n / BB) ≠ [] := fun e => h2 (dg_eq_nil.1 e)
        rw [List.getLast?_cons_of_ne_nil hne] at hx
        exact ih _ (Nat.div_lt_self (by omega) (by decide)) x hx

theorem canon_dg (n : Nat) : canon (dg n) := ⟨okL_dg n, dg_last n⟩

theorem okL_cons {x : Nat} {l : List Nat} : okL (x :: l) ↔ x < BB ∧ okL l := by simp [okL]
theorem okL_append {l m : List Nat} : okL (l ++ m) ↔ okL l ∧ okL m := by
  constructor
  · intro h; exact ⟨fun x hx => h x (List.mem_append_left _ hx), fun x hx => h x (List.mem_append_right _ hx)⟩
  · rintro ⟨h1, h2⟩ x hx
    rcases List.mem_append.1 hx with h | h
    · exact h1 x h
    · exact h2 x h
theorem okL.take {l : List Nat} (h : okL l) (n : Nat) : okL (l.take n) := fun x hx => h x (List.mem_of_mem_take hx)
theorem okL.drop {l : List Nat} (h : okL l) (n : Nat) : okL (l.drop n) := fun x hx => h x (List.mem_of_mem_drop hx)

theorem val_append (l m : List Nat) : val (l ++ m) = val l + BB ^ l.length * val m := by
  induction l with
  | nil => simp [val]
  | cons x l ih =>
    simp only [List.cons_append, val, ih, List.length_cons, Nat.pow_succ]
    rw [Nat.mul_add, ← Nat.add_assoc, Nat.mul_comm (BB ^ l.length) BB, Nat.mul_assoc]

theorem val_lt {l : List Nat} (h : okL l) : val l < BB ^ l.length := by
  induction l with
  | nil => simp [val]
  | cons x l ih =>
    rw [okL_cons] at h
    have := ih h.2
    simp only [val, List.length_cons, Nat.pow_succ]
    have h3 : BB * (val l + 1) ≤ BB * BB ^ l.length := Nat.mul_le_mul_left _ this
    have h4 : x < BB := h.1
    rw [Nat.mul_comm (BB ^ l.length) BB]
    rw [Nat.mul_add] at h3
    omega

theorem dg_val {l : List Nat} (h : canon l) : dg (val l) = l := by
  induction l with
  | nil => exact dg_zero
  | cons x l ih =>
    have h1 := okL_cons.1 h.1
    have hc : canon l := by
      refine ⟨h1.2, fun y hy => ?_⟩
      have hne : l ≠ [] := by rintro rfl; cases hy
      exact h.2 y (by rw [List.getLast?_cons_of_ne_nil hne]; exact hy)
    have hx : x < BB := h1.1
    have hpos : x + BB * val l ≠ 0 := by
      intro h0
      have hx0 : x = 0 := by omega
      have hv0 : val l = 0 := by have h : BB * val l = 0 := by omega
                                 exact (Nat.mul_eq_zero.1 h).resolve_left (by decide)
      have : l = [] := by rw [← ih hc, hv0, dg_zero]
      subst this
      exact h.2 x rfl hx0
    rw [val, dg_pos hpos]
    have e1 : (x + BB * val l) % BB = x := by rw [Nat.add_mul_mod_self_left]; exact Nat.mod_eq_of_lt hx
    have e2 : (x + BB * val l) / BB = val l := by rw [Nat.add_mul_div_left _ _ (by decide), Nat.div_eq_of_lt hx, Nat.zero_add]
    rw [e1, e2, ih hc]

theorem val_zeros (n : Nat) : val (List.replicate n 0) = 0 := by
  induction n with
  | zero => rfl
  | succ n ih => rw [List.replicate_succ, val, ih]; rfl

theorem okL_zeros (n : Nat) : okL (List.replicate n 0) := by
  intro x hx
  have := (List.mem_replicate.1 hx).2
  subst this
  decide

/-- A list of limbs is the number's limbs, and zeros. -/
theorem dg_append_zeros {l : List Nat} (h : okL l) : ∃ k, l = dg (val l) ++ List.replicate k 0 := by
  induction l with
  | nil => exact ⟨0, by simp [val, dg_zero]⟩
  | cons x l ih =>
    have h1 := okL_cons.1 h
    obtain ⟨k, hk⟩ := ih h1.2
    have hx : x < BB := h1.1
    by_cases h0 : x + BB * val l = 0
    · have hx0 : x = 0 := by omega
      have hv0 : val l = 0 := by have h : BB * val l = 0 := by omega
                                 exact (Nat.mul_eq_zero.1 h).resolve_left (by decide)
      rw [hv0, dg_zero] at hk
      refine ⟨k + 1, ?_⟩
      rw [val, h0, dg_zero, hx0, hk, List.replicate_succ]
      simp
    · refine ⟨k, ?_⟩
      have e1 : (x + BB * val l) % BB = x := by rw [Nat.add_mul_mod_self_left]; exact Nat.mod_eq_of_lt hx
      have e2 : (x + BB * val l) / BB = val l := by rw [Nat.add_mul_div_left _ _ (by decide), Nat.div_eq_of_lt hx, Nat.zero_add]
      rw [val, dg_pos h0, e1, e2, List.cons_append, ← hk]

theorem dg_length_le {l : List Nat} (h : okL l) : (dg (val l)).length ≤ l.length := by
  obtain ⟨k, hk⟩ := dg_append_zeros h
  have := congrArg List.length hk
  simp at this
  omega

theorem length_dg_lt {n k : Nat} (h : n < BB ^ k) : (dg n).length ≤ k := by
  induction k generalizing n with
  | zero => simp at h; subst h; simp [dg_zero]
  | succ k ih =>
    by_cases h0 : n = 0
    · subst h0; simp [dg_zero]
    · rw [dg_pos h0, List.length_cons]
      have : n / BB < BB ^ k := by
        apply Nat.div_lt_of_lt_mul
        rw [Nat.pow_succ, Nat.mul_comm] at h
        exact h
      have := ih this
      omega

theorem lt_of_length_dg (n : Nat) : n < BB ^ (dg n).length := by
  have := val_lt (okL_dg n)
  rwa [val_dg] at this

theorem pow_le_of_dg {n : Nat} (h : n ≠ 0) : BB ^ ((dg n).length - 1) ≤ n := by
  induction n using Nat.strongRecOn with
  | _ n ih =>
    rw [dg_pos h, List.length_cons, Nat.add_sub_cancel]
    by_cases h2 : n / BB = 0
    · rw [h2, dg_zero, List.length_nil, Nat.pow_zero]; omega
    · have := ih _ (Nat.div_lt_self (by omega) (by decide)) h2
      have hl : (dg (n / BB)).length = (dg (n / BB)).length - 1 + 1 := by
        have : (dg (n / BB)).length ≠ 0 := fun e => h2 (dg_eq_nil.1 (List.length_eq_zero_iff.1 e))
        omega
      rw [hl, Nat.pow_succ]
      exact Nat.le_trans (Nat.mul_le_mul_right BB this) (Nat.div_mul_le_self n BB)

theorem dg_length_mono {a b : Nat} (h : a ≤ b) : (dg a).length ≤ (dg b).length :=
  length_dg_lt (Nat.lt_of_le_of_lt h (lt_of_length_dg b))

/-- Limb i. -/
theorem getD_val {l : List Nat} (h : okL l) (i : Nat) : l.getD i 0 = val l / BB ^ i % BB := by
  induction l generalizing i with
  | nil => simp [val]
  | cons x l ih =>
    have h1 := okL_cons.1 h
    have hx : x < BB := h1.1
    cases i with
    | zero => simp [val, Nat.add_mul_mod_self_left, Nat.mod_eq_of_lt hx]
    | succ i =>
      have := ih h1.2 i
      simp only [List.getD_cons_succ, this, val]
      rw [Nat.pow_succ, Nat.mul_comm (BB ^ i) BB, ← Nat.div_div_eq_div_mul, Nat.add_mul_div_left _ _ (by decide), Nat.div_eq_of_lt hx, Nat.zero_add]

theorem dg_getD (n i : Nat) : (dg n).getD i 0 = n / BB ^ i % BB := by
  rw [getD_val (okL_dg n), val_dg]

theorem val_take_succ {l : List Nat} {i : Nat} (h : i < l.length) : val (l.take (i + 1)) = val (l.take i) + BB ^ i * l.getD i 0 := by
  rw [List.take_add_one, val_append, List.length_take, Nat.min_eq_left (by omega)]
  simp [List.getD_eq_getElem?_getD, h, val]

theorem val_take {l : List Nat} (h : okL l) (i : Nat) : val (l.take i) = val l % BB ^ i := by
  rcases Nat.lt_or_ge l.length i with hl | hl
  · rw [List.take_of_length_le (by omega)]
    exact (Nat.mod_eq_of_lt (Nat.lt_of_lt_of_le (val_lt h) (Nat.pow_le_pow_right (by decide) (by omega)))).symm
  · have e := congrArg val (List.take_append_drop i l)
    rw [val_append, List.length_take, Nat.min_eq_left hl] at e
    rw [← e, Nat.add_mul_mod_self_left]
    have := val_lt (h.take i)
    rw [List.length_take, Nat.min_eq_left hl] at this
    exact (Nat.mod_eq_of_lt this).symm

theorem val_drop {l : List Nat} (h : okL l) (i : Nat) : val (l.drop i) = val l / BB ^ i := by
  rcases Nat.lt_or_ge l.length i with hl | hl
  · rw [List.drop_eq_nil_of_le (by omega)]
    exact (Nat.div_eq_of_lt (Nat.lt_of_lt_of_le (val_lt h) (Nat.pow_le_pow_right (by decide) (by omega)))).symm
  · have e := congrArg val (List.take_append_drop i l)
    rw [val_append, List.length_take, Nat.min_eq_left hl] at e
    rw [← e, Nat.add_mul_div_left _ _ (Nat.pow_pos (by decide))]
    have := val_lt (h.take i)
    rw [List.length_take, Nat.min_eq_left hl] at this
    rw [Nat.div_eq_of_lt this, Nat.zero_add]

theorem val_split {l : List Nat} {i : Nat} (h : i < l.length) : val l = val (l.take i) + BB ^ i * (l.getD i 0 + BB * val (l.drop (i + 1))) := by
  have e := congrArg val (List.take_append_drop i l)
  rw [val_append, List.length_take, Nat.min_eq_left (by omega), List.drop_eq_getElem_cons h] at e
  rw [← e, val]
  simp [List.getD_eq_getElem?_getD, h]

theorem val_lt_of {a b : List Nat} {i : Nat} (ha : okL a) (hb : okL b) (hia : i < a.length) (hib : i < b.length) (hd : a.drop (i + 1) = b.drop (i + 1)) (hlt : a.getD i 0 < b.getD i 0) : val a < val b := by
  rw [val_split hia, val_split hib, hd]
  have h1 := val_lt (ha.take i)
  rw [List.length_take, Nat.min_eq_left (by omega)] at h1
  have h2 : BB ^ i * (a.getD i 0 + BB * val (b.drop (i + 1)) + 1) ≤ BB ^ i * (b.getD i 0 + BB * val (b.drop (i + 1))) := Nat.mul_le_mul_left _ (by omega)
  rw [Nat.mul_add, Nat.mul_one] at h2
  omega

theorem canon.ge {b : List Nat} (hb : canon b) (h : b ≠ []) : BB ^ (b.length - 1) ≤ val b := by
  have e := dg_val hb
  have hne : val b ≠ 0 := fun h0 => h (by rw [← e, h0, dg_zero])
  have := pow_le_of_dg hne
  rwa [e] at this

theorem canon_lt {a b : List Nat} (ha : okL a) (hb : canon b) (h : a.length < b.length) : val a < val b := by
  have h1 := val_lt ha
  have h2 := hb.ge (by rintro rfl; simp at h)
  have h3 : BB ^ a.length ≤ BB ^ (b.length - 1) := Nat.pow_le_pow_right (by decide) (by omega)
  omega

theorem val_inj {a b : List Nat} (ha : canon a) (hb : canon b) (h : val a = val b) : a = b := by rw [← dg_val ha, ← dg_val hb, h]

def cmpN (a b : Nat) : Int := if a < b then -1 else if a = b then 0 else 1
theorem cmpN_lt {a b : Nat} (h : a < b) : cmpN a b = -1 := by simp [cmpN, h]
theorem cmpN_eq {a b : Nat} (h : a = b) : cmpN a b = 0 := by simp [cmpN, h]
theorem cmpN_gt {a b : Nat} (h : b < a) : cmpN a b = 1 := by simp [cmpN, Nat.not_lt.2 (Nat.le_of_lt h), Nat.ne_of_gt h]

end Go.Proofs.Ytcdnonggajoghaa
