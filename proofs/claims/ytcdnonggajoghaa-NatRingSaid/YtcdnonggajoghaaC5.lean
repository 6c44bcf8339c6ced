/- Contracts: a multiple taken off. -/
import Derived.Test.YtcdnonggajoghaaC4
namespace Go.Proofs.Ytcdnonggajoghaa
open Go Go.RowKit
set_option linter.unusedVariables false
set_option linter.unusedSimpArgs false
set_option maxRecDepth 100000

def seg (l : List Nat) (j i : Nat) : Nat := val ((l.drop j).take i)
theorem seg_zero (l : List Nat) (j : Nat) : seg l j 0 = 0 := by simp [seg, val]
theorem seg_succ {l : List Nat} {j i : Nat} (h : j + i < l.length) : seg l j (i + 1) = seg l j i + BB ^ i * l.getD (j + i) 0 := by
  unfold seg
  rw [val_take_succ (by simp; omega)]
  simp [List.getD_eq_getElem?_getD, List.getElem?_drop]
theorem seg_set {l : List Nat} {j i k c : Nat} (h : i ≤ k) : seg (l.set (j + k) c) j i = seg l j i := by
  unfold seg
  rw [List.drop_set, if_neg (by omega), List.take_set_of_le (by omega)]
theorem getD_set_eq {l : List Nat} {k c : Nat} (h : k < l.length) : (l.set k c).getD k 0 = c := by
  simp [List.getD_eq_getElem?_getD, h]
theorem getD_set_ne' {l : List Nat} {k j c : Nat} (h : k ≠ j) : (l.set k c).getD j 0 = l.getD j 0 := by
  simp [List.getD_eq_getElem?_getD, List.getElem?_set_ne h]

theorem borrowed_own {R : Heap} {ver e : Nat} {l v : List Nat} {j m by_ : Nat} (hok : okL l) (hv : okL v) (hby : by_ < BB) (hjm : j + m ≤ l.length) (hl : l.length < 100000000) (hvm : v.length ≤ m) (hlt : val v * by_ < BB ^ m) :
    VCall EE 58 [.osl 0 ver j m 1, natL v, .int .u64 by_] (.cells ver e (limbs l) :: R) fun r H' => ∃ l' b, l'.length = l.length ∧ okL l' ∧ (∀ k, k < j ∨ j + m ≤ k → l'.getD k 0 = l.getD k 0) ∧
      H' = .cells ver e (limbs l') :: R ∧ r = .bool b ∧ seg l' j m + val v * by_ = seg l j m + (if b then BB ^ m else 0) := by
  refine VCall.of_body true Try.func58 rfl (by decide) rfl ?_
  repeat' ((conv => whnf); first | refine ngo ?_ | refine VB.tt ?_ | refine VB.ff ?_ | refine VNew.keep ?_ | refine dgo ?_ | refine sgo ?_ | fail)
  conv => whnf
  refine VLoop.ix true (fun x : Nat × List Nat × Nat × Nat => ⟨[(0, .osl 0 ver j m 1), (1, natL v), (2, .int .u64 by_), (7, .int .u64 x.2.2.1), (8, .int .u64 x.2.2.2), (12, .osl 0 ver j m 1), (13, .int .i64 m), (14, .int .i64 x.1)], .cells ver e (limbs x.2.1) :: R, []⟩)
    (fun x => x.1 ≤ m ∧ x.2.1.length = l.length ∧ okL x.2.1 ∧ (∀ k, k < j ∨ j + x.1 ≤ k → x.2.1.getD k 0 = l.getD k 0) ∧ x.2.2.1 < BB ∧ x.2.2.2 ≤ 1 ∧
      BB ^ x.1 * x.2.2.1 ≤ val (v.take x.1) * by_ ∧ seg x.2.1 j x.1 + val (v.take x.1) * by_ = seg l j x.1 + BB ^ x.1 * x.2.2.2 + BB ^ x.1 * x.2.2.1) (fun x => m - x.1) (0, l, 0, 0)
    ⟨Nat.zero_le _, rfl, hok, fun _ _ => rfl, Nat.zero_lt_succ _, Nat.zero_le _, by simp, by simp [seg_zero, val]⟩ ⟨⟨rfl, rfl, rfl, rfl, rfl, rfl, rfl, rfl, trivial⟩, rfl, rfl⟩ ?_
  rintro ⟨i, l1, c, b⟩ ⟨hi, hll, hok1, hsame, hc, hb, hcv, heq⟩
  dsimp only at hi hll hok1 hsame hc hb hcv heq ⊢
  repeat' ((conv => whnf); first | refine ngo ?_ | refine VB.tt ?_ | refine VB.ff ?_ | refine VNew.keep ?_ | refine dgo ?_ | refine sgo ?_ | fail)
  conv => whnf
  refine VB.dec (fun h => ?_) (fun h => ?_)
  · have hBB : BB = 1000000000 := rfl
    have hx := getD_lt hv i
    have hu0 := getD_lt hok1 (j + i)
    have g3 : getInt (List.drop (j + (i : Int).toNat * 1) (limbs l1)) = ((l1.getD (j + i) 0 : Nat) : Int) := by rw [Int.toNat_natCast, Nat.mul_one, getInt_limbs]
    have g4 : getInt (List.drop ((i : Int).toNat * 1) (limbs v)) = ((v.getD i 0 : Nat) : Int) := by rw [Int.toNat_natCast, Nat.mul_one, getInt_limbs]
    have htk : val (v.take (i + 1)) = val (v.take i) + BB ^ i * v.getD i 0 := by
      rcases Nat.lt_or_ge i v.length with hlt | hge
      · exact val_take_succ hlt
      · rw [List.take_of_length_le hge, List.take_of_length_le (by omega)]
        simp [List.getD_eq_getElem?_getD, hge]
    obtain ⟨p, hp⟩ : ∃ p, p = c + v.getD i 0 * by_ := ⟨_, rfl⟩
    have hpl : p < BB * BB := by
      have := mul_lt_BB hx hby hc (d := 0) (by decide)
      omega
    have hBB2 : BB * BB = 1000000000000000000 := rfl
    generalize hxx : v.getD i 0 = x at *
    generalize hu : l1.getD (j + i) 0 = u at *
    repeat' ((conv => whnf); first | refine ngo ?_ | refine VB.tt ?_ | refine VB.ff ?_ | refine VNew.keep ?_ | refine dgo ?_ | refine sgo ?_ | fail)
    conv => whnf
    refine VB.dec (fun hiv => ?_) (fun hiv => ?_)
    · have g0 : (c : Int) + (x : Int) * (by_ : Int) = (p : Int) := by rw [hp]; simp
      repeat' ((conv => whnf); first | refine ngo ?_ | refine VB.tt ?_ | refine VB.ff ?_ | refine VNew.keep ?_ | refine dgo ?_ | refine sgo ?_ | fail)
      conv => whnf
      rw [g4]
      repeat' ((conv => whnf); first | refine ngo ?_ | refine VB.tt ?_ | refine VB.ff ?_ | refine VNew.keep ?_ | refine dgo ?_ | refine sgo ?_ | fail)
      conv => whnf
      rw [g0]
      have hmd := Nat.mod_add_div p BB
      have hpm := Nat.mod_lt p (show 0 < BB by decide)
      have hpq : p / BB < BB := Nat.div_lt_of_lt_mul hpl
      have g5 := tdiv_BB p
      have g6 := tmod_BB p
      generalize p / BB = pq at *
      generalize p % BB = pm at *
      obtain ⟨n, hn⟩ : ∃ n, n = u + BB - pm - b := ⟨_, rfl⟩
      have g7 : (u : Int) + 1000000000 - (pm : Int) - (b : Int) = (n : Int) := by omega
      have hnd := Nat.mod_add_div n BB
      have hnm := Nat.mod_lt n (show 0 < BB by decide)
      have hnq : n / BB ≤ 1 := Nat.le_of_lt_succ (Nat.div_lt_of_lt_mul (by omega))
      have g8 := tdiv_BB n
      have g9 := tmod_BB n
      generalize n / BB = nq at *
      generalize n % BB = nr at *
      repeat' ((conv => whnf); first | refine ngo ?_ | refine VB.tt ?_ | refine VB.ff ?_ | refine VNew.keep ?_ | refine dgo ?_ | refine sgo ?_ | fail)
      conv => whnf
      rw [g5]
      repeat' ((conv => whnf); first | refine ngo ?_ | refine VB.tt ?_ | refine VB.ff ?_ | refine VNew.keep ?_ | refine dgo ?_ | refine sgo ?_ | fail)
      conv => whnf
      rw [g3]
      repeat' ((conv => whnf); first | refine ngo ?_ | refine VB.tt ?_ | refine VB.ff ?_ | refine VNew.keep ?_ | refine dgo ?_ | refine sgo ?_ | fail)
      conv => whnf
      rw [g6, g7]
      repeat' ((conv => whnf); first | refine ngo ?_ | refine VB.tt ?_ | refine VB.ff ?_ | refine VNew.keep ?_ | refine dgo ?_ | refine sgo ?_ | fail)
      conv => whnf
      rw [g8]
      repeat' ((conv => whnf); first | refine ngo ?_ | refine VB.tt ?_ | refine VB.ff ?_ | refine VNew.keep ?_ | refine dgo ?_ | refine sgo ?_ | fail)
      conv => whnf
      rw [g9]
      repeat' ((conv => whnf); first | refine ngo ?_ | refine VB.tt ?_ | refine VB.ff ?_ | refine VNew.keep ?_ | refine dgo ?_ | refine sgo ?_ | fail)
      conv => whnf
      refine to_forceH ?_
      repeat' ((conv => whnf); first | refine ngo ?_ | refine VB.tt ?_ | refine VB.ff ?_ | refine VNew.keep ?_ | refine dgo ?_ | refine sgo ?_ | fail)
      conv => whnf
      refine ⟨(i + 1, l1.set (j + i) nr, pq, 1 - nq), ⟨by dsimp only; omega, by simpa using hll, okL_set hok1 _ hnm, ?_, hpq, by dsimp only; omega, ?_, ?_⟩, by dsimp only; omega, ⟨⟨rfl, rfl, rfl, ?_, ?_, rfl, rfl, ?_, trivial⟩, ?_, rfl⟩⟩
      · intro k hk
        dsimp only at hk ⊢
        rw [getD_set_ne' (by omega)]
        exact hsame k (by omega)
      · dsimp only
        rw [htk, Nat.add_mul, Nat.pow_succ, Nat.mul_assoc]
        have : BB ^ i * (BB * pq) ≤ BB ^ i * p := Nat.mul_le_mul_left _ (by omega)
        rw [hp, Nat.mul_add] at this
        rw [Nat.mul_assoc]
        omega
      · dsimp only
        rw [seg_succ (by simp; omega), seg_set (Nat.le_refl _), getD_set_eq (by omega), seg_succ (by omega), htk, Nat.add_mul, ← hsame (j + i) (by omega), hu]
        have e1 : BB ^ (i + 1) * (1 - nq) + BB ^ (i + 1) * pq = BB ^ i * (BB * (1 - nq) + BB * pq) := by rw [Nat.pow_succ, Nat.mul_assoc, Nat.mul_assoc, Nat.mul_add]
        have e2 : BB ^ i * nr + BB ^ i * x * by_ + BB ^ i * b + BB ^ i * c = BB ^ i * u + BB ^ i * (BB * (1 - nq) + BB * pq) := by
          rw [Nat.mul_assoc, ← Nat.mul_add, ← Nat.mul_add, ← Nat.mul_add, ← Nat.mul_add]
          congr 1
          have : BB * (1 - nq) = BB - BB * nq := by rw [Nat.mul_sub, Nat.mul_one]
          have h9 : BB * nq ≤ BB := by have := Nat.mul_le_mul_left BB hnq; omega
          omega
        omega
      · simp [lk]
      · simp [lk]; omega
      · simp [lk]
      · show AObj.cells _ _ (splice _ _ _) :: R = _
        rw [Int.toNat_natCast, Nat.mul_one, splice_limbs (by omega)]
    · have hx0 : x = 0 := by rw [← hxx]; simp [List.getD_eq_getElem?_getD, show v.length ≤ i by omega]
      have g0 : (c : Int) = (p : Int) := by rw [hp, hx0]; simp
      repeat' ((conv => whnf); first | refine ngo ?_ | refine VB.tt ?_ | refine VB.ff ?_ | refine VNew.keep ?_ | refine dgo ?_ | refine sgo ?_ | fail)
      conv => whnf
      rw [g0]
      have hmd := Nat.mod_add_div p BB
      have hpm := Nat.mod_lt p (show 0 < BB by decide)
      have hpq : p / BB < BB := Nat.div_lt_of_lt_mul hpl
      have g5 := tdiv_BB p
      have g6 := tmod_BB p
      generalize p / BB = pq at *
      generalize p % BB = pm at *
      obtain ⟨n, hn⟩ : ∃ n, n = u + BB - pm - b := ⟨_, rfl⟩
      have g7 : (u : Int) + 1000000000 - (pm : Int) - (b : Int) = (n : Int) := by omega
      have hnd := Nat.mod_add_div n BB
      have hnm := Nat.mod_lt n (show 0 < BB by decide)
      have hnq : n / BB ≤ 1 := Nat.le_of_lt_succ (Nat.div_lt_of_lt_mul (by omega))
      have g8 := tdiv_BB n
      have g9 := tmod_BB n
      generalize n / BB = nq at *
      generalize n % BB = nr at *
      repeat' ((conv => whnf); first | refine ngo ?_ | refine VB.tt ?_ | refine VB.ff ?_ | refine VNew.keep ?_ | refine dgo ?_ | refine sgo ?_ | fail)
      conv => whnf
      rw [g5]
      repeat' ((conv => whnf); first | refine ngo ?_ | refine VB.tt ?_ | refine VB.ff ?_ | refine VNew.keep ?_ | refine dgo ?_ | refine sgo ?_ | fail)
      conv => whnf
      rw [g3]
      repeat' ((conv => whnf); first | refine ngo ?_ | refine VB.tt ?_ | refine VB.ff ?_ | refine VNew.keep ?_ | refine dgo ?_ | refine sgo ?_ | fail)
      conv => whnf
      rw [g6, g7]
      repeat' ((conv => whnf); first | refine ngo ?_ | refine VB.tt ?_ | refine VB.ff ?_ | refine VNew.keep ?_ | refine dgo ?_ | refine sgo ?_ | fail)
      conv => whnf
      rw [g8]
      repeat' ((conv => whnf); first | refine ngo ?_ | refine VB.tt ?_ | refine VB.ff ?_ | refine VNew.keep ?_ | refine dgo ?_ | refine sgo ?_ | fail)
      conv => whnf
      rw [g9]
      repeat' ((conv => whnf); first | refine ngo ?_ | refine VB.tt ?_ | refine VB.ff ?_ | refine VNew.keep ?_ | refine dgo ?_ | refine sgo ?_ | fail)
      conv => whnf
      refine to_forceH ?_
      repeat' ((conv => whnf); first | refine ngo ?_ | refine VB.tt ?_ | refine VB.ff ?_ | refine VNew.keep ?_ | refine dgo ?_ | refine sgo ?_ | fail)
      conv => whnf
      refine ⟨(i + 1, l1.set (j + i) nr, pq, 1 - nq), ⟨by dsimp only; omega, by simpa using hll, okL_set hok1 _ hnm, ?_, hpq, by dsimp only; omega, ?_, ?_⟩, by dsimp only; omega, ⟨⟨rfl, rfl, rfl, ?_, ?_, rfl, rfl, ?_, trivial⟩, ?_, rfl⟩⟩
      · intro k hk
        dsimp only at hk ⊢
        rw [getD_set_ne' (by omega)]
        exact hsame k (by omega)
      · dsimp only
        rw [htk, Nat.add_mul, Nat.pow_succ, Nat.mul_assoc]
        have : BB ^ i * (BB * pq) ≤ BB ^ i * p := Nat.mul_le_mul_left _ (by omega)
        rw [hp, Nat.mul_add] at this
        rw [Nat.mul_assoc]
        omega
      · dsimp only
        rw [seg_succ (by simp; omega), seg_set (Nat.le_refl _), getD_set_eq (by omega), seg_succ (by omega), htk, Nat.add_mul, ← hsame (j + i) (by omega), hu]
        have e1 : BB ^ (i + 1) * (1 - nq) + BB ^ (i + 1) * pq = BB ^ i * (BB * (1 - nq) + BB * pq) := by rw [Nat.pow_succ, Nat.mul_assoc, Nat.mul_assoc, Nat.mul_add]
        have e2 : BB ^ i * nr + BB ^ i * x * by_ + BB ^ i * b + BB ^ i * c = BB ^ i * u + BB ^ i * (BB * (1 - nq) + BB * pq) := by
          rw [Nat.mul_assoc, ← Nat.mul_add, ← Nat.mul_add, ← Nat.mul_add, ← Nat.mul_add]
          congr 1
          have : BB * (1 - nq) = BB - BB * nq := by rw [Nat.mul_sub, Nat.mul_one]
          have h9 : BB * nq ≤ BB := by have := Nat.mul_le_mul_left BB hnq; omega
          omega
        omega
      · simp [lk]
      · simp [lk]; omega
      · simp [lk]
      · show AObj.cells _ _ (splice _ _ _) :: R = _
        rw [Int.toNat_natCast, Nat.mul_one, splice_limbs (by omega)]
  · have : i = m := by omega
    subst this
    have ht : v.take i = v := List.take_of_length_le hvm
    rw [ht] at hcv heq
    have hc0 : c = 0 := by
      have h1 := Nat.lt_of_le_of_lt hcv hlt
      rcases Nat.eq_zero_or_pos c with h0 | h0
      · exact h0
      · have := Nat.le_mul_of_pos_right (BB ^ i) h0
        omega
    subst hc0
    repeat' ((conv => whnf); first | refine ngo ?_ | refine VB.tt ?_ | refine VB.ff ?_ | refine VNew.keep ?_ | refine dgo ?_ | refine sgo ?_ | fail)
    conv => whnf
    refine to_forceH ⟨l1, decide ((b : Int) > 0), hll, hok1, hsame, rfl, rfl, ?_⟩
    rw [heq]
    rcases Nat.le_one_iff_eq_zero_or_eq_one.1 hb with rfl | rfl <;> simp
end Go.Proofs.Ytcdnonggajoghaa
