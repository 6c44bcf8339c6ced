/- Contracts: products. -/
import Derived.Test.YtcdnonggajoghaaC1
namespace Go.Proofs.Ytcdnonggajoghaa
open Go Go.RowKit
set_option linter.unusedVariables false
set_option linter.unusedSimpArgs false
set_option maxRecDepth 100000

theorem val_set {l : List Nat} {j : Nat} (h : j < l.length) (c : Nat) : val (l.set j c) + BB ^ j * l.getD j 0 = val l + BB ^ j * c := by
  have e : l.set j c = l.take j ++ c :: l.drop (j + 1) := by rw [List.set_eq_take_append_cons_drop, if_pos h]
  rw [e, val_append, List.length_take, Nat.min_eq_left (by omega), val_split h, val]
  simp only [Nat.mul_add]
  omega
theorem okL_set {l : List Nat} (h : okL l) (j : Nat) {c : Nat} (hc : c < BB) : okL (l.set j c) := by
  intro x hx
  rcases List.mem_or_eq_of_mem_set hx with h1 | rfl
  · exact h x h1
  · exact hc
theorem getD_lt {l : List Nat} (h : okL l) (i : Nat) : l.getD i 0 < BB := by
  rw [List.getD_eq_getElem?_getD]
  cases e : l[i]? with
  | none => decide
  | some x => exact h x (List.mem_of_getElem? e)
theorem getD_zero_of_lt {l : List Nat} (h : okL l) {i : Nat} (hv : val l < BB ^ i) : l.getD i 0 = 0 := by
  rw [getD_val h, Nat.div_eq_of_lt hv]
  rfl
theorem mul_lt_BB {x y c d : Nat} (hx : x < BB) (hy : y < BB) (hc : c < BB) (hd : d < BB) : d + x * y + c < BB * BB := by
  have := Nat.mul_le_mul (Nat.le_sub_one_of_lt hx) (Nat.le_sub_one_of_lt hy)
  have e : (BB - 1) * (BB - 1) = 999999998000000001 := by decide
  unfold BB at *
  omega

theorem product_own {a b : List Nat} (ha : okL a) (hb : okL b) (la : a.length < 100000000) (lb : b.length < 100000000) :
    VCall EE 42 [natL a, natL b] [] fun v H => ∃ l, okL l ∧ val l = val a * val b ∧ H = [.cells 0 30 (limbs l)] ∧ v = .osl 0 0 0 (dg (val a * val b)).length 1 := by
  refine VCall.of_body true Try.func42 rfl (by decide) rfl ?_
  repeat' ((conv => whnf); first | refine ngo ?_ | refine VB.tt ?_ | refine VB.ff ?_ | refine VNew.keep ?_ | refine dgo ?_ | refine sgo ?_ | fail)
  conv => whnf
  refine VLoop.ix true (fun x : Nat × List Nat => ⟨[(1, natL b), (5, .osl 0 0 0 x.2.length 1), (18, natL a), (19, .int .i64 a.length), (20, .int .i64 x.1)], [.cells 0 30 (limbs x.2)], []⟩)
    (fun x => x.1 ≤ a.length ∧ x.2.length = a.length + b.length ∧ okL x.2 ∧ val x.2 = val (a.take x.1) * val b) (fun x => a.length - x.1) (0, List.replicate (a.length + b.length) 0)
    ⟨Nat.zero_le _, by simp, okL_zeros _, by simp [val_zeros, val]⟩ ⟨⟨rfl, by simp [lk]; omega, rfl, rfl, rfl, trivial⟩, by show [AObj.cells 0 _ (reps _ _)] = _; rw [show ((a.length : Int) + (b.length : Int)).toNat = a.length + b.length by omega]; exact congrArg (fun x => [AObj.cells 0 30 x]) (limbs_zeros _), rfl⟩ ?_
  rintro ⟨i, l⟩ ⟨hi, hll, hok, hv⟩
  dsimp only at hi hll hok hv ⊢
  repeat' ((conv => whnf); first | refine ngo ?_ | refine VB.tt ?_ | refine VB.ff ?_ | refine VNew.keep ?_ | refine dgo ?_ | refine sgo ?_ | fail)
  conv => whnf
  refine VB.dec (fun h => ?_) (fun h => ?_)
  · repeat' ((conv => whnf); first | refine ngo ?_ | refine VB.tt ?_ | refine VB.ff ?_ | refine VNew.keep ?_ | refine dgo ?_ | refine sgo ?_ | fail)
    conv => whnf
    have hvl : val l < BB ^ (i + b.length) := by
      rw [hv, Nat.pow_add]
      have h1 := val_lt (ha.take i)
      rw [List.length_take, Nat.min_eq_left (by omega)] at h1
      exact Nat.mul_lt_mul'' h1 (val_lt hb)
    have hx := getD_lt ha i
    generalize hxx : a.getD i 0 = x at hx
    refine VLoop.ix true (fun y : Nat × List Nat × Nat => ⟨[(1, natL b), (5, .osl 0 0 0 y.2.1.length 1), (6, .int .i64 i), (7, .int .u32 x), (8, .int .u64 y.2.2), (18, natL a), (19, .int .i64 a.length), (20, .int .i64 i), (25, natL b), (26, .int .i64 b.length), (27, .int .i64 y.1)], [.cells 0 30 (limbs y.2.1)], []⟩)
      (fun y => y.1 ≤ b.length ∧ y.2.1.length = a.length + b.length ∧ okL y.2.1 ∧ y.2.2 < BB ∧ y.2.1.getD (i + b.length) 0 = 0 ∧ val y.2.1 + BB ^ (i + y.1) * y.2.2 = val (a.take i) * val b + BB ^ i * (x * val (b.take y.1))) (fun y => b.length - y.1) (0, l, 0)
      ⟨Nat.zero_le _, hll, hok, Nat.zero_lt_succ _, getD_zero_of_lt hok hvl, by simp [hv, val]⟩ ⟨⟨rfl, rfl, rfl, ?_, rfl, rfl, rfl, rfl, rfl, rfl, rfl, trivial⟩, rfl, rfl⟩ ?_
    · simp [lk, getInt_limbs, ← hxx]
    rintro ⟨k, m, c⟩ ⟨hk, hml, hmok, hc, hz, hmv⟩
    dsimp only at hk hml hmok hc hz hmv ⊢
    repeat' ((conv => whnf); first | refine ngo ?_ | refine VB.tt ?_ | refine VB.ff ?_ | refine VNew.keep ?_ | refine dgo ?_ | refine sgo ?_ | fail)
    conv => whnf
    refine VB.dec (fun hkb => ?_) (fun hkb => ?_)
    · have hy := getD_lt hb k
      have hd := getD_lt hmok (i + k)
      have hBB : BB = 1000000000 := rfl
      have e1 : ((i : Int) + (k : Int)).toNat = i + k := by omega
      have hp := mul_lt_BB hx hy hc hd
      have hBB2 : BB * BB = 1000000000000000000 := rfl
      generalize hyy : b.getD k 0 = y at *
      generalize hdd : m.getD (i + k) 0 = d at *
      have g1 : getInt (List.drop (0 + ((i : Int) + (k : Int)).toNat * 1) (limbs m)) = (d : Int) := by rw [e1, Nat.zero_add, Nat.mul_one, getInt_limbs, hdd]
      have g2 : getInt (List.drop ((k : Int).toNat * 1) (limbs b)) = (y : Int) := by rw [Int.toNat_natCast, Nat.mul_one, getInt_limbs, hyy]
      repeat' ((conv => whnf); first | refine ngo ?_ | refine VB.tt ?_ | refine VB.ff ?_ | refine VNew.keep ?_ | refine dgo ?_ | refine sgo ?_ | fail)
      conv => whnf
      rw [g1]
      repeat' ((conv => whnf); first | refine ngo ?_ | refine VB.tt ?_ | refine VB.ff ?_ | refine VNew.keep ?_ | refine dgo ?_ | refine sgo ?_ | fail)
      conv => whnf
      rw [g2]
      obtain ⟨n, hn⟩ : ∃ n, n = d + x * y + c := ⟨_, rfl⟩
      have g0 : (d : Int) + (x : Int) * (y : Int) + (c : Int) = (n : Int) := by rw [hn]; simp
      have hm := Nat.mod_lt n (show 0 < BB by decide)
      have hdv : n / BB < BB := Nat.div_lt_of_lt_mul (by omega)
      have hmd := Nat.mod_add_div n BB
      have g5 := tdiv_BB n
      have g6 := tmod_BB n
      generalize n / BB = q at *
      generalize n % BB = r at *
      repeat' ((conv => whnf); first | refine ngo ?_ | refine VB.tt ?_ | refine VB.ff ?_ | refine VNew.keep ?_ | refine dgo ?_ | refine sgo ?_ | fail)
      conv => whnf
      rw [g0, g6]
      repeat' ((conv => whnf); first | refine ngo ?_ | refine VB.tt ?_ | refine VB.ff ?_ | refine VNew.keep ?_ | refine dgo ?_ | refine sgo ?_ | fail)
      conv => whnf
      rw [g5]
      repeat' ((conv => whnf); first | refine ngo ?_ | refine VB.tt ?_ | refine VB.ff ?_ | refine VNew.keep ?_ | refine dgo ?_ | refine sgo ?_ | fail)
      conv => whnf
      refine ⟨(k + 1, m.set (i + k) r, q), ⟨by omega, by simpa using hml, okL_set hmok _ hm, hdv, ?_, ?_⟩, by dsimp only; omega, ⟨⟨rfl, ?_, rfl, rfl, rfl, rfl, rfl, rfl, rfl, rfl, rfl, trivial⟩, ?_, rfl⟩⟩
      · dsimp only
        rw [List.getD_eq_getElem?_getD, List.getElem?_set_ne (by omega), ← List.getD_eq_getElem?_getD]
        exact hz
      · dsimp only
        have hs := val_set (l := m) (j := i + k) (by omega) r
        have ht := val_take_succ (l := b) (i := k) (by omega)
        rw [hdd] at hs
        rw [hyy] at ht
        rw [ht]
        have e2 : BB ^ (i + (k + 1)) * q = BB ^ (i + k) * (BB * q) := by rw [← Nat.add_assoc, Nat.pow_succ, Nat.mul_assoc]
        have e3 : BB ^ (i + k) * r + BB ^ (i + k) * (BB * q) = BB ^ (i + k) * d + BB ^ (i + k) * (x * y) + BB ^ (i + k) * c := by
          rw [← Nat.mul_add, hmd, hn, Nat.mul_add, Nat.mul_add]
        have e4 : BB ^ i * (x * (val (b.take k) + BB ^ k * y)) = BB ^ i * (x * val (b.take k)) + BB ^ (i + k) * (x * y) := by
          rw [Nat.mul_add, Nat.mul_add, Nat.pow_add]
          congr 1
          rw [Nat.mul_assoc, ← Nat.mul_assoc x, ← Nat.mul_assoc (BB ^ k), Nat.mul_comm x (BB ^ k)]
        omega
      · simp [lk]
      · show [AObj.cells 0 _ (splice _ _ _)] = _
        rw [e1, Nat.zero_add, Nat.mul_one, splice_limbs (by omega)]
    · have hkl : k = b.length := by omega
      subst hkl
      have hBB : BB = 1000000000 := rfl
      rw [List.take_length] at hmv
      repeat' ((conv => whnf); first | refine ngo ?_ | refine VB.tt ?_ | refine VB.ff ?_ | refine VNew.keep ?_ | refine dgo ?_ | refine sgo ?_ | fail)
      conv => whnf
      refine ⟨(i + 1, m.set (i + b.length) c), ⟨by omega, by simpa using hml, okL_set hmok _ hc, ?_⟩, by dsimp only; omega, ⟨⟨rfl, ?_, rfl, rfl, rfl, trivial⟩, ?_, rfl⟩⟩
      · dsimp only
        have hs := val_set (l := m) (j := i + b.length) (by omega) c
        rw [hz] at hs
        have ht := val_take_succ (l := a) (i := i) (by omega)
        rw [hxx] at ht
        rw [ht, Nat.add_mul, Nat.mul_assoc]
        omega
      · simp [lk]
      · show [AObj.cells 0 _ (splice _ _ _)] = _
        rw [show ((i : Int) + (b.length : Int)).toNat = i + b.length by omega, Nat.zero_add, Nat.mul_one, splice_limbs (by omega)]
  · repeat' ((conv => whnf); first | refine ngo ?_ | refine VB.tt ?_ | refine VB.ff ?_ | refine VNew.keep ?_ | refine dgo ?_ | refine sgo ?_ | fail)
    conv => whnf
    have hil : i = a.length := by omega
    subst hil
    rw [List.take_length] at hv
    refine (trim_own0 hok (by omega)).mono fun v H' hq => ?_
    obtain ⟨rfl, rfl⟩ := hq
    repeat' ((conv => whnf); first | refine ngo ?_ | refine VB.tt ?_ | refine VB.ff ?_ | refine VNew.keep ?_ | refine dgo ?_ | refine sgo ?_ | fail)
    conv => whnf
    exact ⟨l, hok, hv, rfl, by rw [hv]⟩
end Go.Proofs.Ytcdnonggajoghaa
