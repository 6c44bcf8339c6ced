/- Contracts: the reference's products and differences. -/
import Derived.Test.YtcdnonggajoghaaC8
namespace Go.Proofs.Ytcdnonggajoghaa
open Go Go.RowKit
set_option linter.unusedVariables false
set_option linter.unusedSimpArgs false
set_option maxRecDepth 100000

theorem rtimes_c {a b : List Nat} (ha : okL a) (hb : okL b) (la : a.length < 100000000) (lb : b.length < 100000000) :
    VCall EE 43 [natL a, natL b] [] fun v H => Fz H 0 [] v (natv (val a * val b)) := by
  refine VCall.of_body true Try.func43 rfl (by decide) rfl ?_
  repeat' ((conv => whnf); first | refine ngo ?_ | refine VB.tt ?_ | refine VB.ff ?_ | refine VNew.keep ?_ | refine dgo ?_ | refine sgo ?_ | fail)
  conv => whnf
  refine VLoop.ix true (fun x : Nat × List Nat => ⟨[(0, natL a), (1, natL b), (5, .osl 0 0 0 x.2.length 1), (6, .int .i64 x.1)], [.cells 0 30 (limbs x.2)], []⟩)
    (fun x => x.1 ≤ a.length ∧ x.2.length = a.length + b.length ∧ okL x.2 ∧ val x.2 = val (a.take x.1) * val b) (fun x => a.length - x.1) (0, List.replicate (a.length + b.length) 0)
    ⟨Nat.zero_le _, by simp, okL_zeros _, by simp [val_zeros, val]⟩ ⟨⟨rfl, rfl, by simp [lk]; omega, rfl, trivial⟩, by show [AObj.cells 0 _ (reps _ _)] = _; rw [show ((a.length : Int) + (b.length : Int)).toNat = a.length + b.length by omega]; exact congrArg (fun x => [AObj.cells 0 30 x]) (limbs_zeros _), rfl⟩ ?_
  rintro ⟨i, l⟩ ⟨hi, hll, hok, hv⟩
  dsimp only at hi hll hok hv ⊢
  repeat' ((conv => whnf); first | refine ngo ?_ | refine VB.tt ?_ | refine VB.ff ?_ | refine VNew.keep ?_ | refine dgo ?_ | refine sgo ?_ | fail)
  conv => whnf
  refine VB.dec (fun h => ?_) (fun h => ?_)
  · repeat' ((conv => whnf); first | refine ngo ?_ | refine VB.tt ?_ | refine VB.ff ?_ | refine VNew.keep ?_ | refine dgo ?_ | refine sgo ?_ | fail)
    conv => whnf
    have hvl : val l < BB ^ (i + b.length) := by
      rw [hv, Nat.pow_add]
      have h1 := val_lt (ha.take i)
      rw [List.length_take, Nat.min_eq_left (by omega)] at h1
      exact Nat.mul_lt_mul'' h1 (val_lt hb)
    have hx := getD_lt ha i
    generalize hxx : a.getD i 0 = x at hx
    refine VLoop.ix true (fun y : Nat × List Nat × Nat => ⟨[(0, natL a), (1, natL b), (5, .osl 0 0 0 y.2.1.length 1), (6, .int .i64 i), (7, .int .u64 y.2.2), (8, .int .i64 y.1)], [.cells 0 30 (limbs y.2.1)], []⟩)
      (fun y => y.1 ≤ b.length ∧ y.2.1.length = a.length + b.length ∧ okL y.2.1 ∧ y.2.2 < BB ∧ y.2.1.getD (i + b.length) 0 = 0 ∧ val y.2.1 + BB ^ (i + y.1) * y.2.2 = val (a.take i) * val b + BB ^ i * (x * val (b.take y.1))) (fun y => b.length - y.1) (0, l, 0)
      ⟨Nat.zero_le _, hll, hok, Nat.zero_lt_succ _, getD_zero_of_lt hok hvl, by simp [hv, val]⟩ ⟨⟨rfl, rfl, rfl, rfl, rfl, rfl, trivial⟩, rfl, rfl⟩ ?_
    rintro ⟨k, m, c⟩ ⟨hk, hml, hmok, hc, hz, hmv⟩
    dsimp only at hk hml hmok hc hz hmv ⊢
    repeat' ((conv => whnf); first | refine ngo ?_ | refine VB.tt ?_ | refine VB.ff ?_ | refine VNew.keep ?_ | refine dgo ?_ | refine sgo ?_ | fail)
    conv => whnf
    refine VB.dec (fun hkb => ?_) (fun hkb => ?_)
    · have hy := getD_lt hb k
      have hd := getD_lt hmok (i + k)
      have hBB : BB = 1000000000 := rfl
      have e1 : ((i : Int) + (k : Int)).toNat = i + k := by omega
      have hp := mul_lt_BB hx hy hc hd
      have hBB2 : BB * BB = 1000000000000000000 := rfl
      have g3 : getInt (List.drop ((i : Int).toNat * 1) (limbs a)) = (x : Int) := by rw [Int.toNat_natCast, Nat.mul_one, getInt_limbs, hxx]
      generalize hyy : b.getD k 0 = y at *
      generalize hdd : m.getD (i + k) 0 = d at *
      have g1 : getInt (List.drop (0 + ((i : Int) + (k : Int)).toNat * 1) (limbs m)) = (d : Int) := by rw [e1, Nat.zero_add, Nat.mul_one, getInt_limbs, hdd]
      have g2 : getInt (List.drop ((k : Int).toNat * 1) (limbs b)) = (y : Int) := by rw [Int.toNat_natCast, Nat.mul_one, getInt_limbs, hyy]
      obtain ⟨n, hn⟩ : ∃ n, n = d + x * y + c := ⟨_, rfl⟩
      have g0 : (c : Int) + (d : Int) + (x : Int) * (y : Int) = (n : Int) := by rw [hn]; simp only [Int.natCast_add, Int.natCast_mul]; omega
      have hm := Nat.mod_lt n (show 0 < BB by decide)
      have hdv : n / BB < BB := Nat.div_lt_of_lt_mul (by omega)
      have hmd := Nat.mod_add_div n BB
      have g5 := tdiv_BB n
      have g6 := tmod_BB n
      generalize n / BB = q at *
      generalize n % BB = r at *
      repeat' ((conv => whnf); first | refine ngo ?_ | refine VB.tt ?_ | refine VB.ff ?_ | refine VNew.keep ?_ | refine dgo ?_ | refine sgo ?_ | fail)
      conv => whnf
      rw [g1]
      repeat' ((conv => whnf); first | refine ngo ?_ | refine VB.tt ?_ | refine VB.ff ?_ | refine VNew.keep ?_ | refine dgo ?_ | refine sgo ?_ | fail)
      conv => whnf
      rw [g3]
      repeat' ((conv => whnf); first | refine ngo ?_ | refine VB.tt ?_ | refine VB.ff ?_ | refine VNew.keep ?_ | refine dgo ?_ | refine sgo ?_ | fail)
      conv => whnf
      rw [g2]
      repeat' ((conv => whnf); first | refine ngo ?_ | refine VB.tt ?_ | refine VB.ff ?_ | refine VNew.keep ?_ | refine dgo ?_ | refine sgo ?_ | fail)
      conv => whnf
      rw [g0]
      repeat' ((conv => whnf); first | refine ngo ?_ | refine VB.tt ?_ | refine VB.ff ?_ | refine VNew.keep ?_ | refine dgo ?_ | refine sgo ?_ | fail)
      conv => whnf
      rw [g6]
      repeat' ((conv => whnf); first | refine ngo ?_ | refine VB.tt ?_ | refine VB.ff ?_ | refine VNew.keep ?_ | refine dgo ?_ | refine sgo ?_ | fail)
      conv => whnf
      refine ⟨(k + 1, m.set (i + k) r, q), ⟨by omega, by simpa using hml, okL_set hmok _ hm, hdv, ?_, ?_⟩, by dsimp only; omega, ⟨⟨rfl, rfl, ?_, rfl, ?_, rfl, trivial⟩, ?_, rfl⟩⟩
      · dsimp only
        rw [List.getD_eq_getElem?_getD, List.getElem?_set_ne (by omega), ← List.getD_eq_getElem?_getD]
        exact hz
      · dsimp only
        have hs := val_set (l := m) (j := i + k) (by omega) r
        have ht := val_take_succ (l := b) (i := k) (by omega)
        rw [hdd] at hs
        rw [hyy] at ht
        rw [ht]
        have e2 : BB ^ (i + (k + 1)) * q = BB ^ (i + k) * (BB * q) := by rw [← Nat.add_assoc, Nat.pow_succ, Nat.mul_assoc]
        have e3 : BB ^ (i + k) * r + BB ^ (i + k) * (BB * q) = BB ^ (i + k) * d + BB ^ (i + k) * (x * y) + BB ^ (i + k) * c := by
          rw [← Nat.mul_add, hmd, hn, Nat.mul_add, Nat.mul_add]
        have e4 : BB ^ i * (x * (val (b.take k) + BB ^ k * y)) = BB ^ i * (x * val (b.take k)) + BB ^ (i + k) * (x * y) := by
          rw [Nat.mul_add, Nat.mul_add, Nat.pow_add]
          congr 1
          rw [Nat.mul_assoc, ← Nat.mul_assoc x, ← Nat.mul_assoc (BB ^ k), Nat.mul_comm x (BB ^ k)]
        omega
      · simp [lk]
      · simp [lk, g5]
      · show [AObj.cells 0 _ (splice _ _ _)] = _
        rw [e1, Nat.zero_add, Nat.mul_one, splice_limbs (by omega)]
    · have hkl : k = b.length := by omega
      subst hkl
      have hBB : BB = 1000000000 := rfl
      rw [List.take_length] at hmv
      repeat' ((conv => whnf); first | refine ngo ?_ | refine VB.tt ?_ | refine VB.ff ?_ | refine VNew.keep ?_ | refine dgo ?_ | refine sgo ?_ | fail)
      conv => whnf
      refine ⟨(i + 1, m.set (i + b.length) c), ⟨by omega, by simpa using hml, okL_set hmok _ hc, ?_⟩, by dsimp only; omega, ⟨⟨rfl, rfl, ?_, rfl, trivial⟩, ?_, rfl⟩⟩
      · dsimp only
        have hs := val_set (l := m) (j := i + b.length) (by omega) c
        rw [hz] at hs
        have ht := val_take_succ (l := a) (i := i) (by omega)
        rw [hxx] at ht
        rw [ht, Nat.add_mul, Nat.mul_assoc]
        omega
      · simp [lk]
      · show [AObj.cells 0 _ (splice _ _ _)] = _
        rw [show ((i : Int) + (b.length : Int)).toNat = i + b.length by omega, Nat.zero_add, Nat.mul_one, splice_limbs (by omega)]
  · have : i = a.length := by omega
    subst this
    rw [List.take_length] at hv
    repeat' ((conv => whnf); first | refine ngo ?_ | refine VB.tt ?_ | refine VB.ff ?_ | refine VNew.keep ?_ | refine dgo ?_ | refine sgo ?_ | fail)
    conv => whnf
    refine (rtrim_own (b := 0) (ver := 0) (e := 30) (l := l) rfl hok (Nat.le_refl _) (by omega)).mono fun v H' hq => ?_
    obtain ⟨rfl, rfl⟩ := hq
    rw [List.take_length, ← hv]
    repeat' ((conv => whnf); first | refine ngo ?_ | refine VB.tt ?_ | refine VB.ff ?_ | refine VNew.keep ?_ | refine dgo ?_ | refine sgo ?_ | fail)
    conv => whnf
    exact .nat (Nat.zero_le _) (by simp) rfl (by rw [Nat.mul_one, limbs_take, take_dg hok]) rfl

theorem rtimes_n {a b : Nat} (la : (dg a).length < 10000000) (lb : (dg b).length < 10000000) : VCall EE 43 [natv a, natv b] [] fun v H => Fz H 0 [] v (natv (a * b)) := by
  have := rtimes_c (okL_dg a) (okL_dg b) (by omega) (by omega)
  rwa [val_dg, val_dg] at this

theorem rtrim_nil {H : Heap} : VCall EE 61 [.nsl] H fun v H' => H' = H ∧ v = .nsl := by
  refine VCall.of_body true Try.func61 rfl (by decide) rfl ?_
  repeat' ((conv => whnf); first | refine ngo ?_ | refine VB.tt ?_ | refine VB.ff ?_ | refine VNew.keep ?_ | refine dgo ?_ | refine sgo ?_ | fail)
  conv => whnf
  refine VLoop.ix true (fun k : Nat => ⟨[(0, .nsl)], H, []⟩) (fun k => True) id 0 trivial ⟨⟨rfl, trivial⟩, rfl, rfl⟩ ?_
  rintro k hk
  repeat' ((conv => whnf); first | refine ngo ?_ | refine VB.tt ?_ | refine VB.ff ?_ | refine VNew.keep ?_ | refine dgo ?_ | refine sgo ?_ | fail)
  conv => whnf
  exact to_forceH ⟨rfl, rfl⟩

/-- A number in a block of its own, or none. -/
def accR (l : List Nat) (k : Nat) : AV := match l with
  | [] => .nsl
  | x :: l => .osl 0 l.length 0 k 1

set_option maxHeartbeats 2000000 in
theorem rminus_own {a b : List Nat} (ha : canon a) (hb : canon b) (la : a.length < 100000000) (hle : val b ≤ val a) :
    VCall EE 51 [natL a, natL b] [] fun v H => ∃ l, okL l ∧ val l = val a - val b ∧ H = accH 30 l ∧ v = accR l (dg (val a - val b)).length := by
  have lb : b.length ≤ a.length := by
    rcases Nat.lt_or_ge a.length b.length with h | h
    · have := canon_lt ha.1 hb h; omega
    · exact h
  refine VCall.of_body true Try.func51 rfl (by decide) rfl ?_
  repeat' ((conv => whnf); first | refine ngo ?_ | refine VB.tt ?_ | refine VB.ff ?_ | refine VNew.keep ?_ | refine dgo ?_ | refine sgo ?_ | fail)
  conv => whnf
  refine VLoop.tr true (fun x : Nat × List Nat × Nat => ⟨[(0, natL a), (1, natL b), (5, accV x.2.1), (6, .int .i64 x.2.2), (7, .int .i64 x.1)], accH 30 x.2.1, []⟩)
    (fun x => x.1 ≤ a.length ∧ x.2.1.length = x.1 ∧ okL x.2.1 ∧ x.2.2 ≤ 1 ∧ val x.2.1 + val (b.take x.1) = val (a.take x.1) + BB ^ x.1 * x.2.2) (fun x => a.length - x.1) (0, [], 0)
    ⟨Nat.zero_le _, rfl, by intro x hx; simp at hx, Nat.zero_le _, by simp [val]⟩ ⟨⟨rfl, rfl, rfl, rfl, rfl, trivial⟩, rfl, rfl⟩ ?_
  rintro ⟨i, l, c⟩ ⟨hi, hll, hok, hc, hv⟩
  dsimp only at hi hll hok hc hv ⊢
  repeat' ((conv => whnf); first | refine ngo ?_ | refine VB.tt ?_ | refine VB.ff ?_ | refine VNew.keep ?_ | refine dgo ?_ | refine sgo ?_ | fail)
  conv => whnf
  refine VB.dec (fun h => ?_) (fun h => ?_)
  · have hBB : BB = 1000000000 := rfl
    have hx := getD_lt ha.1 i
    have hy := getD_lt hb.1 i
    have hta := val_take_succ (l := a) (i := i) (by omega)
    have htb : val (b.take (i + 1)) = val (b.take i) + BB ^ i * b.getD i 0 := by
      rcases Nat.lt_or_ge i b.length with hlt | hge
      · exact val_take_succ hlt
      · rw [List.take_of_length_le hge, List.take_of_length_le (by omega)]
        simp [List.getD_eq_getElem?_getD, hge]
    have g1 : getInt (List.drop ((i : Int).toNat * 1) (limbs a)) = ((a.getD i 0 : Nat) : Int) := by rw [Int.toNat_natCast, Nat.mul_one, getInt_limbs]
    have g2 : getInt (List.drop ((i : Int).toNat * 1) (limbs b)) = ((b.getD i 0 : Nat) : Int) := by rw [Int.toNat_natCast, Nat.mul_one, getInt_limbs]
    have hy0 : b.length ≤ i → b.getD i 0 = 0 := fun hge => by simp [List.getD_eq_getElem?_getD, hge]
    generalize a.getD i 0 = x at *
    generalize b.getD i 0 = y at *
    obtain ⟨d, c', hd, hc', hdc⟩ : ∃ d c' : Nat, d < BB ∧ c' ≤ 1 ∧ d + y + c = x + BB * c' := by
      by_cases hlt : x < y + c
      · exact ⟨x + BB - y - c, 1, by omega, by omega, by omega⟩
      · exact ⟨x - y - c, 0, by omega, by omega, by omega⟩
    have hneg : ((x : Int) - (c : Int) - (y : Int) < 0) ↔ c' = 1 := by
      rcases Nat.le_one_iff_eq_zero_or_eq_one.1 hc' with rfl | rfl
      · exact ⟨fun h => by omega, fun h => by omega⟩
      · exact ⟨fun h => rfl, fun h => by omega⟩
    have hdv : BB ^ i * d + BB ^ i * y + BB ^ i * c = BB ^ i * x + BB ^ (i + 1) * c' := by
      rw [Nat.pow_succ, Nat.mul_assoc, ← Nat.mul_add, ← Nat.mul_add, ← Nat.mul_add, hdc]
    have hnew : val (l ++ [d]) + val (b.take (i + 1)) = val (a.take (i + 1)) + BB ^ (i + 1) * c' := by
      rw [val_append, hta, htb, hll]
      simp only [val, Nat.mul_zero, Nat.add_zero]
      omega
    have hok' : okL (l ++ [d]) := okL_append.2 ⟨hok, by intro z hz; rw [List.mem_singleton.1 hz]; exact hd⟩
    repeat' ((conv => whnf); first | refine ngo ?_ | refine VB.tt ?_ | refine VB.ff ?_ | refine VNew.keep ?_ | refine dgo ?_ | refine sgo ?_ | fail)
    conv => whnf
    rw [g1]
    repeat' ((conv => whnf); first | refine ngo ?_ | refine VB.tt ?_ | refine VB.ff ?_ | refine VNew.keep ?_ | refine dgo ?_ | refine sgo ?_ | fail)
    conv => whnf
    refine VB.dec (fun hib => ?_) (fun hib => ?_)
    · repeat' ((conv => whnf); first | refine ngo ?_ | refine VB.tt ?_ | refine VB.ff ?_ | refine VNew.keep ?_ | refine dgo ?_ | refine sgo ?_ | fail)
      conv => whnf
      rw [g2]
      repeat' ((conv => whnf); first | refine ngo ?_ | refine VB.tt ?_ | refine VB.ff ?_ | refine VNew.keep ?_ | refine dgo ?_ | refine sgo ?_ | fail)
      conv => whnf
      refine VB.dec (fun hn => ?_) (fun hn => ?_)
      · have hc1 := hneg.1 hn
        subst hc1
        have g3 : (x : Int) - (c : Int) - (y : Int) + 1000000000 = (d : Int) := by omega
        repeat' ((conv => whnf); first | refine ngo ?_ | refine VB.tt ?_ | refine VB.ff ?_ | refine VNew.keep ?_ | refine dgo ?_ | refine sgo ?_ | fail)
        conv => whnf
        rw [g3]
        cases l with
        | nil =>
          repeat' ((conv => whnf); first | refine ngo ?_ | refine VB.tt ?_ | refine VB.ff ?_ | refine VNew.keep ?_ | refine dgo ?_ | refine sgo ?_ | fail)
          conv => whnf
          refine ⟨(i + 1, [d], 1), ⟨by dsimp only; omega, by simp at hll ⊢; omega, hok', by simp, hnew⟩, by dsimp only; omega, [1], by simp, by simp, ⟨⟨_, rfl, .cells rfl (FzL.same rfl (low_limbs _ [d]))⟩, trivial⟩, ⟨⟨_, rfl, .same rfl (low_natL _ _)⟩, ⟨_, rfl, .same rfl (low_natL _ _)⟩, ⟨_, rfl, .kosl (j := 0) rfl rfl rfl rfl⟩, ⟨_, rfl, .same rfl trivial⟩, ⟨_, rfl, .same (by simp) trivial⟩, trivial⟩, rfl, by simp⟩
        | cons z l =>
          simp only [List.length_cons] at hll
          repeat' ((conv => whnf); first | refine ngo ?_ | refine VB.tt ?_ | refine VB.ff ?_ | refine VNew.keep ?_ | refine dgo ?_ | refine sgo ?_ | fail)
          conv => whnf
          refine ⟨(i + 1, z :: l ++ [d], 1), ⟨by dsimp only; omega, by simp at hll ⊢; omega, hok', by simp, hnew⟩, by dsimp only; omega, [0], by simp, by simp, ⟨⟨_, rfl, .cells (by simp) (FzL.same ?_ (low_limbs _ (z :: l ++ [d])))⟩, trivial⟩, ⟨⟨_, rfl, .same rfl (low_natL _ _)⟩, ⟨_, rfl, .same rfl (low_natL _ _)⟩, ⟨_, rfl, .kosl (j := 0) rfl rfl (by simp) (by simp)⟩, ⟨_, rfl, .same rfl trivial⟩, ⟨_, rfl, .same (by simp) trivial⟩, trivial⟩, rfl, by simp⟩
          rw [Nat.mul_one, List.take_of_length_le (by simp [limbs])]
          simp [limbs]
      · have hc1 : c' = 0 := by
          rcases Nat.eq_zero_or_pos c' with h0 | h0
          · exact h0
          · exact absurd (hneg.2 (by omega)) hn
        subst hc1
        have g3 : (x : Int) - (c : Int) - (y : Int) = (d : Int) := by omega
        rw [g3]
        cases l with
        | nil =>
          repeat' ((conv => whnf); first | refine ngo ?_ | refine VB.tt ?_ | refine VB.ff ?_ | refine VNew.keep ?_ | refine dgo ?_ | refine sgo ?_ | fail)
          conv => whnf
          refine ⟨(i + 1, [d], 0), ⟨by dsimp only; omega, by simp at hll ⊢; omega, hok', by simp, hnew⟩, by dsimp only; omega, [1], by simp, by simp, ⟨⟨_, rfl, .cells rfl (FzL.same rfl (low_limbs _ [d]))⟩, trivial⟩, ⟨⟨_, rfl, .same rfl (low_natL _ _)⟩, ⟨_, rfl, .same rfl (low_natL _ _)⟩, ⟨_, rfl, .kosl (j := 0) rfl rfl rfl rfl⟩, ⟨_, rfl, .same rfl trivial⟩, ⟨_, rfl, .same (by simp) trivial⟩, trivial⟩, rfl, by simp⟩
        | cons z l =>
          simp only [List.length_cons] at hll
          repeat' ((conv => whnf); first | refine ngo ?_ | refine VB.tt ?_ | refine VB.ff ?_ | refine VNew.keep ?_ | refine dgo ?_ | refine sgo ?_ | fail)
          conv => whnf
          refine ⟨(i + 1, z :: l ++ [d], 0), ⟨by dsimp only; omega, by simp at hll ⊢; omega, hok', by simp, hnew⟩, by dsimp only; omega, [0], by simp, by simp, ⟨⟨_, rfl, .cells (by simp) (FzL.same ?_ (low_limbs _ (z :: l ++ [d])))⟩, trivial⟩, ⟨⟨_, rfl, .same rfl (low_natL _ _)⟩, ⟨_, rfl, .same rfl (low_natL _ _)⟩, ⟨_, rfl, .kosl (j := 0) rfl rfl (by simp) (by simp)⟩, ⟨_, rfl, .same rfl trivial⟩, ⟨_, rfl, .same (by simp) trivial⟩, trivial⟩, rfl, by simp⟩
          rw [Nat.mul_one, List.take_of_length_le (by simp [limbs])]
          simp [limbs]
    · have hy00 := hy0 (by omega)
      subst hy00
      repeat' ((conv => whnf); first | refine ngo ?_ | refine VB.tt ?_ | refine VB.ff ?_ | refine VNew.keep ?_ | refine dgo ?_ | refine sgo ?_ | fail)
      conv => whnf
      refine VB.dec (fun hn => ?_) (fun hn => ?_)
      · have hc1 := hneg.1 (by omega)
        subst hc1
        have g3 : (x : Int) - (c : Int) + 1000000000 = (d : Int) := by omega
        repeat' ((conv => whnf); first | refine ngo ?_ | refine VB.tt ?_ | refine VB.ff ?_ | refine VNew.keep ?_ | refine dgo ?_ | refine sgo ?_ | fail)
        conv => whnf
        rw [g3]
        cases l with
        | nil =>
          repeat' ((conv => whnf); first | refine ngo ?_ | refine VB.tt ?_ | refine VB.ff ?_ | refine VNew.keep ?_ | refine dgo ?_ | refine sgo ?_ | fail)
          conv => whnf
          refine ⟨(i + 1, [d], 1), ⟨by dsimp only; omega, by simp at hll ⊢; omega, hok', by simp, hnew⟩, by dsimp only; omega, [1], by simp, by simp, ⟨⟨_, rfl, .cells rfl (FzL.same rfl (low_limbs _ [d]))⟩, trivial⟩, ⟨⟨_, rfl, .same rfl (low_natL _ _)⟩, ⟨_, rfl, .same rfl (low_natL _ _)⟩, ⟨_, rfl, .kosl (j := 0) rfl rfl rfl rfl⟩, ⟨_, rfl, .same rfl trivial⟩, ⟨_, rfl, .same (by simp) trivial⟩, trivial⟩, rfl, by simp⟩
        | cons z l =>
          simp only [List.length_cons] at hll
          repeat' ((conv => whnf); first | refine ngo ?_ | refine VB.tt ?_ | refine VB.ff ?_ | refine VNew.keep ?_ | refine dgo ?_ | refine sgo ?_ | fail)
          conv => whnf
          refine ⟨(i + 1, z :: l ++ [d], 1), ⟨by dsimp only; omega, by simp at hll ⊢; omega, hok', by simp, hnew⟩, by dsimp only; omega, [0], by simp, by simp, ⟨⟨_, rfl, .cells (by simp) (FzL.same ?_ (low_limbs _ (z :: l ++ [d])))⟩, trivial⟩, ⟨⟨_, rfl, .same rfl (low_natL _ _)⟩, ⟨_, rfl, .same rfl (low_natL _ _)⟩, ⟨_, rfl, .kosl (j := 0) rfl rfl (by simp) (by simp)⟩, ⟨_, rfl, .same rfl trivial⟩, ⟨_, rfl, .same (by simp) trivial⟩, trivial⟩, rfl, by simp⟩
          rw [Nat.mul_one, List.take_of_length_le (by simp [limbs])]
          simp [limbs]
      · have hc1 : c' = 0 := by
          rcases Nat.eq_zero_or_pos c' with h0 | h0
          · exact h0
          · exact absurd (hneg.2 (by omega)) (by omega)
        subst hc1
        have g3 : (x : Int) - (c : Int) = (d : Int) := by omega
        rw [g3]
        cases l with
        | nil =>
          repeat' ((conv => whnf); first | refine ngo ?_ | refine VB.tt ?_ | refine VB.ff ?_ | refine VNew.keep ?_ | refine dgo ?_ | refine sgo ?_ | fail)
          conv => whnf
          refine ⟨(i + 1, [d], 0), ⟨by dsimp only; omega, by simp at hll ⊢; omega, hok', by simp, hnew⟩, by dsimp only; omega, [1], by simp, by simp, ⟨⟨_, rfl, .cells rfl (FzL.same rfl (low_limbs _ [d]))⟩, trivial⟩, ⟨⟨_, rfl, .same rfl (low_natL _ _)⟩, ⟨_, rfl, .same rfl (low_natL _ _)⟩, ⟨_, rfl, .kosl (j := 0) rfl rfl rfl rfl⟩, ⟨_, rfl, .same rfl trivial⟩, ⟨_, rfl, .same (by simp) trivial⟩, trivial⟩, rfl, by simp⟩
        | cons z l =>
          simp only [List.length_cons] at hll
          repeat' ((conv => whnf); first | refine ngo ?_ | refine VB.tt ?_ | refine VB.ff ?_ | refine VNew.keep ?_ | refine dgo ?_ | refine sgo ?_ | fail)
          conv => whnf
          refine ⟨(i + 1, z :: l ++ [d], 0), ⟨by dsimp only; omega, by simp at hll ⊢; omega, hok', by simp, hnew⟩, by dsimp only; omega, [0], by simp, by simp, ⟨⟨_, rfl, .cells (by simp) (FzL.same ?_ (low_limbs _ (z :: l ++ [d])))⟩, trivial⟩, ⟨⟨_, rfl, .same rfl (low_natL _ _)⟩, ⟨_, rfl, .same rfl (low_natL _ _)⟩, ⟨_, rfl, .kosl (j := 0) rfl rfl (by simp) (by simp)⟩, ⟨_, rfl, .same rfl trivial⟩, ⟨_, rfl, .same (by simp) trivial⟩, trivial⟩, rfl, by simp⟩
          rw [Nat.mul_one, List.take_of_length_le (by simp [limbs])]
          simp [limbs]
  · have : i = a.length := by omega
    subst this
    rw [List.take_length, List.take_of_length_le lb] at hv
    have hvl := val_lt hok
    rw [hll] at hvl
    have hc0 : c = 0 := by
      rcases Nat.eq_zero_or_pos c with h0 | h0
      · exact h0
      · have h1 : c = 1 := by omega
        subst h1
        omega
    subst hc0
    have hv' : val l = val a - val b := by omega
    cases l with
    | nil =>
      repeat' ((conv => whnf); first | refine ngo ?_ | refine VB.tt ?_ | refine VB.ff ?_ | refine VNew.keep ?_ | refine dgo ?_ | refine sgo ?_ | fail)
      conv => whnf
      refine rtrim_nil.mono fun v H' hq => ?_
      obtain ⟨rfl, rfl⟩ := hq
      repeat' ((conv => whnf); first | refine ngo ?_ | refine VB.tt ?_ | refine VB.ff ?_ | refine VNew.keep ?_ | refine dgo ?_ | refine sgo ?_ | fail)
      conv => whnf
      exact ⟨[], hok, hv', rfl, rfl⟩
    | cons z l =>
      simp only [List.length_cons] at hll
      repeat' ((conv => whnf); first | refine ngo ?_ | refine VB.tt ?_ | refine VB.ff ?_ | refine VNew.keep ?_ | refine dgo ?_ | refine sgo ?_ | fail)
      conv => whnf
      refine (rtrim_own (b := 0) (ver := l.length) (e := 30) (l := z :: l) (k0 := l.length + 1) rfl hok (Nat.le_refl _) (by omega)).mono fun v H' hq => ?_
      obtain ⟨rfl, rfl⟩ := hq
      rw [List.take_of_length_le (by simp), hv']
      repeat' ((conv => whnf); first | refine ngo ?_ | refine VB.tt ?_ | refine VB.ff ?_ | refine VNew.keep ?_ | refine dgo ?_ | refine sgo ?_ | fail)
      conv => whnf
      exact ⟨z :: l, hok, hv', rfl, rfl⟩

theorem rminus_n {a b : Nat} (la : (dg a).length < 10000000) (hle : b ≤ a) : VCall EE 51 [natv a, natv b] [] fun v H => Fz H 0 [] v (natv (a - b)) := by
  refine (rminus_own (canon_dg a) (canon_dg b) (by omega) (by rwa [val_dg, val_dg])).mono fun v H hz => ?_
  obtain ⟨l, h1, h2, rfl, rfl⟩ := hz
  rw [val_dg, val_dg] at *
  cases l with
  | nil =>
    rw [← h2]
    exact fz_nil0
  | cons x l => exact .nat (Nat.zero_le _) (by simp) rfl (by rw [Nat.mul_one, ← h2, limbs_take, take_dg h1]) rfl
end Go.Proofs.Ytcdnonggajoghaa
