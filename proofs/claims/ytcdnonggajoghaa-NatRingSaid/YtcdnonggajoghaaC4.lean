/- Contracts: copies, quotients by one limb. -/
import Derived.Test.YtcdnonggajoghaaC3
namespace Go.Proofs.Ytcdnonggajoghaa
open Go Go.RowKit
set_option linter.unusedVariables false
set_option linter.unusedSimpArgs false
set_option maxRecDepth 100000

theorem clone_c (l : List Nat) (hl : l.length < 1000000000) : VCall EE 56 [natL l] [] fun v H => Fz H 0 [] v (natL l) := by
  refine VCall.of_body true Try.func56 rfl (by decide) rfl ?_
  repeat' ((conv => whnf); first | refine ngo ?_ | refine VB.tt ?_ | refine VB.ff ?_ | refine VNew.keep ?_ | refine dgo ?_ | refine sgo ?_ | fail)
  conv => whnf
  intro b hb
  repeat' ((conv => whnf); first | refine ngo ?_ | refine VB.tt ?_ | refine VB.ff ?_ | refine VNew.keep ?_ | refine dgo ?_ | refine sgo ?_ | fail)
  conv => whnf
  refine VB.mk (fun h => ?_) (fun h => ?_)
  · have : l = [] := by
      have := hb h
      cases l with
      | nil => rfl
      | cons x l => cases this
    subst this
    repeat' ((conv => whnf); first | refine ngo ?_ | refine VB.tt ?_ | refine VB.ff ?_ | refine VNew.keep ?_ | refine dgo ?_ | refine sgo ?_ | fail)
    conv => whnf
    exact .nsl
  · repeat' ((conv => whnf); first | refine ngo ?_ | refine VB.tt ?_ | refine VB.ff ?_ | refine VNew.keep ?_ | refine dgo ?_ | refine sgo ?_ | fail)
    conv => whnf
    exact .nat (Nat.zero_le _) (by simp) rfl (by rw [Nat.mul_one, Nat.zero_add]; exact List.take_of_length_le (by simp [limbs])) (by simp)

theorem small_own {a : List Nat} {d : Nat} (ha : okL a) (la : a.length < 100000000) (hd : 0 < d) (hd2 : d < BB) :
    VCall EE 57 [natL a, .int .u64 d] [] fun v H => ∃ l, okL l ∧ val l = val a / d ∧ H = [.cells 0 30 (limbs l)] ∧ v = .tup [.osl 0 0 0 (dg (val a / d)).length 1, .int .u64 ((val a % d : Nat) : Int)] := by
  refine VCall.of_body true Try.func57 rfl (by decide) rfl ?_
  repeat' ((conv => whnf); first | refine ngo ?_ | refine VB.tt ?_ | refine VB.ff ?_ | refine VNew.keep ?_ | refine dgo ?_ | refine sgo ?_ | fail)
  conv => whnf
  refine VLoop.ix true (fun x : Nat × List Nat × Nat => ⟨[(0, natL a), (1, .int .u64 d), (6, .osl 0 0 0 x.2.1.length 1), (7, .int .u64 x.2.2), (8, .int .i64 (x.1 - 1))], [.cells 0 30 (limbs x.2.1)], []⟩)
    (fun x => x.1 ≤ a.length ∧ x.2.1.length = a.length ∧ okL x.2.1 ∧ x.2.2 < d ∧ val (x.2.1.take x.1) = 0 ∧ val (x.2.1.drop x.1) * d + x.2.2 = val (a.drop x.1)) (fun x => x.1) (a.length, List.replicate a.length 0, 0)
    ⟨Nat.le_refl _, by simp, okL_zeros _, hd, by simp [val_zeros], by simp [val]⟩ ⟨⟨rfl, rfl, by simp [lk], rfl, rfl, trivial⟩, ?_, rfl⟩ ?_
  · show [AObj.cells 0 _ (reps _ _)] = _
    rw [Int.toNat_natCast]
    exact congrArg (fun x => [AObj.cells 0 30 x]) (limbs_zeros _)
  rintro ⟨i, l, r⟩ ⟨hi, hll, hok, hr, hz, hv⟩
  dsimp only at hi hll hok hr hz hv ⊢
  repeat' ((conv => whnf); first | refine ngo ?_ | refine VB.tt ?_ | refine VB.ff ?_ | refine VNew.keep ?_ | refine dgo ?_ | refine sgo ?_ | fail)
  conv => whnf
  refine VB.dec (fun h => ?_) (fun h => ?_)
  · obtain ⟨i, rfl⟩ : ∃ k, i = k + 1 := ⟨i - 1, by omega⟩
    have ei : (((i + 1 : Nat) : Int) - 1).toNat = i := by omega
    have hx := getD_lt ha i
    have hBB : BB = 1000000000 := rfl
    have g1 : getInt (List.drop ((((i + 1 : Nat) : Int) - 1).toNat * 1) (limbs a)) = ((a.getD i 0 : Nat) : Int) := by rw [ei, Nat.mul_one, getInt_limbs]
    generalize hxx : a.getD i 0 = x at *
    obtain ⟨n, hn⟩ : ∃ n, n = r * BB + x := ⟨_, rfl⟩
    have g0 : (r : Int) * 1000000000 + (x : Int) = (n : Int) := by rw [hn]; simp
    have hnd : n < d * BB := by
      rw [hn]
      have := Nat.mul_le_mul_right BB (show r + 1 ≤ d from hr)
      rw [Nat.add_mul] at this
      omega
    have hq : n / d < BB := Nat.div_lt_of_lt_mul hnd
    have hm := Nat.mod_lt n hd
    have hmd := Nat.mod_add_div n d
    have g5 := tdiv_nat n d
    have g6 := tmod_nat n d
    generalize n / d = q at *
    generalize n % d = r' at *
    repeat' ((conv => whnf); first | refine ngo ?_ | refine VB.tt ?_ | refine VB.ff ?_ | refine VNew.keep ?_ | refine dgo ?_ | refine sgo ?_ | fail)
    conv => whnf
    rw [g1]
    repeat' ((conv => whnf); first | refine ngo ?_ | refine VB.tt ?_ | refine VB.ff ?_ | refine VNew.keep ?_ | refine dgo ?_ | refine sgo ?_ | fail)
    conv => whnf
    rw [g0]
    refine VDraw.x true 9 3 ⟨[(0, natL a), (1, .int .u64 d), (6, .osl 0 0 0 l.length 1), (7, .int .u64 r'), (8, .int .i64 i)], [.cells 0 30 (limbs (l.set i q))], []⟩ mixed (by kernel_rfl) (by kernel_rfl) (by kernel_rfl) (by kernel_rfl) ?_ ?_
    · repeat' ((conv => whnf); first | refine ngo ?_ | refine VB.tt ?_ | refine VB.ff ?_ | refine VNew.keep ?_ | refine dgo ?_ | refine sgo ?_ | fail)
      conv => whnf
      rw [g5]
      repeat' ((conv => whnf); first | refine ngo ?_ | refine VB.tt ?_ | refine VB.ff ?_ | refine VNew.keep ?_ | refine dgo ?_ | refine sgo ?_ | fail)
      conv => whnf
      refine vall.one (i := 9) (by kernel_rfl) rfl ?_
      repeat' ((conv => whnf); first | refine ngo ?_ | refine VB.tt ?_ | refine VB.ff ?_ | refine VNew.keep ?_ | refine dgo ?_ | refine sgo ?_ | fail)
      conv => whnf
      refine vall.one (i := 10) (by kernel_rfl) rfl ?_
      repeat' ((conv => whnf); first | refine ngo ?_ | refine VB.tt ?_ | refine VB.ff ?_ | refine VNew.keep ?_ | refine dgo ?_ | refine sgo ?_ | fail)
      conv => whnf
      refine vall.one (i := 11) (by kernel_rfl) rfl ?_
      repeat' ((conv => whnf); first | refine ngo ?_ | refine VB.tt ?_ | refine VB.ff ?_ | refine VNew.keep ?_ | refine dgo ?_ | refine sgo ?_ | fail)
      conv => whnf
      refine ⟨⟨rfl, rfl, ?_, ?_, ?_, trivial⟩, ?_, rfl⟩
      · simp [lk]
      · simp [lk, g6]
      · simp [lk]
      · show [AObj.cells 0 _ (splice _ _ _)] = _
        rw [ei, Nat.zero_add, Nat.mul_one, splice_limbs (by omega)]
    · repeat' ((conv => whnf); first | refine ngo ?_ | refine VB.tt ?_ | refine VB.ff ?_ | refine VNew.keep ?_ | refine dgo ?_ | refine sgo ?_ | fail)
      conv => whnf
      refine ⟨(i, l.set i q, r'), ⟨by omega, by simpa using hll, okL_set hok _ hq, hm, ?_, ?_⟩, by dsimp only; omega, ⟨⟨rfl, rfl, ?_, rfl, rfl, trivial⟩, rfl, rfl⟩⟩
      · dsimp only
        rw [List.take_set_of_le (Nat.le_refl _)]
        rw [val_take_succ (by omega)] at hz
        omega
      · dsimp only
        have hz2 : l.getD i 0 = 0 := by
          rw [val_take_succ (by omega)] at hz
          have h1 : BB ^ i * l.getD i 0 = 0 := by omega
          exact (Nat.mul_eq_zero.1 h1).resolve_left (Nat.pos_iff_ne_zero.1 (Nat.pow_pos (by decide)))
        rw [List.drop_set, if_neg (by omega), Nat.sub_self, List.drop_eq_getElem_cons (by omega), List.set_cons_zero, val]
        rw [List.drop_eq_getElem_cons (l := a) (by omega), val, ← hv]
        have hxe : a[i] = x := by rw [← hxx]; simp [List.getD_eq_getElem?_getD, show i < a.length by omega]
        rw [hxe, Nat.add_mul, Nat.mul_add, Nat.mul_comm q d, Nat.mul_assoc BB]
        rw [Nat.mul_comm BB r]
        omega
      · simp [lk]
  · have : i = 0 := by omega
    subst this
    rw [List.drop_zero, List.drop_zero] at hv
    have hq : val l = val a / d := by rw [← hv, Nat.mul_comm, Nat.mul_add_div hd, Nat.div_eq_of_lt hr, Nat.add_zero]
    have hm : r = val a % d := by rw [← hv, Nat.mul_comm, Nat.mul_add_mod, Nat.mod_eq_of_lt hr]
    repeat' ((conv => whnf); first | refine ngo ?_ | refine VB.tt ?_ | refine VB.ff ?_ | refine VNew.keep ?_ | refine dgo ?_ | refine sgo ?_ | fail)
    conv => whnf
    refine (trim_own0 hok (by omega)).mono fun v H' hq => ?_
    obtain ⟨rfl, rfl⟩ := hq
    repeat' ((conv => whnf); first | refine ngo ?_ | refine VB.tt ?_ | refine VB.ff ?_ | refine VNew.keep ?_ | refine dgo ?_ | refine sgo ?_ | fail)
    conv => whnf
    exact ⟨l, hok, hq, rfl, by rw [hq, hm]⟩
end Go.Proofs.Ytcdnonggajoghaa
