/- Contracts: long division, the sum taken back. -/
import Derived.Test.YtcdnonggajoghaaC6a
namespace Go.Proofs.Ytcdnonggajoghaa
open Go Go.RowKit
set_option linter.unusedVariables false
set_option linter.unusedSimpArgs false
set_option maxRecDepth 100000

theorem back_loop {f n nA lq V v1 v2 v3 A i g : Nat} {u1 q : List Nat} (hc : DivC f n nA lq V v1 v2 v3 A) (hul1 : u1.length = nA + 2) (hu1 : okL u1) (hi : i + n < nA + 2) :
    VLoop EE Try.f32.ntmps none (nthLoop Try.f32 2) (fun e s => e = .exit 4 ∧ ∃ y : List Nat × Nat, (y.1.length = nA + 2 ∧ okL y.1 ∧ y.2 ≤ 1 ∧ (∀ k, k < i ∨ i + n ≤ k → y.1.getD k 0 = u1.getD k 0) ∧ seg y.1 i n + BB ^ n * y.2 = seg u1 i n + V) ∧
      Meets ⟨(18, .int .u64 y.2) :: (16, .int .u64 g) :: dFr f n nA lq V v1 v2 i, dHp y.1 q, []⟩ s)
      ⟨(18, .int .u64 (0 : Nat)) :: (150, .int .i64 n) :: (151, .int .i64 (0 : Nat)) :: (16, .int .u64 g) :: dFr f n nA lq V v1 v2 i, dHp u1 q, []⟩ := by
  have hn := hc.hn
  have hnn := hc.hnn
  have hnA := hc.hnA
  have hnA2 := hc.hnA2
  have hlq := hc.hlq
  have hVv := val_dg V
  have hBB : BB = 1000000000 := rfl
  refine VLoop.ix true (fun y : Nat × List Nat × Nat => ⟨(18, .int .u64 y.2.2) :: (150, .int .i64 n) :: (151, .int .i64 y.1) :: (16, .int .u64 g) :: dFr f n nA lq V v1 v2 i, dHp y.2.1 q, []⟩)
    (fun y => y.1 ≤ n ∧ y.2.1.length = nA + 2 ∧ okL y.2.1 ∧ y.2.2 ≤ 1 ∧ (∀ k, k < i ∨ i + y.1 ≤ k → y.2.1.getD k 0 = u1.getD k 0) ∧ seg y.2.1 i y.1 + BB ^ y.1 * y.2.2 = seg u1 i y.1 + val ((dg V).take y.1)) (fun y => n - y.1) (0, u1, 0)
    ⟨Nat.zero_le _, hul1, hu1, Nat.zero_le _, fun _ _ => rfl, by simp [seg_zero, val]⟩ ⟨⟨rfl, rfl, rfl, rfl, rfl, rfl, rfl, rfl, rfl, rfl, rfl, rfl, trivial⟩, rfl, rfl⟩ ?_
  rintro ⟨k, u2, c⟩ ⟨hk, hul2, hu2, hcc, hs2, heq2⟩
  dsimp only at hk hul2 hu2 hcc hs2 heq2 ⊢
  repeat' ((conv => whnf); first | refine ngo ?_ | refine VB.tt ?_ | refine VB.ff ?_ | refine VNew.keep ?_ | refine dgo ?_ | refine sgo ?_ | fail)
  conv => whnf
  refine VB.dec (fun hkn => ?_) (fun hkn => ?_)
  · have hx := getD_lt hu2 (i + k)
    have hy := getD_lt (canon_dg V).1 k
    have gy : getInt (List.drop ((k : Int).toNat * 1) (limbs (dg V))) = (((dg V).getD k 0 : Nat) : Int) := by rw [Int.toNat_natCast, Nat.mul_one, getInt_limbs]
    have ek : ((k : Int) + (i : Int)).toNat = i + k := by omega
    have gx : getInt (List.drop (0 + ((k : Int) + (i : Int)).toNat * 1) (limbs u2)) = ((u2.getD (i + k) 0 : Nat) : Int) := by rw [ek, Nat.zero_add, Nat.mul_one, getInt_limbs]
    have hux := hs2 (i + k) (.inr (Nat.le_refl _))
    have hs3 := seg_succ (l := u1) (j := i) (i := k) (by omega)
    have ht3 := val_take_succ (l := dg V) (i := k) (by omega)
    have hs4 := fun c' => seg_succ (l := u2.set (i + k) c') (j := i) (i := k) (by rw [List.length_set]; omega)
    rw [← hux] at hs3
    generalize hyy : (dg V).getD k 0 = y at *
    generalize hxx : u2.getD (i + k) 0 = x at *
    obtain ⟨sm, hsm⟩ : ∃ sm, sm = x + y + c := ⟨_, rfl⟩
    have g0 : (x : Int) + (y : Int) + (c : Int) = (sm : Int) := by omega
    have hmd := Nat.mod_add_div sm BB
    have hmm := Nat.mod_lt sm (show 0 < BB by decide)
    have hmq : sm / BB ≤ 1 := Nat.le_of_lt_succ (Nat.div_lt_of_lt_mul (by omega))
    have g5 := tdiv_BB sm
    have g6 := tmod_BB sm
    generalize sm / BB = sq at *
    generalize sm % BB = sr at *
    repeat' ((conv => whnf); first | refine ngo ?_ | refine VB.tt ?_ | refine VB.ff ?_ | refine VNew.keep ?_ | refine dgo ?_ | refine sgo ?_ | fail)
    conv => whnf
    rw [gx]
    repeat' ((conv => whnf); first | refine ngo ?_ | refine VB.tt ?_ | refine VB.ff ?_ | refine VNew.keep ?_ | refine dgo ?_ | refine sgo ?_ | fail)
    conv => whnf
    rw [gy]
    repeat' ((conv => whnf); first | refine ngo ?_ | refine VB.tt ?_ | refine VB.ff ?_ | refine VNew.keep ?_ | refine dgo ?_ | refine sgo ?_ | fail)
    conv => whnf
    rw [g0]
    repeat' ((conv => whnf); first | refine ngo ?_ | refine VB.tt ?_ | refine VB.ff ?_ | refine VNew.keep ?_ | refine dgo ?_ | refine sgo ?_ | fail)
    conv => whnf
    rw [g6]
    repeat' ((conv => whnf); first | refine ngo ?_ | refine VB.tt ?_ | refine VB.ff ?_ | refine VNew.keep ?_ | refine dgo ?_ | refine sgo ?_ | fail)
    conv => whnf
    refine ⟨(k + 1, u2.set (i + k) sr, sq), ⟨by dsimp only; omega, by dsimp only; rw [List.length_set]; omega, okL_set hu2 _ hmm, hmq, ?_, ?_⟩, by dsimp only; omega, ⟨⟨?_, rfl, ?_, rfl, rfl, rfl, rfl, rfl, rfl, rfl, rfl, rfl, trivial⟩, ?_, rfl⟩⟩
    · intro k' hk'
      dsimp only at hk' ⊢
      rw [getD_set_ne' (by omega)]
      exact hs2 k' (by omega)
    · dsimp only
      rw [hs4, seg_set (Nat.le_refl _), getD_set_eq (by omega), hs3, ht3, Nat.pow_succ, Nat.mul_assoc]
      have e1 : BB ^ k * sr + BB ^ k * (BB * sq) = BB ^ k * x + BB ^ k * y + BB ^ k * c := by
        rw [← Nat.mul_add, hmd, hsm, Nat.mul_add, Nat.mul_add]
      omega
    · simp [lk, g5]
    · simp [lk]
    · show [AObj.cells _ _ (splice _ _ _), _, _] = _
      rw [ek, Nat.zero_add, Nat.mul_one, splice_limbs (by omega)]
      rfl
  · have : k = n := by omega
    subst this
    rw [List.take_of_length_le (by omega), hVv] at heq2
    repeat' ((conv => whnf); first | refine ngo ?_ | refine VB.tt ?_ | refine VB.ff ?_ | refine VNew.keep ?_ | refine dgo ?_ | refine sgo ?_ | fail)
    conv => whnf
    exact ⟨(u2, c), ⟨hul2, hu2, hcc, hs2, heq2⟩, ⟨⟨rfl, rfl, rfl, rfl, rfl, rfl, rfl, rfl, rfl, rfl, trivial⟩, rfl, rfl⟩⟩
end Go.Proofs.Ytcdnonggajoghaa
