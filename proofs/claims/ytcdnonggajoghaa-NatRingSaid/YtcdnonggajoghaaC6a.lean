/- Contracts: long division. -/
import Derived.Test.YtcdnonggajoghaaM1
import Derived.Test.YtcdnonggajoghaaV7
namespace Go.Proofs.Ytcdnonggajoghaa
open Go Go.RowKit
set_option linter.unusedVariables false
set_option linter.unusedSimpArgs false
set_option maxRecDepth 100000

structure DivC (f n nA lq V v1 v2 v3 A : Nat) : Prop where
  hf1 : 1 ≤ f
  hf2 : f < BB
  hn : 2 ≤ n
  hnn : n = (dg V).length
  hnA : n ≤ nA
  hnA2 : nA < 20000000
  hlq : lq + n = nA + 2
  hv1 : v1 < BB
  hv10 : v1 ≠ 0
  hv2 : v2 < BB
  hsp : V = (v1 * BB + v2) * BB ^ (n - 2) + v3
  hv3 : v3 < BB ^ (n - 2)
  hV0 : 0 < V
  hVpow : V < BB ^ n

def dFr (f n nA lq V v1 v2 : Nat) (i : Int) : Fr := [(4, .osl 2 0 0 lq 1), (8, .int .u64 f), (9, .osl 0 1 0 (nA + 2) 1), (10, .dsl (limbs (dg V)) n), (11, .int .i64 n), (12, .int .u64 v1), (13, .int .u64 v2), (14, .int .i64 i)]
def dHp (u q : List Nat) : Heap := [.cells 1 30 (limbs u), .cells 0 30 [AV.int .u32 0, AV.int .u32 0], .cells 0 30 (limbs q)]

theorem guess_loop {f n nA lq V v1 v2 v3 A i gs rs top U x2 u3 : Nat} {u q : List Nat} (hc : DivC f n nA lq V v1 v2 v3 A) (hul : u.length = nA + 2) (hu : okL u) (hi : i + n < nA + 2)
    (hU : U = (top * BB + x2) * BB ^ (n - 2) + u3) (hu3 : u3 < BB ^ (n - 2)) (hx2 : x2 < BB) (hxx : u.getD (i + n - 2) 0 = x2) (htb : top < (v1 + 1) * BB) (htb2 : top < BB * BB)
    (hr0 : rs < v1) (hg0 : gs * v1 + rs = top) (hq0 : U / V ≤ gs) (hUV : U < V * BB) :
    VLoop EE Try.f32.ntmps none (nthLoop Try.f32 1) (fun e s => e = .exit 2 ∧ ∃ g : Nat, (g < BB ∧ U / V ≤ g ∧ g ≤ U / V + 1) ∧ Meets ⟨(16, .int .u64 g) :: dFr f n nA lq V v1 v2 i, dHp u q, []⟩ s)
      ⟨(16, .int .u64 gs) :: (17, .int .u64 rs) :: dFr f n nA lq V v1 v2 i, dHp u q, []⟩ := by
  have hP : 0 < BB ^ (n - 2) := Nat.pow_pos (by decide)
  have hv1 := hc.hv1
  have hv10 := hc.hv10
  have hv2 := hc.hv2
  have hn := hc.hn
  have hnA := hc.hnA
  have hnA2 := hc.hnA2
  have hlq := hc.hlq
  have hBB : BB = 1000000000 := rfl
  have hBB2 : BB * BB = 1000000000000000000 := rfl
  have ex2 : ((i : Int) + (n : Int) - 2).toNat = i + n - 2 := by omega
  have gx2 : getInt (List.drop (0 + ((i : Int) + (n : Int) - 2).toNat * 1) (limbs u)) = (x2 : Int) := by rw [ex2, Nat.zero_add, Nat.mul_one, getInt_limbs, hxx]
  refine VLoop.ix true (fun y : Nat × Nat => ⟨(16, .int .u64 y.1) :: (17, .int .u64 y.2) :: dFr f n nA lq V v1 v2 i, dHp u q, []⟩) (fun y => y.2 < BB ∧ y.1 * v1 + y.2 = top ∧ U / V ≤ y.1) (fun y => y.1) (gs, rs) ⟨by dsimp only; omega, hg0, hq0⟩
    ⟨⟨rfl, rfl, rfl, rfl, rfl, rfl, rfl, rfl, rfl, rfl, trivial⟩, rfl, rfl⟩ ?_
  rintro ⟨g, r⟩ ⟨hr, hg, hq⟩
  dsimp only at hr hg hq ⊢
  have hgt : g ≤ top := by have := Nat.le_mul_of_pos_right g (show 0 < v1 by omega); omega
  repeat' ((conv => whnf); first | refine ngo ?_ | refine VB.tt ?_ | refine VB.ff ?_ | refine VNew.keep ?_ | refine dgo ?_ | refine sgo ?_ | fail)
  conv => whnf
  by_cases hgb : (g : Int) ≥ 1000000000
  · rw [decide_eq_true hgb]
    have hstep : U / V ≤ g - 1 := by
      have h1 : U < (g - 1 + 1) * V := by
        have h2 : V * BB ≤ V * g := Nat.mul_le_mul_left _ (by omega)
        rw [show g - 1 + 1 = g by omega, Nat.mul_comm]
        omega
      exact Nat.le_of_lt_succ (Nat.div_lt_of_lt_mul (by rw [Nat.mul_comm]; exact h1))
    repeat' ((conv => whnf); first | refine ngo ?_ | refine VB.tt ?_ | refine VB.ff ?_ | refine VNew.keep ?_ | refine dgo ?_ | refine sgo ?_ | fail)
    conv => whnf
    refine VB.dec (fun hrb => ?_) (fun hrb => ?_)
    · have hg0 : g - 1 + 1 = g := by omega
      have hg' : (g - 1) * v1 + (r + v1) = top := by
        rw [← hg, ← hg0, Nat.add_mul, Nat.one_mul, Nat.add_sub_cancel]
        omega
      have h3 := kn_brk hg' htb (by omega) (by omega)
      have h4 := Nat.mul_le_mul (Nat.le_of_lt h3) (Nat.le_sub_one_of_lt hv2)
      have h5 : BB * BB ≤ (r + v1) * BB := Nat.mul_le_mul_right _ (by omega)
      have e4 : BB * (BB - 1) = 999999999000000000 := by decide
      have h6 := kn_last hc.hsp hU (by omega) (by decide) hP hc.hv3 hg' (by omega) h3
      repeat' ((conv => whnf); first | refine ngo ?_ | refine VB.tt ?_ | refine VB.ff ?_ | refine VNew.keep ?_ | refine dgo ?_ | refine sgo ?_ | fail)
      conv => whnf
      refine ⟨g - 1, ⟨h3, hstep, h6⟩, ⟨⟨by simp [lk]; omega, rfl, rfl, rfl, rfl, rfl, rfl, rfl, rfl, trivial⟩, rfl, rfl⟩⟩
    · repeat' ((conv => whnf); first | refine ngo ?_ | refine VB.tt ?_ | refine VB.ff ?_ | refine VNew.keep ?_ | refine dgo ?_ | refine sgo ?_ | fail)
      conv => whnf
      refine ⟨(g - 1, r + v1), ⟨by dsimp only; omega, ?_, hstep⟩, by dsimp only; omega, ⟨⟨by simp [lk]; omega, by simp [lk], rfl, rfl, rfl, rfl, rfl, rfl, rfl, rfl, trivial⟩, rfl, rfl⟩⟩
      dsimp only
      have hg0 : g - 1 + 1 = g := by omega
      rw [← hg, ← hg0, Nat.add_mul, Nat.one_mul, Nat.add_sub_cancel]
      omega
  · rw [decide_eq_false hgb]
    have hp1 := Nat.mul_le_mul (show g ≤ BB - 1 by omega) (Nat.le_sub_one_of_lt hv2)
    have e1 : (BB - 1) * (BB - 1) = 999999998000000001 := by decide
    repeat' ((conv => whnf); first | refine ngo ?_ | refine VB.tt ?_ | refine VB.ff ?_ | refine VNew.keep ?_ | refine dgo ?_ | refine sgo ?_ | fail)
    conv => whnf
    rw [gx2]
    repeat' ((conv => whnf); first | refine ngo ?_ | refine VB.tt ?_ | refine VB.ff ?_ | refine VNew.keep ?_ | refine dgo ?_ | refine sgo ?_ | fail)
    conv => whnf
    refine VB.dec (fun hgu => ?_) (fun hgu => ?_)
    · have hgu' : r * BB + x2 < g * v2 := by rw [hBB]; omega
      have hg1 : 0 < g := Nat.pos_of_ne_zero (by rintro rfl; simp at hgu')
      have h1 := kn_step hc.hsp hU hP hu3 hg hgu'
      have hstep : U / V ≤ g - 1 := by
        have h2 : U / V < g := Nat.div_lt_of_lt_mul (by rw [Nat.mul_comm]; exact h1)
        omega
      repeat' ((conv => whnf); first | refine ngo ?_ | refine VB.tt ?_ | refine VB.ff ?_ | refine VNew.keep ?_ | refine dgo ?_ | refine sgo ?_ | fail)
      conv => whnf
      refine VB.dec (fun hrb => ?_) (fun hrb => ?_)
      · have hg0 : g - 1 + 1 = g := by omega
        have hg' : (g - 1) * v1 + (r + v1) = top := by
          rw [← hg, ← hg0, Nat.add_mul, Nat.one_mul, Nat.add_sub_cancel]
          omega
        have h3 := kn_brk hg' htb (by omega) (by omega)
        have h4 := Nat.mul_le_mul (Nat.le_of_lt h3) (Nat.le_sub_one_of_lt hv2)
        have h5 : BB * BB ≤ (r + v1) * BB := Nat.mul_le_mul_right _ (by omega)
        have e4 : BB * (BB - 1) = 999999999000000000 := by decide
        have h6 := kn_last hc.hsp hU (by omega) (by decide) hP hc.hv3 hg' (by omega) h3
        repeat' ((conv => whnf); first | refine ngo ?_ | refine VB.tt ?_ | refine VB.ff ?_ | refine VNew.keep ?_ | refine dgo ?_ | refine sgo ?_ | fail)
        conv => whnf
        refine ⟨g - 1, ⟨h3, hstep, h6⟩, ⟨⟨by simp [lk]; omega, rfl, rfl, rfl, rfl, rfl, rfl, rfl, rfl, trivial⟩, rfl, rfl⟩⟩
      · repeat' ((conv => whnf); first | refine ngo ?_ | refine VB.tt ?_ | refine VB.ff ?_ | refine VNew.keep ?_ | refine dgo ?_ | refine sgo ?_ | fail)
        conv => whnf
        refine ⟨(g - 1, r + v1), ⟨by dsimp only; omega, ?_, hstep⟩, by dsimp only; omega, ⟨⟨by simp [lk]; omega, by simp [lk], rfl, rfl, rfl, rfl, rfl, rfl, rfl, rfl, trivial⟩, rfl, rfl⟩⟩
        dsimp only
        have hg0 : g - 1 + 1 = g := by omega
        rw [← hg, ← hg0, Nat.add_mul, Nat.one_mul, Nat.add_sub_cancel]
        omega
    · have hgu' : g * v2 ≤ r * BB + x2 := by rw [hBB]; omega
      have h1 := kn_last hc.hsp hU (by omega) (by decide) hP hc.hv3 hg hgu' (by omega)
      repeat' ((conv => whnf); first | refine ngo ?_ | refine VB.tt ?_ | refine VB.ff ?_ | refine VNew.keep ?_ | refine dgo ?_ | refine sgo ?_ | fail)
      conv => whnf
      refine ⟨g, ⟨by omega, hq, h1⟩, ⟨⟨rfl, rfl, rfl, rfl, rfl, rfl, rfl, rfl, rfl, trivial⟩, rfl, rfl⟩⟩
end Go.Proofs.Ytcdnonggajoghaa
