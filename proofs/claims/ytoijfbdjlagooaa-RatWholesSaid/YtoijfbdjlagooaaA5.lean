/- The program logic and the contracts that a law leans on, part 5. -/
import Derived.Test.YtoijfbdjlagooaaA4

/- Contracts: the reference's sums and powers; the law of sums. -/
namespace Go.Proofs.Ytoijfbdjlagooaa
open Go Go.RowKit
set_option linter.unusedVariables false
set_option linter.unusedSimpArgs false
set_option maxRecDepth 100000

theorem canon_push {l : List Nat} {r : Nat} (h : okL l) (hr : r < BB) (h0 : r ≠ 0) : canon (l ++ [r]) :=
  ⟨okL_append.2 ⟨h, by intro z hz; rw [List.mem_singleton.1 hz]; exact hr⟩, fun x hx => by simp at hx; omega⟩
theorem top_ne {a : List Nat} (ha : canon a) {i : Nat} (h : i + 1 = a.length) : a.getD i 0 ≠ 0 := ha.2 _ (by rw [List.getLast?_eq_getElem?, List.getD_eq_getElem?_getD, show a.length - 1 = i by omega, List.getElem?_eq_getElem (by omega)]; rfl)

def sndC (c : Code) : Code := match c with
  | .seq _ y => y
  | c => c
def pSt (a b : List Nat) (i : Nat) (l : List Nat) (c : Nat) : St := ⟨[(0, natL a), (1, natL b), (5, accV l), (6, .int .u32 c), (7, .int .i64 i)], accH 41 l, []⟩

set_option maxHeartbeats 2000000 in
theorem plus_round {a b l : List Nat} {i c : Nat} (ha : canon a) (hb : canon b) (la : a.length < 10000000) (lb : b.length < 10000000) (hi : i < max a.length b.length + 1) (hll : l.length = i) (hok : okL l) (hc : c ≤ 1)
    (hv : val l + BB ^ i * c = val (a.take i) + val (b.take i)) (hin : max a.length b.length ≤ i → 0 < c) {Q : Exit → St → Prop}
    (hQ : ∀ (s2 : St) (l' : List Nat) (q : Nat), l'.length = i + 1 → okL l' → q ≤ 1 → val l' + BB ^ (i + 1) * q = val (a.take (i + 1)) + val (b.take (i + 1)) → (max a.length b.length ≤ i + 1 → q = 0 → canon l') → (∃ σ, Trunc 0 σ s2 (pSt a b (i + 1) l' q)) → Q .normal s2) :
    vcode EE true Try.f97.ntmps none (sndC (nthLoop Try.f97 0)) Q (pSt a b i l c) := by
  have hBB : BB = 1000000000 := rfl
  have hx := getD_lt ha.1 i
  have hy := getD_lt hb.1 i
  have hta := val_take_any a i
  have htb := val_take_any b i
  have ga : getInt (List.drop ((i : Int).toNat * 1) (limbs a)) = ((a.getD i 0 : Nat) : Int) := by rw [Int.toNat_natCast, Nat.mul_one, getInt_limbs]
  have gb : getInt (List.drop ((i : Int).toNat * 1) (limbs b)) = ((b.getD i 0 : Nat) : Int) := by rw [Int.toNat_natCast, Nat.mul_one, getInt_limbs]
  have za : a.length ≤ i → 0 = a.getD i 0 := fun h => by simp [List.getD_eq_getElem?_getD, h]
  have zb : b.length ≤ i → 0 = b.getD i 0 := fun h => by simp [List.getD_eq_getElem?_getD, h]
  have hxt : i + 1 = a.length → a.getD i 0 ≠ 0 := fun h => top_ne ha h
  have hyt : i + 1 = b.length → b.getD i 0 ≠ 0 := fun h => top_ne hb h
  generalize a.getD i 0 = x at *
  generalize b.getD i 0 = y at *
  repeat' ((conv => whnf); first | refine ngo ?_ | refine VB.tt ?_ | refine VB.ff ?_ | refine VNew.keep ?_ | refine dgo ?_ | refine sgo ?_ | fail)
  conv => whnf
  refine VB.dec (fun h1 => ?_) (fun h1 => ?_)
  · repeat' ((conv => whnf); first | refine ngo ?_ | refine VB.tt ?_ | refine VB.ff ?_ | refine VNew.keep ?_ | refine dgo ?_ | refine sgo ?_ | fail)
    conv => whnf
    rw [ga]
    repeat' ((conv => whnf); first | refine ngo ?_ | refine VB.tt ?_ | refine VB.ff ?_ | refine VNew.keep ?_ | refine dgo ?_ | refine sgo ?_ | fail)
    conv => whnf
    refine VB.dec (fun h2 => ?_) (fun h2 => ?_)
    · repeat' ((conv => whnf); first | refine ngo ?_ | refine VB.tt ?_ | refine VB.ff ?_ | refine VNew.keep ?_ | refine dgo ?_ | refine sgo ?_ | fail)
      conv => whnf
      rw [gb]
      obtain ⟨n, hn⟩ : ∃ n, n = c + x + y := ⟨_, rfl⟩
      have g0 : (c : Int) + (x : Int) + (y : Int) = (n : Int) := by omega
      have hmd := Nat.mod_add_div n BB
      have hmm := Nat.mod_lt n (show 0 < BB by decide)
      have hmq : n / BB ≤ 1 := Nat.le_of_lt_succ (Nat.div_lt_of_lt_mul (by omega))
      have g5 := tdiv_BB n
      have g6 := tmod_BB n
      generalize n / BB = q at *
      generalize n % BB = r at *
      have hnv : val (l ++ [r]) + BB ^ (i + 1) * q = val (a.take (i + 1)) + val (b.take (i + 1)) := by
        rw [val_append, hta, htb, hll, Nat.pow_succ, Nat.mul_assoc]
        simp only [val, Nat.mul_zero, Nat.add_zero]
        have e1 : BB ^ i * r + BB ^ i * (BB * q) = BB ^ i * c + BB ^ i * x + BB ^ i * y := by
          rw [← Nat.mul_add, hmd, hn, Nat.mul_add, Nat.mul_add]
        omega
      have hnok : okL (l ++ [r]) := okL_append.2 ⟨hok, by intro z hz; rw [List.mem_singleton.1 hz]; exact hmm⟩
      have hcan' : max a.length b.length ≤ i + 1 → q = 0 → canon (l ++ [r]) := fun h1 h2 => by
        subst h2
        refine canon_push hok hmm ?_
        have h3 : i + 1 = a.length ∨ i + 1 = b.length ∨ max a.length b.length ≤ i := by omega
        rcases h3 with h3 | h3 | h3
        · have := hxt h3; omega
        · have := hyt h3; omega
        · have := hin; omega
      repeat' ((conv => whnf); first | refine ngo ?_ | refine VB.tt ?_ | refine VB.ff ?_ | refine VNew.keep ?_ | refine dgo ?_ | refine sgo ?_ | fail)
      conv => whnf
      rw [g0]
      cases l with
      | nil =>
        repeat' ((conv => whnf); first | refine ngo ?_ | refine VB.tt ?_ | refine VB.ff ?_ | refine VNew.keep ?_ | refine dgo ?_ | refine sgo ?_ | fail)
        conv => whnf
        rw [g6]
        repeat' ((conv => whnf); first | refine ngo ?_ | refine VB.tt ?_ | refine VB.ff ?_ | refine VNew.keep ?_ | refine dgo ?_ | refine sgo ?_ | fail)
        conv => whnf
        refine hQ _ [r] q (by simp at hll ⊢; omega) hnok hmq hnv hcan' ⟨[1], by simp, by simp, ⟨⟨_, rfl, .cells rfl (FzL.same rfl (low_limbs _ [r]))⟩, trivial⟩, ⟨⟨_, rfl, .same rfl (low_natL _ _)⟩, ⟨_, rfl, .same rfl (low_natL _ _)⟩, ⟨_, rfl, .kosl (j := 0) rfl rfl rfl rfl⟩, ⟨_, rfl, .same (by rw [g5]) trivial⟩, ⟨_, rfl, .same (by simp) trivial⟩, trivial⟩, rfl, by simp [pSt]⟩
      | cons z l =>
        simp only [List.length_cons] at hll
        repeat' ((conv => whnf); first | refine ngo ?_ | refine VB.tt ?_ | refine VB.ff ?_ | refine VNew.keep ?_ | refine dgo ?_ | refine sgo ?_ | fail)
        conv => whnf
        rw [g6]
        repeat' ((conv => whnf); first | refine ngo ?_ | refine VB.tt ?_ | refine VB.ff ?_ | refine VNew.keep ?_ | refine dgo ?_ | refine sgo ?_ | fail)
        conv => whnf
        refine hQ _ (z :: l ++ [r]) q (by simp at hll ⊢; omega) hnok hmq hnv hcan' ⟨[0], by simp, by simp, ⟨⟨_, rfl, .cells (by simp) (FzL.same ?_ (low_limbs _ (z :: l ++ [r])))⟩, trivial⟩, ⟨⟨_, rfl, .same rfl (low_natL _ _)⟩, ⟨_, rfl, .same rfl (low_natL _ _)⟩, ⟨_, rfl, .kosl (j := 0) rfl rfl (by simp) (by simp)⟩, ⟨_, rfl, .same (by rw [g5]) trivial⟩, ⟨_, rfl, .same (by simp) trivial⟩, trivial⟩, rfl, by simp [pSt]⟩
        rw [Nat.mul_one, List.take_of_length_le (by simp [limbs])]
        simp [limbs]
    · have hy0 := zb (by omega)
      obtain ⟨n, hn⟩ : ∃ n, n = c + x + y := ⟨_, rfl⟩
      have g0 : (c : Int) + (x : Int) = (n : Int) := by omega
      have hmd := Nat.mod_add_div n BB
      have hmm := Nat.mod_lt n (show 0 < BB by decide)
      have hmq : n / BB ≤ 1 := Nat.le_of_lt_succ (Nat.div_lt_of_lt_mul (by omega))
      have g5 := tdiv_BB n
      have g6 := tmod_BB n
      generalize n / BB = q at *
      generalize n % BB = r at *
      have hnv : val (l ++ [r]) + BB ^ (i + 1) * q = val (a.take (i + 1)) + val (b.take (i + 1)) := by
        rw [val_append, hta, htb, hll, Nat.pow_succ, Nat.mul_assoc]
        simp only [val, Nat.mul_zero, Nat.add_zero]
        have e1 : BB ^ i * r + BB ^ i * (BB * q) = BB ^ i * c + BB ^ i * x + BB ^ i * y := by
          rw [← Nat.mul_add, hmd, hn, Nat.mul_add, Nat.mul_add]
        omega
      have hnok : okL (l ++ [r]) := okL_append.2 ⟨hok, by intro z hz; rw [List.mem_singleton.1 hz]; exact hmm⟩
      have hcan' : max a.length b.length ≤ i + 1 → q = 0 → canon (l ++ [r]) := fun h1 h2 => by
        subst h2
        refine canon_push hok hmm ?_
        have h3 : i + 1 = a.length ∨ i + 1 = b.length ∨ max a.length b.length ≤ i := by omega
        rcases h3 with h3 | h3 | h3
        · have := hxt h3; omega
        · have := hyt h3; omega
        · have := hin; omega
      repeat' ((conv => whnf); first | refine ngo ?_ | refine VB.tt ?_ | refine VB.ff ?_ | refine VNew.keep ?_ | refine dgo ?_ | refine sgo ?_ | fail)
      conv => whnf
      rw [g0]
      cases l with
      | nil =>
        repeat' ((conv => whnf); first | refine ngo ?_ | refine VB.tt ?_ | refine VB.ff ?_ | refine VNew.keep ?_ | refine dgo ?_ | refine sgo ?_ | fail)
        conv => whnf
        rw [g6]
        repeat' ((conv => whnf); first | refine ngo ?_ | refine VB.tt ?_ | refine VB.ff ?_ | refine VNew.keep ?_ | refine dgo ?_ | refine sgo ?_ | fail)
        conv => whnf
        refine hQ _ [r] q (by simp at hll ⊢; omega) hnok hmq hnv hcan' ⟨[1], by simp, by simp, ⟨⟨_, rfl, .cells rfl (FzL.same rfl (low_limbs _ [r]))⟩, trivial⟩, ⟨⟨_, rfl, .same rfl (low_natL _ _)⟩, ⟨_, rfl, .same rfl (low_natL _ _)⟩, ⟨_, rfl, .kosl (j := 0) rfl rfl rfl rfl⟩, ⟨_, rfl, .same (by rw [g5]) trivial⟩, ⟨_, rfl, .same (by simp) trivial⟩, trivial⟩, rfl, by simp [pSt]⟩
      | cons z l =>
        simp only [List.length_cons] at hll
        repeat' ((conv => whnf); first | refine ngo ?_ | refine VB.tt ?_ | refine VB.ff ?_ | refine VNew.keep ?_ | refine dgo ?_ | refine sgo ?_ | fail)
        conv => whnf
        rw [g6]
        repeat' ((conv => whnf); first | refine ngo ?_ | refine VB.tt ?_ | refine VB.ff ?_ | refine VNew.keep ?_ | refine dgo ?_ | refine sgo ?_ | fail)
        conv => whnf
        refine hQ _ (z :: l ++ [r]) q (by simp at hll ⊢; omega) hnok hmq hnv hcan' ⟨[0], by simp, by simp, ⟨⟨_, rfl, .cells (by simp) (FzL.same ?_ (low_limbs _ (z :: l ++ [r])))⟩, trivial⟩, ⟨⟨_, rfl, .same rfl (low_natL _ _)⟩, ⟨_, rfl, .same rfl (low_natL _ _)⟩, ⟨_, rfl, .kosl (j := 0) rfl rfl (by simp) (by simp)⟩, ⟨_, rfl, .same (by rw [g5]) trivial⟩, ⟨_, rfl, .same (by simp) trivial⟩, trivial⟩, rfl, by simp [pSt]⟩
        rw [Nat.mul_one, List.take_of_length_le (by simp [limbs])]
        simp [limbs]
  · have hx0 := za (by omega)
    repeat' ((conv => whnf); first | refine ngo ?_ | refine VB.tt ?_ | refine VB.ff ?_ | refine VNew.keep ?_ | refine dgo ?_ | refine sgo ?_ | fail)
    conv => whnf
    refine VB.dec (fun h2 => ?_) (fun h2 => ?_)
    · repeat' ((conv => whnf); first | refine ngo ?_ | refine VB.tt ?_ | refine VB.ff ?_ | refine VNew.keep ?_ | refine dgo ?_ | refine sgo ?_ | fail)
      conv => whnf
      rw [gb]
      obtain ⟨n, hn⟩ : ∃ n, n = c + x + y := ⟨_, rfl⟩
      have g0 : (c : Int) + (y : Int) = (n : Int) := by omega
      have hmd := Nat.mod_add_div n BB
      have hmm := Nat.mod_lt n (show 0 < BB by decide)
      have hmq : n / BB ≤ 1 := Nat.le_of_lt_succ (Nat.div_lt_of_lt_mul (by omega))
      have g5 := tdiv_BB n
      have g6 := tmod_BB n
      generalize n / BB = q at *
      generalize n % BB = r at *
      have hnv : val (l ++ [r]) + BB ^ (i + 1) * q = val (a.take (i + 1)) + val (b.take (i + 1)) := by
        rw [val_append, hta, htb, hll, Nat.pow_succ, Nat.mul_assoc]
        simp only [val, Nat.mul_zero, Nat.add_zero]
        have e1 : BB ^ i * r + BB ^ i * (BB * q) = BB ^ i * c + BB ^ i * x + BB ^ i * y := by
          rw [← Nat.mul_add, hmd, hn, Nat.mul_add, Nat.mul_add]
        omega
      have hnok : okL (l ++ [r]) := okL_append.2 ⟨hok, by intro z hz; rw [List.mem_singleton.1 hz]; exact hmm⟩
      have hcan' : max a.length b.length ≤ i + 1 → q = 0 → canon (l ++ [r]) := fun h1 h2 => by
        subst h2
        refine canon_push hok hmm ?_
        have h3 : i + 1 = a.length ∨ i + 1 = b.length ∨ max a.length b.length ≤ i := by omega
        rcases h3 with h3 | h3 | h3
        · have := hxt h3; omega
        · have := hyt h3; omega
        · have := hin; omega
      repeat' ((conv => whnf); first | refine ngo ?_ | refine VB.tt ?_ | refine VB.ff ?_ | refine VNew.keep ?_ | refine dgo ?_ | refine sgo ?_ | fail)
      conv => whnf
      rw [g0]
      cases l with
      | nil =>
        repeat' ((conv => whnf); first | refine ngo ?_ | refine VB.tt ?_ | refine VB.ff ?_ | refine VNew.keep ?_ | refine dgo ?_ | refine sgo ?_ | fail)
        conv => whnf
        rw [g6]
        repeat' ((conv => whnf); first | refine ngo ?_ | refine VB.tt ?_ | refine VB.ff ?_ | refine VNew.keep ?_ | refine dgo ?_ | refine sgo ?_ | fail)
        conv => whnf
        refine hQ _ [r] q (by simp at hll ⊢; omega) hnok hmq hnv hcan' ⟨[1], by simp, by simp, ⟨⟨_, rfl, .cells rfl (FzL.same rfl (low_limbs _ [r]))⟩, trivial⟩, ⟨⟨_, rfl, .same rfl (low_natL _ _)⟩, ⟨_, rfl, .same rfl (low_natL _ _)⟩, ⟨_, rfl, .kosl (j := 0) rfl rfl rfl rfl⟩, ⟨_, rfl, .same (by rw [g5]) trivial⟩, ⟨_, rfl, .same (by simp) trivial⟩, trivial⟩, rfl, by simp [pSt]⟩
      | cons z l =>
        simp only [List.length_cons] at hll
        repeat' ((conv => whnf); first | refine ngo ?_ | refine VB.tt ?_ | refine VB.ff ?_ | refine VNew.keep ?_ | refine dgo ?_ | refine sgo ?_ | fail)
        conv => whnf
        rw [g6]
        repeat' ((conv => whnf); first | refine ngo ?_ | refine VB.tt ?_ | refine VB.ff ?_ | refine VNew.keep ?_ | refine dgo ?_ | refine sgo ?_ | fail)
        conv => whnf
        refine hQ _ (z :: l ++ [r]) q (by simp at hll ⊢; omega) hnok hmq hnv hcan' ⟨[0], by simp, by simp, ⟨⟨_, rfl, .cells (by simp) (FzL.same ?_ (low_limbs _ (z :: l ++ [r])))⟩, trivial⟩, ⟨⟨_, rfl, .same rfl (low_natL _ _)⟩, ⟨_, rfl, .same rfl (low_natL _ _)⟩, ⟨_, rfl, .kosl (j := 0) rfl rfl (by simp) (by simp)⟩, ⟨_, rfl, .same (by rw [g5]) trivial⟩, ⟨_, rfl, .same (by simp) trivial⟩, trivial⟩, rfl, by simp [pSt]⟩
        rw [Nat.mul_one, List.take_of_length_le (by simp [limbs])]
        simp [limbs]
    · have hy0 := zb (by omega)
      obtain ⟨n, hn⟩ : ∃ n, n = c + x + y := ⟨_, rfl⟩
      have hnc : c = n := by omega
      have hmd := Nat.mod_add_div n BB
      have hmm := Nat.mod_lt n (show 0 < BB by decide)
      have hmq : n / BB ≤ 1 := Nat.le_of_lt_succ (Nat.div_lt_of_lt_mul (by omega))
      have g5 := tdiv_BB n
      have g6 := tmod_BB n
      generalize n / BB = q at *
      generalize n % BB = r at *
      have hnv : val (l ++ [r]) + BB ^ (i + 1) * q = val (a.take (i + 1)) + val (b.take (i + 1)) := by
        rw [val_append, hta, htb, hll, Nat.pow_succ, Nat.mul_assoc]
        simp only [val, Nat.mul_zero, Nat.add_zero]
        have e1 : BB ^ i * r + BB ^ i * (BB * q) = BB ^ i * c + BB ^ i * x + BB ^ i * y := by
          rw [← Nat.mul_add, hmd, hn, Nat.mul_add, Nat.mul_add]
        omega
      have hnok : okL (l ++ [r]) := okL_append.2 ⟨hok, by intro z hz; rw [List.mem_singleton.1 hz]; exact hmm⟩
      have hcan' : max a.length b.length ≤ i + 1 → q = 0 → canon (l ++ [r]) := fun h1 h2 => by
        subst h2
        refine canon_push hok hmm ?_
        have h3 : i + 1 = a.length ∨ i + 1 = b.length ∨ max a.length b.length ≤ i := by omega
        rcases h3 with h3 | h3 | h3
        · have := hxt h3; omega
        · have := hyt h3; omega
        · have := hin; omega
      repeat' ((conv => whnf); first | refine ngo ?_ | refine VB.tt ?_ | refine VB.ff ?_ | refine VNew.keep ?_ | refine dgo ?_ | refine sgo ?_ | fail)
      conv => whnf
      rw [hnc]
      cases l with
      | nil =>
        repeat' ((conv => whnf); first | refine ngo ?_ | refine VB.tt ?_ | refine VB.ff ?_ | refine VNew.keep ?_ | refine dgo ?_ | refine sgo ?_ | fail)
        conv => whnf
        rw [g6]
        repeat' ((conv => whnf); first | refine ngo ?_ | refine VB.tt ?_ | refine VB.ff ?_ | refine VNew.keep ?_ | refine dgo ?_ | refine sgo ?_ | fail)
        conv => whnf
        refine hQ _ [r] q (by simp at hll ⊢; omega) hnok hmq hnv hcan' ⟨[1], by simp, by simp, ⟨⟨_, rfl, .cells rfl (FzL.same rfl (low_limbs _ [r]))⟩, trivial⟩, ⟨⟨_, rfl, .same rfl (low_natL _ _)⟩, ⟨_, rfl, .same rfl (low_natL _ _)⟩, ⟨_, rfl, .kosl (j := 0) rfl rfl rfl rfl⟩, ⟨_, rfl, .same (by rw [g5]) trivial⟩, ⟨_, rfl, .same (by simp) trivial⟩, trivial⟩, rfl, by simp [pSt]⟩
      | cons z l =>
        simp only [List.length_cons] at hll
        repeat' ((conv => whnf); first | refine ngo ?_ | refine VB.tt ?_ | refine VB.ff ?_ | refine VNew.keep ?_ | refine dgo ?_ | refine sgo ?_ | fail)
        conv => whnf
        rw [g6]
        repeat' ((conv => whnf); first | refine ngo ?_ | refine VB.tt ?_ | refine VB.ff ?_ | refine VNew.keep ?_ | refine dgo ?_ | refine sgo ?_ | fail)
        conv => whnf
        refine hQ _ (z :: l ++ [r]) q (by simp at hll ⊢; omega) hnok hmq hnv hcan' ⟨[0], by simp, by simp, ⟨⟨_, rfl, .cells (by simp) (FzL.same ?_ (low_limbs _ (z :: l ++ [r])))⟩, trivial⟩, ⟨⟨_, rfl, .same rfl (low_natL _ _)⟩, ⟨_, rfl, .same rfl (low_natL _ _)⟩, ⟨_, rfl, .kosl (j := 0) rfl rfl (by simp) (by simp)⟩, ⟨_, rfl, .same (by rw [g5]) trivial⟩, ⟨_, rfl, .same (by simp) trivial⟩, trivial⟩, rfl, by simp [pSt]⟩
        rw [Nat.mul_one, List.take_of_length_le (by simp [limbs])]
        simp [limbs]

set_option maxHeartbeats 1000000 in
theorem rplus_c {a b : List Nat} (ha : canon a) (hb : canon b) (la : a.length < 10000000) (lb : b.length < 10000000) :
    VCall EE 97 [natL a, natL b] [] fun v H => Fz H 0 [] v (natv (val a + val b)) := by
  refine VCall.of_body true Try.func97 rfl (by decide) rfl ?_
  repeat' ((conv => whnf); first | refine ngo ?_ | refine VB.tt ?_ | refine VB.ff ?_ | refine VNew.keep ?_ | refine dgo ?_ | refine sgo ?_ | fail)
  conv => whnf
  refine VLoop.tr true (fun x : Nat × List Nat × Nat => pSt a b x.1 x.2.1 x.2.2)
    (fun x => x.1 ≤ max a.length b.length + 1 ∧ x.2.1.length = x.1 ∧ okL x.2.1 ∧ x.2.2 ≤ 1 ∧ val x.2.1 + BB ^ x.1 * x.2.2 = val (a.take x.1) + val (b.take x.1) ∧ (max a.length b.length ≤ x.1 → x.2.2 = 0 → canon x.2.1)) (fun x => max a.length b.length + 2 - x.1) (0, [], 0)
    ⟨Nat.zero_le _, rfl, by intro x hx; simp at hx, Nat.zero_le _, by simp [val], fun _ _ => ⟨by intro x hx; simp at hx, fun x hx => by simp at hx⟩⟩ ⟨⟨rfl, rfl, rfl, rfl, rfl, trivial⟩, rfl, rfl⟩ ?_
  rintro ⟨i, l, c⟩ ⟨hi, hll, hok, hc, hv, hcan⟩
  dsimp only at hi hll hok hc hv hcan ⊢
  have hc0 : max a.length b.length + 1 ≤ i → c = 0 := fun h => by
    rcases Nat.eq_zero_or_pos c with h0 | h0
    · exact h0
    · exfalso
      have h1 : c = 1 := by omega
      subst h1
      rw [List.take_of_length_le (by omega), List.take_of_length_le (by omega)] at hv
      have h2 := val_lt ha.1
      have h3 := val_lt hb.1
      obtain ⟨j, rfl⟩ : ∃ j, i = j + 1 := ⟨i - 1, by omega⟩
      have h4 : BB ^ a.length ≤ BB ^ j := Nat.pow_le_pow_right (by decide) (by omega)
      have h5 : BB ^ b.length ≤ BB ^ j := Nat.pow_le_pow_right (by decide) (by omega)
      rw [Nat.pow_succ, Nat.mul_one] at hv
      have h6 : BB ^ j * 2 ≤ BB ^ j * BB := Nat.mul_le_mul_left _ (by decide)
      omega
  repeat' ((conv => whnf); first | refine ngo ?_ | refine VB.tt ?_ | refine VB.ff ?_ | refine VNew.keep ?_ | refine dgo ?_ | refine sgo ?_ | fail)
  conv => whnf
  by_cases h1 : (i : Int) < (a.length : Int)
  · rw [decide_eq_true h1]
    repeat' ((conv => whnf); first | refine VB.tt ?_ | refine VB.ff ?_ | refine VNew.keep ?_ | refine dgo ?_ | refine sgo ?_ | fail)
    conv => whnf
    refine VNext.go true ?_
    repeat' ((conv => whnf); first | refine VB.tt ?_ | refine VB.ff ?_ | refine VNew.keep ?_ | refine dgo ?_ | refine sgo ?_ | fail)
    conv => whnf
    refine VNext.at_ true (pSt a b i l c) ⟨⟨rfl, rfl, rfl, rfl, rfl, trivial⟩, rfl, rfl⟩ (plus_round ha hb la lb (by omega) hll hok hc hv (fun h => by omega) fun s2 l' q e1 e2 e3 e4 e5 ht => ⟨(i + 1, l', q), ⟨by dsimp only; omega, e1, e2, e3, e4, e5⟩, by dsimp only; omega, ht⟩)
  rw [decide_eq_false h1]
  repeat' ((conv => whnf); first | refine ngo ?_ | refine VB.tt ?_ | refine VB.ff ?_ | refine VNew.keep ?_ | refine dgo ?_ | refine sgo ?_ | fail)
  conv => whnf
  by_cases h2 : (i : Int) < (b.length : Int)
  · rw [decide_eq_true h2]
    repeat' ((conv => whnf); first | refine VB.tt ?_ | refine VB.ff ?_ | refine VNew.keep ?_ | refine dgo ?_ | refine sgo ?_ | fail)
    conv => whnf
    refine VNext.go true ?_
    repeat' ((conv => whnf); first | refine VB.tt ?_ | refine VB.ff ?_ | refine VNew.keep ?_ | refine dgo ?_ | refine sgo ?_ | fail)
    conv => whnf
    refine VNext.at_ true (pSt a b i l c) ⟨⟨rfl, rfl, rfl, rfl, rfl, trivial⟩, rfl, rfl⟩ (plus_round ha hb la lb (by omega) hll hok hc hv (fun h => by omega) fun s2 l' q e1 e2 e3 e4 e5 ht => ⟨(i + 1, l', q), ⟨by dsimp only; omega, e1, e2, e3, e4, e5⟩, by dsimp only; omega, ht⟩)
  rw [decide_eq_false h2]
  repeat' ((conv => whnf); first | refine ngo ?_ | refine VB.tt ?_ | refine VB.ff ?_ | refine VNew.keep ?_ | refine dgo ?_ | refine sgo ?_ | fail)
  conv => whnf
  refine VB.dec (fun h3 => ?_) (fun h3 => ?_)
  · have hi' : i < max a.length b.length + 1 := by
      apply Nat.lt_of_not_le
      intro hh
      have := hc0 hh
      omega
    repeat' ((conv => whnf); first | refine VB.tt ?_ | refine VB.ff ?_ | refine VNew.keep ?_ | refine dgo ?_ | refine sgo ?_ | fail)
    conv => whnf
    refine VNext.at_ true (pSt a b i l c) ⟨⟨rfl, rfl, rfl, rfl, rfl, trivial⟩, rfl, rfl⟩ (plus_round ha hb la lb (by omega) hll hok hc hv (fun h => by omega) fun s2 l' q e1 e2 e3 e4 e5 ht => ⟨(i + 1, l', q), ⟨by dsimp only; omega, e1, e2, e3, e4, e5⟩, by dsimp only; omega, ht⟩)
  · have h4 : c = 0 := by omega
    subst h4
    rw [List.take_of_length_le (by omega), List.take_of_length_le (by omega), Nat.mul_zero, Nat.add_zero] at hv
    have hcl := hcan (by omega) rfl
    have e : natv (val a + val b) = natL l := by rw [← hv, natv_of hcl]
    rw [e]
    cases l with
    | nil =>
      repeat' ((conv => whnf); first | refine ngo ?_ | refine VB.tt ?_ | refine VB.ff ?_ | refine VNew.keep ?_ | refine dgo ?_ | refine sgo ?_ | fail)
      conv => whnf
      exact .nsl
    | cons z l =>
      repeat' ((conv => whnf); first | refine ngo ?_ | refine VB.tt ?_ | refine VB.ff ?_ | refine VNew.keep ?_ | refine dgo ?_ | refine sgo ?_ | fail)
      conv => whnf
      exact accV_fz 41 (z :: l)
end Go.Proofs.Ytoijfbdjlagooaa


/- Contracts: the document's fractions. -/
namespace Go.Proofs.Ytoijfbdjlagooaa
open Go Go.RowKit
set_option linter.unusedVariables false
set_option linter.unusedSimpArgs false
set_option maxRecDepth 100000

theorem rorder_n {a b : Nat} (la : (dg a).length < 1000000000) (lb : (dg b).length < 1000000000) : VCall EE 98 [natv a, natv b] [] fun v H => v = .int .i64 (cmpN a b) := by
  have h := rorder_c (canon_dg a) (canon_dg b) la lb
  rw [val_dg, val_dg] at h
  exact h
theorem rplus_n {a b : Nat} (la : (dg a).length < 10000000) (lb : (dg b).length < 10000000) : VCall EE 97 [natv a, natv b] [] fun v H => Fz H 0 [] v (natv (a + b)) := by
  have h := rplus_c (canon_dg a) (canon_dg b) la lb
  rw [val_dg, val_dg] at h
  exact h

theorem slowest_c {neg : Bool} {n d : Nat} (hd : d ≠ 0) (ln : (dg n).length < 8000000) (ld : (dg d).length < 8000000) : VCall EE 84 [.bool neg, natv n, natv d] [] fun v H => Fz H 0 [] v (ratV (mkQ neg n d)) := by
  refine VCall.of_body true Try.func84 rfl (by decide) rfl ?_
  repeat' ((conv => whnf); first | refine ngo ?_ | refine VB.tt ?_ | refine VB.ff ?_ | refine VNew.keep ?_ | refine dgo ?_ | refine sgo ?_ | fail)
  conv => whnf
  refine VB.eq (fun h => ?_) (fun h => ?_)
  · obtain rfl := len_dg_zero h
    repeat' ((conv => whnf); first | refine ngo ?_ | refine VB.tt ?_ | refine VB.ff ?_ | refine dgo ?_ | refine sgo ?_ | fail)
    conv => whnf
    refine VNew.dat (cs' := limbs [1]) rfl rfl ?_
    repeat' ((conv => whnf); first | refine ngo ?_ | refine VB.tt ?_ | refine VB.ff ?_ | refine VNew.keep ?_ | refine dgo ?_ | refine sgo ?_ | fail)
    conv => whnf
    rw [mkQ_zero, ratV_zero']
    exact .agg (.cons (.same rfl trivial) (.cons .nsl (.cons (.same rfl (low_limbs 0 [1])) .nil)))
  · have hn := len_dg_ne h
    have hg := gcd_pos_of (n := n) hd
    have lg : (dg (Nat.gcd n d)).length ≤ (dg d).length := dg_length_mono (Nat.le_of_dvd (Nat.pos_of_ne_zero hd) (Nat.gcd_dvd_right n d))
    repeat' ((conv => whnf); first | refine ngo ?_ | refine VB.tt ?_ | refine VB.ff ?_ | refine VNew.keep ?_ | refine dgo ?_ | refine sgo ?_ | fail)
    conv => whnf
    refine VCall.sq (rcommon_n (by omega) (by omega)) ?_
    repeat' ((conv => whnf); first | refine ngo ?_ | refine VB.tt ?_ | refine VB.ff ?_ | refine VNew.keep ?_ | refine dgo ?_ | refine sgo ?_ | fail)
    conv => whnf
    refine VCall.iq (over_n hg (by omega) (by omega)) ?_
    repeat' ((conv => whnf); first | refine ngo ?_ | refine VB.tt ?_ | refine VB.ff ?_ | refine VNew.keep ?_ | refine dgo ?_ | refine sgo ?_ | fail)
    conv => whnf
    refine VCall.iq (over_n hg (by omega) (by omega)) ?_
    repeat' ((conv => whnf); first | refine ngo ?_ | refine VB.tt ?_ | refine VB.ff ?_ | refine VNew.keep ?_ | refine dgo ?_ | refine sgo ?_ | fail)
    conv => whnf
    rw [ratV_mkQ hd hn]
    exact .same rfl ⟨trivial, low_natv 0 _, low_natv 0 _, trivial⟩


theorem ssize_c (n : Int) (h1 : -9223372036854775808 ≤ n) (h2 : n < 9223372036854775808) : VCall EE 106 [.int .i64 n] [] fun v H => Fz H 0 [] v (natv n.natAbs) := by
  refine VCall.of_body true Try.func106 rfl (by decide) rfl ?_
  repeat' ((conv => whnf); first | refine ngo ?_ | refine VB.tt ?_ | refine VB.ff ?_ | refine VNew.keep ?_ | refine dgo ?_ | refine sgo ?_ | fail)
  conv => whnf
  refine VLoop.tr true (fun x : List Nat × Int => ⟨[(0, .int .i64 x.2), (3, accV x.1)], accH 41 x.1, []⟩) (fun x => (-9223372036854775808 ≤ x.2 ∧ x.2 < 9223372036854775808) ∧ x.1 ++ dg x.2.natAbs = dg n.natAbs) (fun x => x.2.natAbs) ([], n) ⟨⟨h1, h2⟩, rfl⟩ ⟨⟨rfl, rfl, trivial⟩, rfl, rfl⟩ ?_
  rintro ⟨l, r⟩ ⟨hr, he⟩
  dsimp only at hr he ⊢
  have hl : l.length < 1000000 := by
    have h1 := congrArg List.length he
    have h2 := len_natAbs (n := n) (by assumption) (by assumption)
    rw [List.length_append] at h1
    omega
  repeat' ((conv => whnf); first | refine ngo ?_ | refine VB.tt ?_ | refine VB.ff ?_ | refine VNew.keep ?_ | refine dgo ?_ | refine sgo ?_ | fail)
  conv => whnf
  refine VB.ne (fun h => ?_) (fun h => ?_)
  · have hm := Nat.mod_lt r.natAbs (show 0 < BB by decide)
    have hBB : BB = 1000000000 := rfl
    have hdv : r.natAbs / BB < r.natAbs := Nat.div_lt_self (by omega) (by decide)
    have hdg := dg_pos (n := r.natAbs) (by omega)
    have hq : (r.tdiv 1000000000).natAbs = r.natAbs / BB := Int.natAbs_tdiv r 1000000000
    have hrm : (r.tmod 1000000000).natAbs = r.natAbs % BB := Int.natAbs_tmod r 1000000000
    have g6 : (if IntKind.i64.wrap (0 - r.tmod 1000000000) > r.tmod 1000000000 then IntKind.i64.wrap (0 - r.tmod 1000000000) else r.tmod 1000000000) = ((r.natAbs % BB : Nat) : Int) := by
      rw [(InR.i64 (n := 0 - r.tmod 1000000000) (by omega) (by omega)).eq]
      split <;> omega
    rw [← hq] at hdg hdv
    generalize r.natAbs % BB = m at *
    cases l with
    | nil =>
      repeat' ((conv => whnf); first | refine ngo ?_ | refine VB.tt ?_ | refine VB.ff ?_ | refine VNew.keep ?_ | refine dgo ?_ | refine sgo ?_ | fail)
      conv => whnf
      rw [g6]
      repeat' ((conv => whnf); first | refine ngo ?_ | refine VB.tt ?_ | refine VB.ff ?_ | refine VNew.keep ?_ | refine dgo ?_ | refine sgo ?_ | fail)
      conv => whnf
      generalize r.tdiv 1000000000 = q at *
      repeat' ((conv => whnf); first | refine ngo ?_ | refine VB.tt ?_ | refine VB.ff ?_ | refine VNew.keep ?_ | refine dgo ?_ | refine sgo ?_ | fail)
      conv => whnf
      refine ⟨([m], q), ⟨⟨by dsimp only; omega, by dsimp only; omega⟩, by simpa [hdg] using he⟩, hdv, [1], by simp, by simp, ⟨⟨_, rfl, .cells rfl (FzL.same rfl (low_limbs _ [m]))⟩, trivial⟩, ⟨⟨_, rfl, .same rfl trivial⟩, ⟨_, rfl, .kosl (j := 0) rfl rfl rfl rfl⟩, trivial⟩, rfl, by simp⟩
    | cons x l =>
      simp only [List.length_cons] at hl
      repeat' ((conv => whnf); first | refine ngo ?_ | refine VB.tt ?_ | refine VB.ff ?_ | refine VNew.keep ?_ | refine dgo ?_ | refine sgo ?_ | fail)
      conv => whnf
      rw [g6]
      repeat' ((conv => whnf); first | refine ngo ?_ | refine VB.tt ?_ | refine VB.ff ?_ | refine VNew.keep ?_ | refine dgo ?_ | refine sgo ?_ | fail)
      conv => whnf
      generalize r.tdiv 1000000000 = q at *
      repeat' ((conv => whnf); first | refine ngo ?_ | refine VB.tt ?_ | refine VB.ff ?_ | refine VNew.keep ?_ | refine dgo ?_ | refine sgo ?_ | fail)
      conv => whnf
      refine ⟨(x :: l ++ [m], q), ⟨⟨by dsimp only; omega, by dsimp only; omega⟩, by simpa [hdg] using he⟩, hdv, [0], by simp, by simp, ⟨⟨_, rfl, .cells (by simp) (FzL.same ?_ (low_limbs _ (x :: l ++ [m])))⟩, trivial⟩, ⟨⟨_, rfl, .same rfl trivial⟩, ⟨_, rfl, .kosl (j := 0) rfl rfl (by simp) (by simp)⟩, trivial⟩, rfl, by simp⟩
      rw [Nat.mul_one, List.take_of_length_le (by simp [limbs])]
      simp [limbs]
  · subst h
    simp only [Int.natAbs_zero, dg_zero, List.append_nil] at he
    cases l with
    | nil =>
      repeat' ((conv => whnf); first | refine ngo ?_ | refine VB.tt ?_ | refine VB.ff ?_ | refine VNew.keep ?_ | refine dgo ?_ | refine sgo ?_ | fail)
      conv => whnf
      rw [natv, ← he]
      exact .nsl
    | cons x l =>
      repeat' ((conv => whnf); first | refine ngo ?_ | refine VB.tt ?_ | refine VB.ff ?_ | refine VNew.keep ?_ | refine dgo ?_ | refine sgo ?_ | fail)
      conv => whnf
      rw [natv, ← he]
      exact accV_fz 41 (x :: l)

theorem sratio_c {a b : Int} (a1 : -9223372036854775808 ≤ a) (a2 : a < 9223372036854775808) (b1 : -9223372036854775808 ≤ b) (b2 : b < 9223372036854775808) (hb : b ≠ 0) :
    VCall EE 82 [.int .i64 a, .int .i64 b] [] fun v H => Fz H 0 [] v (ratV (mkQ (decide (a < 0) != decide (b < 0)) a.natAbs b.natAbs)) := by
  refine VCall.of_body true Try.func82 rfl (by decide) rfl ?_
  have la := len_natAbs a1 a2
  have lb := len_natAbs b1 b2
  have hb0 : b.natAbs ≠ 0 := by omega
  repeat' ((conv => whnf); first | refine ngo ?_ | refine VB.tt ?_ | refine VB.ff ?_ | refine VNew.keep ?_ | refine dgo ?_ | refine sgo ?_ | refine ddo ?_ | refine And.intro (Nat.le_of_ble_eq_true rfl) ?_ | (with_reducible apply VB.id; rw [bneI]) | (with_reducible apply VB.id; rw [beqI]) | (with_reducible apply VB.dt; focus omega) | (with_reducible apply VB.df; focus omega) | (with_reducible apply VB.et; focus omega) | (with_reducible apply VB.ef; focus omega) | (with_reducible apply VB.nt; focus omega) | (with_reducible apply VB.nf; focus omega) | fail)
  conv => whnf
  refine VCall.iq (ssize_c a a1 a2) ?_
  repeat' ((conv => whnf); first | refine ngo ?_ | refine VB.tt ?_ | refine VB.ff ?_ | refine VNew.keep ?_ | refine dgo ?_ | refine sgo ?_ | refine ddo ?_ | refine And.intro (Nat.le_of_ble_eq_true rfl) ?_ | (with_reducible apply VB.id; rw [bneI]) | (with_reducible apply VB.id; rw [beqI]) | (with_reducible apply VB.dt; focus omega) | (with_reducible apply VB.df; focus omega) | (with_reducible apply VB.et; focus omega) | (with_reducible apply VB.ef; focus omega) | (with_reducible apply VB.nt; focus omega) | (with_reducible apply VB.nf; focus omega) | fail)
  conv => whnf
  refine VCall.iq (ssize_c b b1 b2) ?_
  repeat' ((conv => whnf); first | refine ngo ?_ | refine VB.tt ?_ | refine VB.ff ?_ | refine VNew.keep ?_ | refine dgo ?_ | refine sgo ?_ | refine ddo ?_ | refine And.intro (Nat.le_of_ble_eq_true rfl) ?_ | (with_reducible apply VB.id; rw [bneI]) | (with_reducible apply VB.id; rw [beqI]) | (with_reducible apply VB.dt; focus omega) | (with_reducible apply VB.df; focus omega) | (with_reducible apply VB.et; focus omega) | (with_reducible apply VB.ef; focus omega) | (with_reducible apply VB.nt; focus omega) | (with_reducible apply VB.nf; focus omega) | fail)
  conv => whnf
  generalize decide (a < 0) = x
  generalize decide (b < 0) = y
  cases x <;> cases y
  all_goals
    refine VCall.iq (slowest_c (neg := _) hb0 (by omega) (by omega)) ?_
    repeat' ((conv => whnf); first | refine ngo ?_ | refine VB.tt ?_ | refine VB.ff ?_ | refine VNew.keep ?_ | refine dgo ?_ | refine sgo ?_ | refine ddo ?_ | refine And.intro (Nat.le_of_ble_eq_true rfl) ?_ | (with_reducible apply VB.id; rw [bneI]) | (with_reducible apply VB.id; rw [beqI]) | (with_reducible apply VB.dt; focus omega) | (with_reducible apply VB.df; focus omega) | (with_reducible apply VB.et; focus omega) | (with_reducible apply VB.ef; focus omega) | (with_reducible apply VB.nt; focus omega) | (with_reducible apply VB.nf; focus omega) | fail)
    conv => whnf
    exact .same rfl (low_ratV 0 _)


theorem swhole_c {n : Int} (h1 : -9223372036854775808 ≤ n) (h2 : n < 9223372036854775808) : VCall EE 89 [.int .i64 n] [] fun v H => Fz H 0 [] v (ratV (n : Rat)) := by
  refine VCall.of_body true Try.func89 rfl (by decide) rfl ?_
  have ln := len_natAbs h1 h2
  have l1 := dg_len_one
  rw [intCast_mkQ]
  repeat' ((conv => whnf); first | refine ngo ?_ | refine VB.tt ?_ | refine VB.ff ?_ | refine VNew.keep ?_ | refine dgo ?_ | refine sgo ?_ | refine ddo ?_ | refine And.intro (Nat.le_of_ble_eq_true rfl) ?_ | (with_reducible apply VB.id; rw [bneI]) | (with_reducible apply VB.id; rw [beqI]) | (with_reducible apply VB.dt; focus omega) | (with_reducible apply VB.df; focus omega) | (with_reducible apply VB.et; focus omega) | (with_reducible apply VB.ef; focus omega) | (with_reducible apply VB.nt; focus omega) | (with_reducible apply VB.nf; focus omega) | fail)
  conv => whnf
  refine VCall.iq (ssize_c n h1 h2) ?_
  repeat' ((conv => whnf); first | refine ngo ?_ | refine VB.tt ?_ | refine VB.ff ?_ | refine dgo ?_ | refine sgo ?_ | refine ddo ?_ | refine And.intro (Nat.le_of_ble_eq_true rfl) ?_ | (with_reducible apply VB.id; rw [bneI]) | (with_reducible apply VB.id; rw [beqI]) | (with_reducible apply VB.dt; focus omega) | (with_reducible apply VB.df; focus omega) | (with_reducible apply VB.et; focus omega) | (with_reducible apply VB.ef; focus omega) | (with_reducible apply VB.nt; focus omega) | (with_reducible apply VB.nf; focus omega) | fail)
  conv => whnf
  refine VNew.dat (cs' := limbs [1]) rfl rfl ?_
  repeat' ((conv => whnf); first | refine ngo ?_ | refine VB.tt ?_ | refine VB.ff ?_ | refine VNew.keep ?_ | refine dgo ?_ | refine sgo ?_ | refine ddo ?_ | refine And.intro (Nat.le_of_ble_eq_true rfl) ?_ | (with_reducible apply VB.id; rw [bneI]) | (with_reducible apply VB.id; rw [beqI]) | (with_reducible apply VB.dt; focus omega) | (with_reducible apply VB.df; focus omega) | (with_reducible apply VB.et; focus omega) | (with_reducible apply VB.ef; focus omega) | (with_reducible apply VB.nt; focus omega) | (with_reducible apply VB.nf; focus omega) | fail)
  conv => whnf
  rw [one_nat]
  refine VCall.iq (slowest_c (by decide) (by omega) (by omega)) ?_
  repeat' ((conv => whnf); first | refine ngo ?_ | refine VB.tt ?_ | refine VB.ff ?_ | refine VNew.keep ?_ | refine dgo ?_ | refine sgo ?_ | refine ddo ?_ | refine And.intro (Nat.le_of_ble_eq_true rfl) ?_ | (with_reducible apply VB.id; rw [bneI]) | (with_reducible apply VB.id; rw [beqI]) | (with_reducible apply VB.dt; focus omega) | (with_reducible apply VB.df; focus omega) | (with_reducible apply VB.et; focus omega) | (with_reducible apply VB.ef; focus omega) | (with_reducible apply VB.nt; focus omega) | (with_reducible apply VB.nf; focus omega) | fail)
  conv => whnf
  exact .same rfl (low_ratV 0 _)

theorem sminus_raw {b : Bool} {n d : Nat} : VCall EE 66 [.agg [.bool b, natv n, natv d]] [] fun v H => Fz H 0 [] v (.agg [.bool (!b && decide (n ≠ 0)), natv n, natv d]) := by
  cases b
  · refine VCall.of_body true Try.func66 rfl (by decide) rfl ?_
    repeat' ((conv => whnf); first | refine ngo ?_ | refine VB.tt ?_ | refine VB.ff ?_ | refine VNew.keep ?_ | refine dgo ?_ | refine sgo ?_ | refine ddo ?_ | refine And.intro (Nat.le_of_ble_eq_true rfl) ?_ | (with_reducible apply VB.id; rw [bneI]) | (with_reducible apply VB.id; rw [beqI]) | (with_reducible apply VB.dt; focus omega) | (with_reducible apply VB.df; focus omega) | (with_reducible apply VB.et; focus omega) | (with_reducible apply VB.ef; focus omega) | (with_reducible apply VB.nt; focus omega) | (with_reducible apply VB.nf; focus omega) | fail)
    conv => whnf
    by_cases h : ((dg n).length : Int) > 0
    · rw [decide_eq_true h, decide_eq_true (show n ≠ 0 by rintro rfl; simp [dg_zero] at h)]
      repeat' ((conv => whnf); first | refine ngo ?_ | refine VB.tt ?_ | refine VB.ff ?_ | refine VNew.keep ?_ | refine dgo ?_ | refine sgo ?_ | refine ddo ?_ | refine And.intro (Nat.le_of_ble_eq_true rfl) ?_ | (with_reducible apply VB.id; rw [bneI]) | (with_reducible apply VB.id; rw [beqI]) | (with_reducible apply VB.dt; focus omega) | (with_reducible apply VB.df; focus omega) | (with_reducible apply VB.et; focus omega) | (with_reducible apply VB.ef; focus omega) | (with_reducible apply VB.nt; focus omega) | (with_reducible apply VB.nf; focus omega) | fail)
      conv => whnf
      exact .same rfl ⟨trivial, low_natv 0 _, low_natv 0 _, trivial⟩
    · rw [decide_eq_false h, decide_eq_false (show ¬ n ≠ 0 by intro hn; exact h (by have := List.length_pos_iff.2 (fun e => hn (dg_eq_nil.1 e)); omega))]
      repeat' ((conv => whnf); first | refine ngo ?_ | refine VB.tt ?_ | refine VB.ff ?_ | refine VNew.keep ?_ | refine dgo ?_ | refine sgo ?_ | refine ddo ?_ | refine And.intro (Nat.le_of_ble_eq_true rfl) ?_ | (with_reducible apply VB.id; rw [bneI]) | (with_reducible apply VB.id; rw [beqI]) | (with_reducible apply VB.dt; focus omega) | (with_reducible apply VB.df; focus omega) | (with_reducible apply VB.et; focus omega) | (with_reducible apply VB.ef; focus omega) | (with_reducible apply VB.nt; focus omega) | (with_reducible apply VB.nf; focus omega) | fail)
      conv => whnf
      exact .same rfl ⟨trivial, low_natv 0 _, low_natv 0 _, trivial⟩
  · refine VCall.of_body true Try.func66 rfl (by decide) rfl ?_
    repeat' ((conv => whnf); first | refine ngo ?_ | refine VB.tt ?_ | refine VB.ff ?_ | refine VNew.keep ?_ | refine dgo ?_ | refine sgo ?_ | refine ddo ?_ | refine And.intro (Nat.le_of_ble_eq_true rfl) ?_ | (with_reducible apply VB.id; rw [bneI]) | (with_reducible apply VB.id; rw [beqI]) | (with_reducible apply VB.dt; focus omega) | (with_reducible apply VB.df; focus omega) | (with_reducible apply VB.et; focus omega) | (with_reducible apply VB.ef; focus omega) | (with_reducible apply VB.nt; focus omega) | (with_reducible apply VB.nf; focus omega) | fail)
    conv => whnf
    exact .same rfl ⟨trivial, low_natv 0 _, low_natv 0 _, trivial⟩
theorem sminus_c (q : Rat) : VCall EE 66 [ratV q] [] fun v H => Fz H 0 [] v (ratV (-q)) := by
  rw [neg_ratV]
  exact sminus_raw

theorem stimes_c (a b : Rat) (hl : rl a + rl b < 5000000) : VCall EE 69 [ratV a, ratV b] [] fun v H => Fz H 0 [] v (ratV (a * b)) := by
  refine VCall.of_body true Try.func69 rfl (by decide) rfl ?_
  have ha := rl_num a; have ha' := rl_den a; have hb := rl_num b; have hb' := rl_den b
  have l1 := dg_mul_le a.num.natAbs b.num.natAbs
  have l2 := dg_mul_le a.den b.den
  have hd : a.den * b.den ≠ 0 := Nat.mul_ne_zero a.den_nz b.den_nz
  rw [mul_mkQ]
  repeat' ((conv => whnf); first | refine ngo ?_ | refine VB.tt ?_ | refine VB.ff ?_ | refine VNew.keep ?_ | refine dgo ?_ | refine sgo ?_ | refine ddo ?_ | refine And.intro (Nat.le_of_ble_eq_true rfl) ?_ | (with_reducible apply VB.id; rw [bneI]) | (with_reducible apply VB.id; rw [beqI]) | (with_reducible apply VB.dt; focus omega) | (with_reducible apply VB.df; focus omega) | (with_reducible apply VB.et; focus omega) | (with_reducible apply VB.ef; focus omega) | (with_reducible apply VB.nt; focus omega) | (with_reducible apply VB.nf; focus omega) | fail)
  conv => whnf
  refine VIso.iq (rtimes_n (by omega) (by omega)) ?_
  repeat' ((conv => whnf); first | refine ngo ?_ | refine VB.tt ?_ | refine VB.ff ?_ | refine VNew.keep ?_ | refine dgo ?_ | refine sgo ?_ | refine ddo ?_ | refine And.intro (Nat.le_of_ble_eq_true rfl) ?_ | (with_reducible apply VB.id; rw [bneI]) | (with_reducible apply VB.id; rw [beqI]) | (with_reducible apply VB.dt; focus omega) | (with_reducible apply VB.df; focus omega) | (with_reducible apply VB.et; focus omega) | (with_reducible apply VB.ef; focus omega) | (with_reducible apply VB.nt; focus omega) | (with_reducible apply VB.nf; focus omega) | fail)
  conv => whnf
  refine VIso.iq (rtimes_n (by omega) (by omega)) ?_
  repeat' ((conv => whnf); first | refine ngo ?_ | refine VB.tt ?_ | refine VB.ff ?_ | refine VNew.keep ?_ | refine dgo ?_ | refine sgo ?_ | refine ddo ?_ | refine And.intro (Nat.le_of_ble_eq_true rfl) ?_ | (with_reducible apply VB.id; rw [bneI]) | (with_reducible apply VB.id; rw [beqI]) | (with_reducible apply VB.dt; focus omega) | (with_reducible apply VB.df; focus omega) | (with_reducible apply VB.et; focus omega) | (with_reducible apply VB.ef; focus omega) | (with_reducible apply VB.nt; focus omega) | (with_reducible apply VB.nf; focus omega) | fail)
  conv => whnf
  refine VIso.iq (slowest_c (neg := decide (a.num < 0) != decide (b.num < 0)) hd (by omega) (by omega)) ?_
  repeat' ((conv => whnf); first | refine ngo ?_ | refine VB.tt ?_ | refine VB.ff ?_ | refine VNew.keep ?_ | refine dgo ?_ | refine sgo ?_ | refine ddo ?_ | refine And.intro (Nat.le_of_ble_eq_true rfl) ?_ | (with_reducible apply VB.id; rw [bneI]) | (with_reducible apply VB.id; rw [beqI]) | (with_reducible apply VB.dt; focus omega) | (with_reducible apply VB.df; focus omega) | (with_reducible apply VB.et; focus omega) | (with_reducible apply VB.ef; focus omega) | (with_reducible apply VB.nt; focus omega) | (with_reducible apply VB.nf; focus omega) | fail)
  conv => whnf
  exact .same rfl (low_ratV 0 _)


theorem sover_c (a b : Rat) (hb0 : b ≠ 0) (hl : rl a + rl b < 5000000) : VCall EE 74 [ratV a, ratV b] [] fun v H => Fz H 0 [] v (ratV (a / b)) := by
  refine VCall.of_body true Try.func74 rfl (by decide) rfl ?_
  have ha := rl_num a; have ha' := rl_den a; have hb := rl_num b; have hb' := rl_den b
  have l1 := dg_mul_le a.num.natAbs b.den
  have l2 := dg_mul_le a.den b.num.natAbs
  have hn : b.num.natAbs ≠ 0 := fun h => hb0 (Rat.num_eq_zero.1 (Int.natAbs_eq_zero.1 h))
  have hd : a.den * b.num.natAbs ≠ 0 := Nat.mul_ne_zero a.den_nz hn
  rw [over_mkQ a b hb0]
  repeat' ((conv => whnf); first | refine ngo ?_ | refine VB.tt ?_ | refine VB.ff ?_ | refine VNew.keep ?_ | refine dgo ?_ | refine sgo ?_ | refine ddo ?_ | refine And.intro (Nat.le_of_ble_eq_true rfl) ?_ | (with_reducible apply VB.id; rw [bneI]) | (with_reducible apply VB.id; rw [beqI]) | (with_reducible apply VB.dt; focus omega) | (with_reducible apply VB.df; focus omega) | (with_reducible apply VB.et; focus omega) | (with_reducible apply VB.ef; focus omega) | (with_reducible apply VB.nt; focus omega) | (with_reducible apply VB.nf; focus omega) | fail)
  conv => whnf
  refine VIso.iq (rtimes_n (by omega) (by omega)) ?_
  repeat' ((conv => whnf); first | refine ngo ?_ | refine VB.tt ?_ | refine VB.ff ?_ | refine VNew.keep ?_ | refine dgo ?_ | refine sgo ?_ | refine ddo ?_ | refine And.intro (Nat.le_of_ble_eq_true rfl) ?_ | (with_reducible apply VB.id; rw [bneI]) | (with_reducible apply VB.id; rw [beqI]) | (with_reducible apply VB.dt; focus omega) | (with_reducible apply VB.df; focus omega) | (with_reducible apply VB.et; focus omega) | (with_reducible apply VB.ef; focus omega) | (with_reducible apply VB.nt; focus omega) | (with_reducible apply VB.nf; focus omega) | fail)
  conv => whnf
  refine VIso.iq (rtimes_n (by omega) (by omega)) ?_
  repeat' ((conv => whnf); first | refine ngo ?_ | refine VB.tt ?_ | refine VB.ff ?_ | refine VNew.keep ?_ | refine dgo ?_ | refine sgo ?_ | refine ddo ?_ | refine And.intro (Nat.le_of_ble_eq_true rfl) ?_ | (with_reducible apply VB.id; rw [bneI]) | (with_reducible apply VB.id; rw [beqI]) | (with_reducible apply VB.dt; focus omega) | (with_reducible apply VB.df; focus omega) | (with_reducible apply VB.et; focus omega) | (with_reducible apply VB.ef; focus omega) | (with_reducible apply VB.nt; focus omega) | (with_reducible apply VB.nf; focus omega) | fail)
  conv => whnf
  refine VIso.iq (slowest_c (neg := decide (a.num < 0) != decide (b.num < 0)) hd (by omega) (by omega)) ?_
  repeat' ((conv => whnf); first | refine ngo ?_ | refine VB.tt ?_ | refine VB.ff ?_ | refine VNew.keep ?_ | refine dgo ?_ | refine sgo ?_ | refine ddo ?_ | refine And.intro (Nat.le_of_ble_eq_true rfl) ?_ | (with_reducible apply VB.id; rw [bneI]) | (with_reducible apply VB.id; rw [beqI]) | (with_reducible apply VB.dt; focus omega) | (with_reducible apply VB.df; focus omega) | (with_reducible apply VB.et; focus omega) | (with_reducible apply VB.ef; focus omega) | (with_reducible apply VB.nt; focus omega) | (with_reducible apply VB.nf; focus omega) | fail)
  conv => whnf
  exact .same rfl (low_ratV 0 _)


theorem splus_raw {x y : Bool} {n d m e : Nat} (hd : d ≠ 0) (he : e ≠ 0) (ln : (dg n).length + (dg e).length < 3000000) (lm : (dg m).length + (dg d).length < 3000000) (ld : (dg d).length + (dg e).length < 3000000) :
    VCall EE 64 [.agg [.bool x, natv n, natv d], .agg [.bool y, natv m, natv e]] [] fun v H => Fz H 0 [] v (ratV (mkQ (addS x (n * e) y (m * d)).1 (addS x (n * e) y (m * d)).2 (d * e))) := by
  have l1 := dg_mul_le n e
  have l2 := dg_mul_le m d
  have l3 := dg_mul_le d e
  have l4 := addS_len x y (n * e) (m * d)
  have hde : d * e ≠ 0 := Nat.mul_ne_zero hd he
  by_cases hxy : x = y
  · subst hxy
    rw [addS, if_pos rfl] at *
    dsimp only at l4 ⊢
    cases x
    all_goals
      refine VCall.of_body true Try.func64 rfl (by decide) rfl ?_
      repeat' ((conv => whnf); first | refine ngo ?_ | refine VB.tt ?_ | refine VB.ff ?_ | refine VNew.keep ?_ | refine dgo ?_ | refine sgo ?_ | refine ddo ?_ | refine And.intro (Nat.le_of_ble_eq_true rfl) ?_ | (with_reducible apply VB.id; rw [bneI]) | (with_reducible apply VB.id; rw [beqI]) | (with_reducible apply VB.dt; focus omega) | (with_reducible apply VB.df; focus omega) | (with_reducible apply VB.et; focus omega) | (with_reducible apply VB.ef; focus omega) | (with_reducible apply VB.nt; focus omega) | (with_reducible apply VB.nf; focus omega) | fail)
      conv => whnf
      refine VIso.iq (rtimes_n (by omega) (by omega)) ?_
      repeat' ((conv => whnf); first | refine ngo ?_ | refine VB.tt ?_ | refine VB.ff ?_ | refine VNew.keep ?_ | refine dgo ?_ | refine sgo ?_ | refine ddo ?_ | refine And.intro (Nat.le_of_ble_eq_true rfl) ?_ | (with_reducible apply VB.id; rw [bneI]) | (with_reducible apply VB.id; rw [beqI]) | (with_reducible apply VB.dt; focus omega) | (with_reducible apply VB.df; focus omega) | (with_reducible apply VB.et; focus omega) | (with_reducible apply VB.ef; focus omega) | (with_reducible apply VB.nt; focus omega) | (with_reducible apply VB.nf; focus omega) | fail)
      conv => whnf
      refine VIso.iq (rtimes_n (by omega) (by omega)) ?_
      repeat' ((conv => whnf); first | refine ngo ?_ | refine VB.tt ?_ | refine VB.ff ?_ | refine VNew.keep ?_ | refine dgo ?_ | refine sgo ?_ | refine ddo ?_ | refine And.intro (Nat.le_of_ble_eq_true rfl) ?_ | (with_reducible apply VB.id; rw [bneI]) | (with_reducible apply VB.id; rw [beqI]) | (with_reducible apply VB.dt; focus omega) | (with_reducible apply VB.df; focus omega) | (with_reducible apply VB.et; focus omega) | (with_reducible apply VB.ef; focus omega) | (with_reducible apply VB.nt; focus omega) | (with_reducible apply VB.nf; focus omega) | fail)
      conv => whnf
      refine VIso.iq (rtimes_n (by omega) (by omega)) ?_
      repeat' ((conv => whnf); first | refine ngo ?_ | refine VB.tt ?_ | refine VB.ff ?_ | refine VNew.keep ?_ | refine dgo ?_ | refine sgo ?_ | refine ddo ?_ | refine And.intro (Nat.le_of_ble_eq_true rfl) ?_ | (with_reducible apply VB.id; rw [bneI]) | (with_reducible apply VB.id; rw [beqI]) | (with_reducible apply VB.dt; focus omega) | (with_reducible apply VB.df; focus omega) | (with_reducible apply VB.et; focus omega) | (with_reducible apply VB.ef; focus omega) | (with_reducible apply VB.nt; focus omega) | (with_reducible apply VB.nf; focus omega) | fail)
      conv => whnf
      refine VIso.iq (rplus_n (by omega) (by omega)) ?_
      repeat' ((conv => whnf); first | refine ngo ?_ | refine VB.tt ?_ | refine VB.ff ?_ | refine VNew.keep ?_ | refine dgo ?_ | refine sgo ?_ | refine ddo ?_ | refine And.intro (Nat.le_of_ble_eq_true rfl) ?_ | (with_reducible apply VB.id; rw [bneI]) | (with_reducible apply VB.id; rw [beqI]) | (with_reducible apply VB.dt; focus omega) | (with_reducible apply VB.df; focus omega) | (with_reducible apply VB.et; focus omega) | (with_reducible apply VB.ef; focus omega) | (with_reducible apply VB.nt; focus omega) | (with_reducible apply VB.nf; focus omega) | fail)
      conv => whnf
      refine VIso.iq (slowest_c hde (by omega) (by omega)) ?_
      repeat' ((conv => whnf); first | refine ngo ?_ | refine VB.tt ?_ | refine VB.ff ?_ | refine VNew.keep ?_ | refine dgo ?_ | refine sgo ?_ | refine ddo ?_ | refine And.intro (Nat.le_of_ble_eq_true rfl) ?_ | (with_reducible apply VB.id; rw [bneI]) | (with_reducible apply VB.id; rw [beqI]) | (with_reducible apply VB.dt; focus omega) | (with_reducible apply VB.df; focus omega) | (with_reducible apply VB.et; focus omega) | (with_reducible apply VB.ef; focus omega) | (with_reducible apply VB.nt; focus omega) | (with_reducible apply VB.nf; focus omega) | fail)
      conv => whnf
      exact .same rfl (low_ratV 0 _)
  · rw [addS, if_neg hxy] at *
    cases x <;> cases y <;> first | exact absurd rfl hxy | skip
    all_goals
      refine VCall.of_body true Try.func64 rfl (by decide) rfl ?_
      repeat' ((conv => whnf); first | refine ngo ?_ | refine VB.tt ?_ | refine VB.ff ?_ | refine VNew.keep ?_ | refine dgo ?_ | refine sgo ?_ | refine ddo ?_ | refine And.intro (Nat.le_of_ble_eq_true rfl) ?_ | (with_reducible apply VB.id; rw [bneI]) | (with_reducible apply VB.id; rw [beqI]) | (with_reducible apply VB.dt; focus omega) | (with_reducible apply VB.df; focus omega) | (with_reducible apply VB.et; focus omega) | (with_reducible apply VB.ef; focus omega) | (with_reducible apply VB.nt; focus omega) | (with_reducible apply VB.nf; focus omega) | fail)
      conv => whnf
      refine VIso.iq (rtimes_n (by omega) (by omega)) ?_
      repeat' ((conv => whnf); first | refine ngo ?_ | refine VB.tt ?_ | refine VB.ff ?_ | refine VNew.keep ?_ | refine dgo ?_ | refine sgo ?_ | refine ddo ?_ | refine And.intro (Nat.le_of_ble_eq_true rfl) ?_ | (with_reducible apply VB.id; rw [bneI]) | (with_reducible apply VB.id; rw [beqI]) | (with_reducible apply VB.dt; focus omega) | (with_reducible apply VB.df; focus omega) | (with_reducible apply VB.et; focus omega) | (with_reducible apply VB.ef; focus omega) | (with_reducible apply VB.nt; focus omega) | (with_reducible apply VB.nf; focus omega) | fail)
      conv => whnf
      refine VIso.iq (rtimes_n (by omega) (by omega)) ?_
      repeat' ((conv => whnf); first | refine ngo ?_ | refine VB.tt ?_ | refine VB.ff ?_ | refine VNew.keep ?_ | refine dgo ?_ | refine sgo ?_ | refine ddo ?_ | refine And.intro (Nat.le_of_ble_eq_true rfl) ?_ | (with_reducible apply VB.id; rw [bneI]) | (with_reducible apply VB.id; rw [beqI]) | (with_reducible apply VB.dt; focus omega) | (with_reducible apply VB.df; focus omega) | (with_reducible apply VB.et; focus omega) | (with_reducible apply VB.ef; focus omega) | (with_reducible apply VB.nt; focus omega) | (with_reducible apply VB.nf; focus omega) | fail)
      conv => whnf
      refine VIso.iq (rtimes_n (by omega) (by omega)) ?_
      repeat' ((conv => whnf); first | refine ngo ?_ | refine VB.tt ?_ | refine VB.ff ?_ | refine VNew.keep ?_ | refine dgo ?_ | refine sgo ?_ | refine ddo ?_ | refine And.intro (Nat.le_of_ble_eq_true rfl) ?_ | (with_reducible apply VB.id; rw [bneI]) | (with_reducible apply VB.id; rw [beqI]) | (with_reducible apply VB.dt; focus omega) | (with_reducible apply VB.df; focus omega) | (with_reducible apply VB.et; focus omega) | (with_reducible apply VB.ef; focus omega) | (with_reducible apply VB.nt; focus omega) | (with_reducible apply VB.nf; focus omega) | fail)
      conv => whnf
      refine VCall.sq (rorder_n (by omega) (by omega)) ?_
      repeat' ((conv => whnf); first | refine ngo ?_ | refine VB.tt ?_ | refine VB.ff ?_ | refine VNew.keep ?_ | refine dgo ?_ | refine sgo ?_ | refine ddo ?_ | refine And.intro (Nat.le_of_ble_eq_true rfl) ?_ | (with_reducible apply VB.id; rw [bneI]) | (with_reducible apply VB.id; rw [beqI]) | (with_reducible apply VB.dt; focus omega) | (with_reducible apply VB.df; focus omega) | (with_reducible apply VB.et; focus omega) | (with_reducible apply VB.ef; focus omega) | (with_reducible apply VB.nt; focus omega) | (with_reducible apply VB.nf; focus omega) | fail)
      conv => whnf
      refine VB.dec (fun h => ?_) (fun h => ?_)
      · have hle : m * d ≤ n * e := by have := cmpN_neg (a := n * e) (b := m * d); omega
        rw [if_pos hle] at *
        dsimp only at l4 ⊢
        repeat' ((conv => whnf); first | refine ngo ?_ | refine VB.tt ?_ | refine VB.ff ?_ | refine VNew.keep ?_ | refine dgo ?_ | refine sgo ?_ | refine ddo ?_ | refine And.intro (Nat.le_of_ble_eq_true rfl) ?_ | (with_reducible apply VB.id; rw [bneI]) | (with_reducible apply VB.id; rw [beqI]) | (with_reducible apply VB.dt; focus omega) | (with_reducible apply VB.df; focus omega) | (with_reducible apply VB.et; focus omega) | (with_reducible apply VB.ef; focus omega) | (with_reducible apply VB.nt; focus omega) | (with_reducible apply VB.nf; focus omega) | fail)
        conv => whnf
        refine VIso.iq (rminus_n (by omega) hle) ?_
        repeat' ((conv => whnf); first | refine ngo ?_ | refine VB.tt ?_ | refine VB.ff ?_ | refine VNew.keep ?_ | refine dgo ?_ | refine sgo ?_ | refine ddo ?_ | refine And.intro (Nat.le_of_ble_eq_true rfl) ?_ | (with_reducible apply VB.id; rw [bneI]) | (with_reducible apply VB.id; rw [beqI]) | (with_reducible apply VB.dt; focus omega) | (with_reducible apply VB.df; focus omega) | (with_reducible apply VB.et; focus omega) | (with_reducible apply VB.ef; focus omega) | (with_reducible apply VB.nt; focus omega) | (with_reducible apply VB.nf; focus omega) | fail)
        conv => whnf
        refine VIso.iq (slowest_c hde (by omega) (by omega)) ?_
        repeat' ((conv => whnf); first | refine ngo ?_ | refine VB.tt ?_ | refine VB.ff ?_ | refine VNew.keep ?_ | refine dgo ?_ | refine sgo ?_ | refine ddo ?_ | refine And.intro (Nat.le_of_ble_eq_true rfl) ?_ | (with_reducible apply VB.id; rw [bneI]) | (with_reducible apply VB.id; rw [beqI]) | (with_reducible apply VB.dt; focus omega) | (with_reducible apply VB.df; focus omega) | (with_reducible apply VB.et; focus omega) | (with_reducible apply VB.ef; focus omega) | (with_reducible apply VB.nt; focus omega) | (with_reducible apply VB.nf; focus omega) | fail)
        conv => whnf
        exact .same rfl (low_ratV 0 _)
      · have hle : ¬ m * d ≤ n * e := by have := cmpN_neg (a := n * e) (b := m * d); omega
        rw [if_neg hle] at *
        dsimp only at l4 ⊢
        repeat' ((conv => whnf); first | refine ngo ?_ | refine VB.tt ?_ | refine VB.ff ?_ | refine VNew.keep ?_ | refine dgo ?_ | refine sgo ?_ | refine ddo ?_ | refine And.intro (Nat.le_of_ble_eq_true rfl) ?_ | (with_reducible apply VB.id; rw [bneI]) | (with_reducible apply VB.id; rw [beqI]) | (with_reducible apply VB.dt; focus omega) | (with_reducible apply VB.df; focus omega) | (with_reducible apply VB.et; focus omega) | (with_reducible apply VB.ef; focus omega) | (with_reducible apply VB.nt; focus omega) | (with_reducible apply VB.nf; focus omega) | fail)
        conv => whnf
        refine VIso.iq (rminus_n (by omega) (by omega)) ?_
        repeat' ((conv => whnf); first | refine ngo ?_ | refine VB.tt ?_ | refine VB.ff ?_ | refine VNew.keep ?_ | refine dgo ?_ | refine sgo ?_ | refine ddo ?_ | refine And.intro (Nat.le_of_ble_eq_true rfl) ?_ | (with_reducible apply VB.id; rw [bneI]) | (with_reducible apply VB.id; rw [beqI]) | (with_reducible apply VB.dt; focus omega) | (with_reducible apply VB.df; focus omega) | (with_reducible apply VB.et; focus omega) | (with_reducible apply VB.ef; focus omega) | (with_reducible apply VB.nt; focus omega) | (with_reducible apply VB.nf; focus omega) | fail)
        conv => whnf
        refine VIso.iq (slowest_c hde (by omega) (by omega)) ?_
        repeat' ((conv => whnf); first | refine ngo ?_ | refine VB.tt ?_ | refine VB.ff ?_ | refine VNew.keep ?_ | refine dgo ?_ | refine sgo ?_ | refine ddo ?_ | refine And.intro (Nat.le_of_ble_eq_true rfl) ?_ | (with_reducible apply VB.id; rw [bneI]) | (with_reducible apply VB.id; rw [beqI]) | (with_reducible apply VB.dt; focus omega) | (with_reducible apply VB.df; focus omega) | (with_reducible apply VB.et; focus omega) | (with_reducible apply VB.ef; focus omega) | (with_reducible apply VB.nt; focus omega) | (with_reducible apply VB.nf; focus omega) | fail)
        conv => whnf
        exact .same rfl (low_ratV 0 _)
theorem splus_c (a b : Rat) (hl : rl a + rl b < 2000000) : VCall EE 64 [ratV a, ratV b] [] fun v H => Fz H 0 [] v (ratV (a + b)) := by
  have ha := rl_num a; have ha' := rl_den a; have hb := rl_num b; have hb' := rl_den b
  rw [add_mkQ]
  exact splus_raw a.den_nz b.den_nz (by omega) (by omega) (by omega)

theorem sorder_c (a b : Rat) (hl : rl a + rl b < 2000000) : VCall EE 55 [ratV a, ratV b] [] fun v H => v = .int .i64 (cmpQ a b) := by
  refine VCall.of_body true Try.func55 rfl (by decide) rfl ?_
  have hs := cmpQ_sub a b
  repeat' ((conv => whnf); first | refine ngo ?_ | refine VB.tt ?_ | refine VB.ff ?_ | refine VNew.keep ?_ | refine dgo ?_ | refine sgo ?_ | refine ddo ?_ | refine And.intro (Nat.le_of_ble_eq_true rfl) ?_ | (with_reducible apply VB.id; rw [bneI]) | (with_reducible apply VB.id; rw [beqI]) | (with_reducible apply VB.dt; focus omega) | (with_reducible apply VB.df; focus omega) | (with_reducible apply VB.et; focus omega) | (with_reducible apply VB.ef; focus omega) | (with_reducible apply VB.nt; focus omega) | (with_reducible apply VB.nf; focus omega) | fail)
  conv => whnf
  refine VIso.iq (sminus_c b) ?_
  repeat' ((conv => whnf); first | refine ngo ?_ | refine VB.tt ?_ | refine VB.ff ?_ | refine VNew.keep ?_ | refine dgo ?_ | refine sgo ?_ | refine ddo ?_ | refine And.intro (Nat.le_of_ble_eq_true rfl) ?_ | (with_reducible apply VB.id; rw [bneI]) | (with_reducible apply VB.id; rw [beqI]) | (with_reducible apply VB.dt; focus omega) | (with_reducible apply VB.df; focus omega) | (with_reducible apply VB.et; focus omega) | (with_reducible apply VB.ef; focus omega) | (with_reducible apply VB.nt; focus omega) | (with_reducible apply VB.nf; focus omega) | fail)
  conv => whnf
  refine VIso.iq (splus_c a (-b) (by rw [rl_neg]; omega)) ?_
  repeat' ((conv => whnf); first | refine ngo ?_ | refine VB.tt ?_ | refine VB.ff ?_ | refine VNew.keep ?_ | refine dgo ?_ | refine sgo ?_ | refine ddo ?_ | refine And.intro (Nat.le_of_ble_eq_true rfl) ?_ | (with_reducible apply VB.id; rw [bneI]) | (with_reducible apply VB.id; rw [beqI]) | (with_reducible apply VB.dt; focus omega) | (with_reducible apply VB.df; focus omega) | (with_reducible apply VB.et; focus omega) | (with_reducible apply VB.ef; focus omega) | (with_reducible apply VB.nt; focus omega) | (with_reducible apply VB.nf; focus omega) | fail)
  conv => whnf
  generalize a + -b = c at *
  refine VB.eq (fun h => ?_) (fun h => ?_)
  · have hc : c.num = 0 := Int.natAbs_eq_zero.1 (len_dg_zero h)
    repeat' ((conv => whnf); first | refine ngo ?_ | refine VB.tt ?_ | refine VB.ff ?_ | refine VNew.keep ?_ | refine dgo ?_ | refine sgo ?_ | refine ddo ?_ | refine And.intro (Nat.le_of_ble_eq_true rfl) ?_ | (with_reducible apply VB.id; rw [bneI]) | (with_reducible apply VB.id; rw [beqI]) | (with_reducible apply VB.dt; focus omega) | (with_reducible apply VB.df; focus omega) | (with_reducible apply VB.et; focus omega) | (with_reducible apply VB.ef; focus omega) | (with_reducible apply VB.nt; focus omega) | (with_reducible apply VB.nf; focus omega) | fail)
    conv => whnf
    rw [hs, if_pos hc]
  · have hc : ¬ c.num = 0 := fun e => len_dg_ne h (by rw [e]; rfl)
    rw [if_neg hc] at hs
    by_cases hn : c.num < 0
    · rw [decide_eq_true hn]
      repeat' ((conv => whnf); first | refine ngo ?_ | refine VB.tt ?_ | refine VB.ff ?_ | refine VNew.keep ?_ | refine dgo ?_ | refine sgo ?_ | refine ddo ?_ | refine And.intro (Nat.le_of_ble_eq_true rfl) ?_ | (with_reducible apply VB.id; rw [bneI]) | (with_reducible apply VB.id; rw [beqI]) | (with_reducible apply VB.dt; focus omega) | (with_reducible apply VB.df; focus omega) | (with_reducible apply VB.et; focus omega) | (with_reducible apply VB.ef; focus omega) | (with_reducible apply VB.nt; focus omega) | (with_reducible apply VB.nf; focus omega) | fail)
      conv => whnf
      rw [hs, if_pos hn]
    · rw [decide_eq_false hn]
      repeat' ((conv => whnf); first | refine ngo ?_ | refine VB.tt ?_ | refine VB.ff ?_ | refine VNew.keep ?_ | refine dgo ?_ | refine sgo ?_ | refine ddo ?_ | refine And.intro (Nat.le_of_ble_eq_true rfl) ?_ | (with_reducible apply VB.id; rw [bneI]) | (with_reducible apply VB.id; rw [beqI]) | (with_reducible apply VB.dt; focus omega) | (with_reducible apply VB.df; focus omega) | (with_reducible apply VB.et; focus omega) | (with_reducible apply VB.ef; focus omega) | (with_reducible apply VB.nt; focus omega) | (with_reducible apply VB.nf; focus omega) | fail)
      conv => whnf
      rw [hs, if_neg hn]


theorem szero_c (a : Rat) : VCall EE 73 [ratV a] [] fun v H => v = .bool (decide (a = 0)) := by
  refine VCall.of_body true Try.func73 rfl (by decide) rfl ?_
  repeat' ((conv => whnf); first | refine ngo ?_ | refine VB.tt ?_ | refine VB.ff ?_ | refine VNew.keep ?_ | refine dgo ?_ | refine sgo ?_ | refine ddo ?_ | refine And.intro (Nat.le_of_ble_eq_true rfl) ?_ | (with_reducible apply VB.id; rw [bneI]) | (with_reducible apply VB.id; rw [beqI]) | (with_reducible apply VB.dt; focus omega) | (with_reducible apply VB.df; focus omega) | (with_reducible apply VB.et; focus omega) | (with_reducible apply VB.ef; focus omega) | (with_reducible apply VB.nt; focus omega) | (with_reducible apply VB.nf; focus omega) | fail)
  conv => whnf
  congr 1
  rw [Bool.eq_iff_iff, beq_iff_eq, decide_eq_true_iff]
  constructor
  · intro h
    exact Rat.num_eq_zero.1 (Int.natAbs_eq_zero.1 (len_dg_zero h))
  · rintro rfl
    simp [dg_zero]


theorem sdown_raw {b : Bool} {n d : Nat} (hd : d ≠ 0) (ln : (dg n).length < 5000000) (ld : (dg d).length < 5000000) : VCall EE 85 [.agg [.bool b, natv n, natv d]] [] fun v H => Fz H 0 [] v (ratV (mkQ b (if b = true ∧ n % d ≠ 0 then n / d + 1 else n / d) 1)) := by
  have hq := dg_length_mono (Nat.div_le_self n d)
  have hr := dg_length_mono (Nat.mod_le n d)
  have hq1 := dg_add_le (n / d) 1
  have l1 := dg_len_one
  cases b
  · rw [if_neg (by simp)]
    refine VCall.of_body true Try.func85 rfl (by decide) rfl ?_
    repeat' ((conv => whnf); first | refine ngo ?_ | refine VB.tt ?_ | refine VB.ff ?_ | refine VNew.keep ?_ | refine dgo ?_ | refine sgo ?_ | refine ddo ?_ | refine And.intro (Nat.le_of_ble_eq_true rfl) ?_ | (with_reducible apply VB.id; rw [bneI]) | (with_reducible apply VB.id; rw [beqI]) | (with_reducible apply VB.dt; focus omega) | (with_reducible apply VB.df; focus omega) | (with_reducible apply VB.et; focus omega) | (with_reducible apply VB.ef; focus omega) | (with_reducible apply VB.nt; focus omega) | (with_reducible apply VB.nf; focus omega) | fail)
    conv => whnf
    refine VCall.iq (over_n hd (by omega) (by omega)) ?_
    repeat' ((conv => whnf); first | refine ngo ?_ | refine VB.tt ?_ | refine VB.ff ?_ | refine dgo ?_ | refine sgo ?_ | refine ddo ?_ | refine And.intro (Nat.le_of_ble_eq_true rfl) ?_ | (with_reducible apply VB.id; rw [bneI]) | (with_reducible apply VB.id; rw [beqI]) | (with_reducible apply VB.dt; focus omega) | (with_reducible apply VB.df; focus omega) | (with_reducible apply VB.et; focus omega) | (with_reducible apply VB.ef; focus omega) | (with_reducible apply VB.nt; focus omega) | (with_reducible apply VB.nf; focus omega) | fail)
    conv => whnf
    refine VNew.dat (cs' := limbs [1]) rfl rfl ?_
    repeat' ((conv => whnf); first | refine ngo ?_ | refine VB.tt ?_ | refine VB.ff ?_ | refine VNew.keep ?_ | refine dgo ?_ | refine sgo ?_ | refine ddo ?_ | refine And.intro (Nat.le_of_ble_eq_true rfl) ?_ | (with_reducible apply VB.id; rw [bneI]) | (with_reducible apply VB.id; rw [beqI]) | (with_reducible apply VB.dt; focus omega) | (with_reducible apply VB.df; focus omega) | (with_reducible apply VB.et; focus omega) | (with_reducible apply VB.ef; focus omega) | (with_reducible apply VB.nt; focus omega) | (with_reducible apply VB.nf; focus omega) | fail)
    conv => whnf
    rw [one_nat]
    refine VCall.iq (slowest_c (neg := false) (by decide) (by omega) (by omega)) ?_
    repeat' ((conv => whnf); first | refine ngo ?_ | refine VB.tt ?_ | refine VB.ff ?_ | refine VNew.keep ?_ | refine dgo ?_ | refine sgo ?_ | refine ddo ?_ | refine And.intro (Nat.le_of_ble_eq_true rfl) ?_ | (with_reducible apply VB.id; rw [bneI]) | (with_reducible apply VB.id; rw [beqI]) | (with_reducible apply VB.dt; focus omega) | (with_reducible apply VB.df; focus omega) | (with_reducible apply VB.et; focus omega) | (with_reducible apply VB.ef; focus omega) | (with_reducible apply VB.nt; focus omega) | (with_reducible apply VB.nf; focus omega) | fail)
    conv => whnf
    exact .same rfl (low_ratV 0 _)
  · refine VCall.of_body true Try.func85 rfl (by decide) rfl ?_
    repeat' ((conv => whnf); first | refine ngo ?_ | refine VB.tt ?_ | refine VB.ff ?_ | refine VNew.keep ?_ | refine dgo ?_ | refine sgo ?_ | refine ddo ?_ | refine And.intro (Nat.le_of_ble_eq_true rfl) ?_ | (with_reducible apply VB.id; rw [bneI]) | (with_reducible apply VB.id; rw [beqI]) | (with_reducible apply VB.dt; focus omega) | (with_reducible apply VB.df; focus omega) | (with_reducible apply VB.et; focus omega) | (with_reducible apply VB.ef; focus omega) | (with_reducible apply VB.nt; focus omega) | (with_reducible apply VB.nf; focus omega) | fail)
    conv => whnf
    refine VCall.iq (over_n hd (by omega) (by omega)) ?_
    repeat' ((conv => whnf); first | refine ngo ?_ | refine VB.tt ?_ | refine VB.ff ?_ | refine VNew.keep ?_ | refine dgo ?_ | refine sgo ?_ | refine ddo ?_ | refine And.intro (Nat.le_of_ble_eq_true rfl) ?_ | (with_reducible apply VB.id; rw [bneI]) | (with_reducible apply VB.id; rw [beqI]) | (with_reducible apply VB.dt; focus omega) | (with_reducible apply VB.df; focus omega) | (with_reducible apply VB.et; focus omega) | (with_reducible apply VB.ef; focus omega) | (with_reducible apply VB.nt; focus omega) | (with_reducible apply VB.nf; focus omega) | fail)
    conv => whnf
    refine VB.dec (fun h => ?_) (fun h => ?_)
    · rw [if_pos ⟨rfl, by intro e; rw [e, dg_zero] at h; simp at h⟩]
      repeat' ((conv => whnf); first | refine ngo ?_ | refine VB.tt ?_ | refine VB.ff ?_ | refine dgo ?_ | refine sgo ?_ | refine ddo ?_ | refine And.intro (Nat.le_of_ble_eq_true rfl) ?_ | (with_reducible apply VB.id; rw [bneI]) | (with_reducible apply VB.id; rw [beqI]) | (with_reducible apply VB.dt; focus omega) | (with_reducible apply VB.df; focus omega) | (with_reducible apply VB.et; focus omega) | (with_reducible apply VB.ef; focus omega) | (with_reducible apply VB.nt; focus omega) | (with_reducible apply VB.nf; focus omega) | fail)
      conv => whnf
      refine VNew.dat (cs' := limbs [1]) rfl rfl ?_
      repeat' ((conv => whnf); first | refine ngo ?_ | refine VB.tt ?_ | refine VB.ff ?_ | refine VNew.keep ?_ | refine dgo ?_ | refine sgo ?_ | refine ddo ?_ | refine And.intro (Nat.le_of_ble_eq_true rfl) ?_ | (with_reducible apply VB.id; rw [bneI]) | (with_reducible apply VB.id; rw [beqI]) | (with_reducible apply VB.dt; focus omega) | (with_reducible apply VB.df; focus omega) | (with_reducible apply VB.et; focus omega) | (with_reducible apply VB.ef; focus omega) | (with_reducible apply VB.nt; focus omega) | (with_reducible apply VB.nf; focus omega) | fail)
      conv => whnf
      rw [one_nat]
      refine VCall.iq (rplus_n (by omega) (by omega)) ?_
      repeat' ((conv => whnf); first | refine ngo ?_ | refine VB.tt ?_ | refine VB.ff ?_ | refine dgo ?_ | refine sgo ?_ | refine ddo ?_ | refine And.intro (Nat.le_of_ble_eq_true rfl) ?_ | (with_reducible apply VB.id; rw [bneI]) | (with_reducible apply VB.id; rw [beqI]) | (with_reducible apply VB.dt; focus omega) | (with_reducible apply VB.df; focus omega) | (with_reducible apply VB.et; focus omega) | (with_reducible apply VB.ef; focus omega) | (with_reducible apply VB.nt; focus omega) | (with_reducible apply VB.nf; focus omega) | fail)
      conv => whnf
      refine VNew.dat (cs' := limbs [1]) rfl rfl ?_
      repeat' ((conv => whnf); first | refine ngo ?_ | refine VB.tt ?_ | refine VB.ff ?_ | refine VNew.keep ?_ | refine dgo ?_ | refine sgo ?_ | refine ddo ?_ | refine And.intro (Nat.le_of_ble_eq_true rfl) ?_ | (with_reducible apply VB.id; rw [bneI]) | (with_reducible apply VB.id; rw [beqI]) | (with_reducible apply VB.dt; focus omega) | (with_reducible apply VB.df; focus omega) | (with_reducible apply VB.et; focus omega) | (with_reducible apply VB.ef; focus omega) | (with_reducible apply VB.nt; focus omega) | (with_reducible apply VB.nf; focus omega) | fail)
      conv => whnf
      rw [one_nat]
      refine VCall.iq (slowest_c (neg := true) (by decide) (by omega) (by omega)) ?_
      repeat' ((conv => whnf); first | refine ngo ?_ | refine VB.tt ?_ | refine VB.ff ?_ | refine VNew.keep ?_ | refine dgo ?_ | refine sgo ?_ | refine ddo ?_ | refine And.intro (Nat.le_of_ble_eq_true rfl) ?_ | (with_reducible apply VB.id; rw [bneI]) | (with_reducible apply VB.id; rw [beqI]) | (with_reducible apply VB.dt; focus omega) | (with_reducible apply VB.df; focus omega) | (with_reducible apply VB.et; focus omega) | (with_reducible apply VB.ef; focus omega) | (with_reducible apply VB.nt; focus omega) | (with_reducible apply VB.nf; focus omega) | fail)
      conv => whnf
      exact .same rfl (low_ratV 0 _)
    · rw [if_neg (by rintro ⟨_, e⟩; exact h (by have := List.length_pos_iff.2 (fun e2 => e (dg_eq_nil.1 e2)); omega))]
      repeat' ((conv => whnf); first | refine ngo ?_ | refine VB.tt ?_ | refine VB.ff ?_ | refine dgo ?_ | refine sgo ?_ | refine ddo ?_ | refine And.intro (Nat.le_of_ble_eq_true rfl) ?_ | (with_reducible apply VB.id; rw [bneI]) | (with_reducible apply VB.id; rw [beqI]) | (with_reducible apply VB.dt; focus omega) | (with_reducible apply VB.df; focus omega) | (with_reducible apply VB.et; focus omega) | (with_reducible apply VB.ef; focus omega) | (with_reducible apply VB.nt; focus omega) | (with_reducible apply VB.nf; focus omega) | fail)
      conv => whnf
      refine VNew.dat (cs' := limbs [1]) rfl rfl ?_
      repeat' ((conv => whnf); first | refine ngo ?_ | refine VB.tt ?_ | refine VB.ff ?_ | refine VNew.keep ?_ | refine dgo ?_ | refine sgo ?_ | refine ddo ?_ | refine And.intro (Nat.le_of_ble_eq_true rfl) ?_ | (with_reducible apply VB.id; rw [bneI]) | (with_reducible apply VB.id; rw [beqI]) | (with_reducible apply VB.dt; focus omega) | (with_reducible apply VB.df; focus omega) | (with_reducible apply VB.et; focus omega) | (with_reducible apply VB.ef; focus omega) | (with_reducible apply VB.nt; focus omega) | (with_reducible apply VB.nf; focus omega) | fail)
      conv => whnf
      rw [one_nat]
      refine VCall.iq (slowest_c (neg := true) (by decide) (by omega) (by omega)) ?_
      repeat' ((conv => whnf); first | refine ngo ?_ | refine VB.tt ?_ | refine VB.ff ?_ | refine VNew.keep ?_ | refine dgo ?_ | refine sgo ?_ | refine ddo ?_ | refine And.intro (Nat.le_of_ble_eq_true rfl) ?_ | (with_reducible apply VB.id; rw [bneI]) | (with_reducible apply VB.id; rw [beqI]) | (with_reducible apply VB.dt; focus omega) | (with_reducible apply VB.df; focus omega) | (with_reducible apply VB.et; focus omega) | (with_reducible apply VB.ef; focus omega) | (with_reducible apply VB.nt; focus omega) | (with_reducible apply VB.nf; focus omega) | fail)
      conv => whnf
      exact .same rfl (low_ratV 0 _)

theorem sdown_c (a : Rat) (hl : rl a < 2000000) : VCall EE 85 [ratV a] [] fun v H => Fz H 0 [] v (ratV (a.floor : Rat)) := by
  have h1 := rl_num a; have h2 := rl_den a
  have h := sdown_raw (b := decide (a.num < 0)) (n := a.num.natAbs) a.den_nz (by omega) (by omega)
  rw [floor_mkQ]
  simp only [decide_eq_true_iff] at h
  exact h

end Go.Proofs.Ytoijfbdjlagooaa


/- Contracts: checks of fractions, results that fit. -/
namespace Go.Proofs.Ytoijfbdjlagooaa
open Go Go.RowKit
set_option linter.unusedVariables false
set_option linter.unusedSimpArgs false
set_option maxRecDepth 100000

/-- A fraction as it was handed in. -/
structure RawQ where
  neg : Bool
  num : List Nat
  den : List Nat
def rawC (r : RawQ) : List AV := [.bool r.neg, natL r.num, natL r.den]
def rawV (r : RawQ) : AV := .agg (rawC r)
def lenQ (r : RawQ) (m : Nat) : Prop := r.num.length < m ∧ r.den.length < m
def partsQ (num den : List Nat) : Int := if chk num = 0 then (if chk den = 0 then (if den = [] then 6 else 0) else chk den) else chk num
def chkQ (r : RawQ) : Int := if partsQ r.num r.den = 0 then (if Nat.gcd (val r.num) (val r.den) = 1 ∧ (r.neg = true → r.num ≠ []) then 0 else 3) else partsQ r.num r.den
def bothQ (a b : RawQ) : Int := if chkQ a = 0 then chkQ b else chkQ a
def valQ (r : RawQ) : Rat := mkQ r.neg (val r.num) (val r.den)
def rq (q : Rat) : RawQ := ⟨decide (q.num < 0), dg q.num.natAbs, dg q.den⟩
def rz : RawQ := ⟨false, [], []⟩
def outR (e : Int) (q : Rat) : RawQ := if e = 0 then rq q else rz
def outQ (e : Int) (q : Rat) : AV := .tup [rawV (outR e q), .int .i64 e]
def ovf (q : Rat) : Int := if 1024 < rl q then 5 else 0

theorem low_rawV (n : Nat) (r : RawQ) : (rawV r).low n := ⟨trivial, low_natL n _, low_natL n _, trivial⟩
theorem low_outQ (n : Nat) (e : Int) (q : Rat) : (outQ e q).low n := ⟨low_rawV n _, trivial, trivial⟩
theorem rawV_rq (q : Rat) : rawV (rq q) = ratV q := rfl
theorem partsQ_zero {num den : List Nat} (h : partsQ num den = 0) : (chk num = 0 ∧ chk den = 0) ∧ den ≠ [] := by
  unfold partsQ at h
  split at h
  · split at h
    · split at h
      · cases h
      · exact ⟨⟨by assumption, by assumption⟩, by assumption⟩
    · exact absurd h (by assumption)
  · exact absurd h (by assumption)
theorem val_ne_zero {l : List Nat} (hc : canon l) (h : l ≠ []) : val l ≠ 0 := fun e => h (by rw [← dg_val hc, e, dg_zero])
theorem chkQ_zero {r : RawQ} (h : chkQ r = 0) : rawV r = ratV (valQ r) ∧ rl (valQ r) ≤ 1024 ∧ canon r.num ∧ canon r.den ∧ r.num.length ≤ 1024 ∧ r.den.length ≤ 1024 := by
  unfold chkQ at h
  split at h
  · rename_i hp
    obtain ⟨⟨h1, h2⟩, h3⟩ := partsQ_zero hp
    obtain ⟨c1, l1⟩ := chk_zero h1
    obtain ⟨c2, l2⟩ := chk_zero h2
    split at h
    · rename_i hg
      have hd := val_ne_zero c2 h3
      refine ⟨?_, ?_, c1, c2, l1, l2⟩
      · by_cases hn : val r.num = 0
        · have hnil : r.num = [] := by rw [← dg_val c1, hn, dg_zero]
          have hneg : r.neg = false := by
            cases hh : r.neg with
            | false => rfl
            | true => exact absurd hnil (hg.2 hh)
          have hdv : val r.den = 1 := by have := hg.1; rw [hn, Nat.gcd_zero_left] at this; exact this
          rw [valQ, hn, mkQ_zero, ratV_zero, rawV, rawC, hneg, canon_natL c1, canon_natL c2, hn, hdv]
        · rw [valQ, ratV_mkQ hd hn, hg.1, Nat.div_one, Nat.div_one, rawV, rawC, canon_natL c1, canon_natL c2]
      · exact rl_mkQ (by rw [dg_val c1]; exact l1) (by rw [dg_val c2]; exact l2) hd
    · cases h
  · rename_i hp; exact absurd h hp
theorem bothQ_zero {a b : RawQ} (h : bothQ a b = 0) : chkQ a = 0 ∧ chkQ b = 0 := by
  unfold bothQ at h
  split at h
  · exact ⟨by assumption, h⟩
  · exact absurd h (by assumption)

theorem length_ratsC (l : List Rat) : (ratsC l).length = 3 * l.length := by
  induction l with
  | nil => rfl
  | cons q l ih =>
    show (ratC q ++ ratsC l).length = _
    rw [List.length_append, ih, List.length_cons]
    show 3 + _ = _
    omega
theorem drop_ratsC {l : List Rat} {i : Nat} (h : i < l.length) : (ratsC l).drop (i * 3) = ratC (l.getD i 0) ++ ratsC (l.drop (i + 1)) := by
  induction l generalizing i with
  | nil => simp at h
  | cons q l ih =>
    cases i with
    | zero => rfl
    | succ i =>
      have := ih (i := i) (by simpa using h)
      rw [show (i + 1) * 3 = 3 + i * 3 by omega, ← List.drop_drop]
      exact this
theorem take_ratsC {l : List Rat} {i : Nat} (h : i < l.length) : ((ratsC l).drop (i * 3)).take 3 = ratC (l.getD i 0) := by
  rw [drop_ratsC h]
  rfl

theorem longq_c (l : List Rat) (hl : l.length < 1000000000) : VCall EE 91 [vecV l] [] fun v H => v = .bool (l.any fun q => decide (1024 < rl q)) := by
  refine VCall.of_body true Try.func91 rfl (by decide) rfl ?_
  have hlen := length_ratsC l
  repeat' ((conv => whnf); first | refine ngo ?_ | refine VB.tt ?_ | refine VB.ff ?_ | refine VNew.keep ?_ | refine dgo ?_ | refine sgo ?_ | refine ddo ?_ | refine And.intro (Nat.le_of_ble_eq_true rfl) ?_ | (with_reducible apply VB.id; rw [bneI]) | (with_reducible apply VB.id; rw [beqI]) | (with_reducible apply VB.dt; focus omega) | (with_reducible apply VB.df; focus omega) | (with_reducible apply VB.et; focus omega) | (with_reducible apply VB.ef; focus omega) | (with_reducible apply VB.nt; focus omega) | (with_reducible apply VB.nf; focus omega) | fail)
  conv => whnf
  refine VLoop.tr true (fun i : Nat => ⟨[(5, vecV l), (6, .int .i64 l.length), (7, .int .i64 i)], [], []⟩) (fun i => i ≤ l.length ∧ ∀ j, j < i → ¬ 1024 < rl (l.getD j 0)) (fun i => l.length - i) 0 ⟨Nat.zero_le _, fun j hj => absurd hj (Nat.not_lt_zero _)⟩ ⟨⟨rfl, rfl, rfl, trivial⟩, rfl, rfl⟩ ?_
  rintro i ⟨hi, hg⟩
  repeat' ((conv => whnf); first | refine ngo ?_ | refine VB.tt ?_ | refine VB.ff ?_ | refine VNew.keep ?_ | refine dgo ?_ | refine sgo ?_ | fail)
  conv => whnf
  refine VB.dec (fun h2 => ?_) (fun h2 => ?_)
  · have ht := take_ratsC (l := l) (i := i) (by omega)
    have hd := drop_ratsC (l := l) (i := i) (by omega)
    have hm : l.getD i 0 ∈ l := by simp [List.getD_eq_getElem?_getD, show i < l.length by omega]
    repeat' ((conv => whnf); first | refine ngo ?_ | refine VB.tt ?_ | refine VB.ff ?_ | refine VNew.keep ?_ | refine dgo ?_ | refine sgo ?_ | fail)
    conv => whnf
    rw [Int.toNat_natCast, hd]
    generalize hq : l.getD i 0 = q at *
    have h3 : rl q = max (dg q.num.natAbs).length (dg q.den).length := rfl
    repeat' ((conv => whnf); first | refine ngo ?_ | refine VB.tt ?_ | refine VB.ff ?_ | refine VNew.keep ?_ | refine dgo ?_ | refine sgo ?_ | refine ddo ?_ | refine And.intro (Nat.le_of_ble_eq_true rfl) ?_ | (with_reducible apply VB.id; rw [bneI]) | (with_reducible apply VB.id; rw [beqI]) | (with_reducible apply VB.dt; focus omega) | (with_reducible apply VB.df; focus omega) | (with_reducible apply VB.et; focus omega) | (with_reducible apply VB.ef; focus omega) | (with_reducible apply VB.nt; focus omega) | (with_reducible apply VB.nf; focus omega) | fail)
    conv => whnf
    by_cases ha : ((dg q.num.natAbs).length : Int) > 1024
    · rw [decide_eq_true ha]
      repeat' ((conv => whnf); first | refine ngo ?_ | refine VB.tt ?_ | refine VB.ff ?_ | refine VNew.keep ?_ | refine dgo ?_ | refine sgo ?_ | refine ddo ?_ | refine And.intro (Nat.le_of_ble_eq_true rfl) ?_ | (with_reducible apply VB.id; rw [bneI]) | (with_reducible apply VB.id; rw [beqI]) | (with_reducible apply VB.dt; focus omega) | (with_reducible apply VB.df; focus omega) | (with_reducible apply VB.et; focus omega) | (with_reducible apply VB.ef; focus omega) | (with_reducible apply VB.nt; focus omega) | (with_reducible apply VB.nf; focus omega) | fail)
      conv => whnf
      rw [List.any_eq_true.2 ⟨q, hm, decide_eq_true (by omega)⟩]
    · rw [decide_eq_false ha]
      repeat' ((conv => whnf); first | refine ngo ?_ | refine VB.tt ?_ | refine VB.ff ?_ | refine VNew.keep ?_ | refine dgo ?_ | refine sgo ?_ | refine ddo ?_ | refine And.intro (Nat.le_of_ble_eq_true rfl) ?_ | (with_reducible apply VB.id; rw [bneI]) | (with_reducible apply VB.id; rw [beqI]) | (with_reducible apply VB.dt; focus omega) | (with_reducible apply VB.df; focus omega) | (with_reducible apply VB.et; focus omega) | (with_reducible apply VB.ef; focus omega) | (with_reducible apply VB.nt; focus omega) | (with_reducible apply VB.nf; focus omega) | fail)
      conv => whnf
      by_cases hb : ((dg q.den).length : Int) > 1024
      · rw [decide_eq_true hb]
        repeat' ((conv => whnf); first | refine ngo ?_ | refine VB.tt ?_ | refine VB.ff ?_ | refine VNew.keep ?_ | refine dgo ?_ | refine sgo ?_ | refine ddo ?_ | refine And.intro (Nat.le_of_ble_eq_true rfl) ?_ | (with_reducible apply VB.id; rw [bneI]) | (with_reducible apply VB.id; rw [beqI]) | (with_reducible apply VB.dt; focus omega) | (with_reducible apply VB.df; focus omega) | (with_reducible apply VB.et; focus omega) | (with_reducible apply VB.ef; focus omega) | (with_reducible apply VB.nt; focus omega) | (with_reducible apply VB.nf; focus omega) | fail)
        conv => whnf
        rw [List.any_eq_true.2 ⟨q, hm, decide_eq_true (by omega)⟩]
      · rw [decide_eq_false hb]
        repeat' ((conv => whnf); first | refine ngo ?_ | refine VB.tt ?_ | refine VB.ff ?_ | refine VNew.keep ?_ | refine dgo ?_ | refine sgo ?_ | refine ddo ?_ | refine And.intro (Nat.le_of_ble_eq_true rfl) ?_ | (with_reducible apply VB.id; rw [bneI]) | (with_reducible apply VB.id; rw [beqI]) | (with_reducible apply VB.dt; focus omega) | (with_reducible apply VB.df; focus omega) | (with_reducible apply VB.et; focus omega) | (with_reducible apply VB.ef; focus omega) | (with_reducible apply VB.nt; focus omega) | (with_reducible apply VB.nf; focus omega) | fail)
        conv => whnf
        refine ⟨i + 1, ⟨by omega, fun j hj => ?_⟩, by omega, [], by simp, by simp, trivial, ⟨⟨_, rfl, .same rfl (low_vecV 0 l)⟩, ⟨_, rfl, .same rfl trivial⟩, ⟨_, rfl, .same (by simp) trivial⟩, trivial⟩, rfl, by simp⟩
        rcases Nat.lt_or_ge j i with hj2 | hj2
        · exact hg j hj2
        · obtain rfl : j = i := by omega
          rw [hq]
          omega
  · obtain rfl : i = l.length := by omega
    repeat' ((conv => whnf); first | refine ngo ?_ | refine VB.tt ?_ | refine VB.ff ?_ | refine VNew.keep ?_ | refine dgo ?_ | refine sgo ?_ | refine ddo ?_ | refine And.intro (Nat.le_of_ble_eq_true rfl) ?_ | (with_reducible apply VB.id; rw [bneI]) | (with_reducible apply VB.id; rw [beqI]) | (with_reducible apply VB.dt; focus omega) | (with_reducible apply VB.df; focus omega) | (with_reducible apply VB.et; focus omega) | (with_reducible apply VB.ef; focus omega) | (with_reducible apply VB.nt; focus omega) | (with_reducible apply VB.nf; focus omega) | fail)
    conv => whnf
    rw [List.any_eq_false.2]
    intro q hq
    obtain ⟨j, hj, rfl⟩ := List.getElem_of_mem hq
    have := hg j hj
    rw [show l.getD j 0 = l[j] by simp [List.getD_eq_getElem?_getD, hj]] at this
    simpa using this

theorem fitsq_c (q : Rat) (hl : rl q < 1000000000) : VCall EE 51 [ratV q] [] fun v H => Fz H 0 [] v (outQ (ovf q) q) := by
  refine VCall.of_body true Try.func51 rfl (by decide) rfl ?_
  repeat' ((conv => whnf); first | refine ngo ?_ | refine VB.tt ?_ | refine VB.ff ?_ | refine dgo ?_ | refine sgo ?_ | refine ddo ?_ | refine And.intro (Nat.le_of_ble_eq_true rfl) ?_ | (with_reducible apply VB.id; rw [bneI]) | (with_reducible apply VB.id; rw [beqI]) | (with_reducible apply VB.dt; focus omega) | (with_reducible apply VB.df; focus omega) | (with_reducible apply VB.et; focus omega) | (with_reducible apply VB.ef; focus omega) | (with_reducible apply VB.nt; focus omega) | (with_reducible apply VB.nf; focus omega) | fail)
  conv => whnf
  refine VNew.dat (cs' := ratsC [q]) rfl rfl ?_
  repeat' ((conv => whnf); first | refine ngo ?_ | refine VB.tt ?_ | refine VB.ff ?_ | refine VNew.keep ?_ | refine dgo ?_ | refine sgo ?_ | refine ddo ?_ | refine And.intro (Nat.le_of_ble_eq_true rfl) ?_ | (with_reducible apply VB.id; rw [bneI]) | (with_reducible apply VB.id; rw [beqI]) | (with_reducible apply VB.dt; focus omega) | (with_reducible apply VB.df; focus omega) | (with_reducible apply VB.et; focus omega) | (with_reducible apply VB.ef; focus omega) | (with_reducible apply VB.nt; focus omega) | (with_reducible apply VB.nf; focus omega) | fail)
  conv => whnf
  refine VCall.sq (longq_c [q] (by simp)) ?_
  rw [show ([q].any fun q => decide (1024 < rl q)) = decide (1024 < rl q) by simp]
  repeat' ((conv => whnf); first | refine ngo ?_ | refine VB.tt ?_ | refine VB.ff ?_ | refine VNew.keep ?_ | refine dgo ?_ | refine sgo ?_ | refine ddo ?_ | refine And.intro (Nat.le_of_ble_eq_true rfl) ?_ | (with_reducible apply VB.id; rw [bneI]) | (with_reducible apply VB.id; rw [beqI]) | (with_reducible apply VB.dt; focus omega) | (with_reducible apply VB.df; focus omega) | (with_reducible apply VB.et; focus omega) | (with_reducible apply VB.ef; focus omega) | (with_reducible apply VB.nt; focus omega) | (with_reducible apply VB.nf; focus omega) | fail)
  conv => whnf
  refine VB.dec (fun h => ?_) (fun h => ?_)
  · repeat' ((conv => whnf); first | refine ngo ?_ | refine VB.tt ?_ | refine VB.ff ?_ | refine VNew.keep ?_ | refine dgo ?_ | refine sgo ?_ | refine ddo ?_ | refine And.intro (Nat.le_of_ble_eq_true rfl) ?_ | (with_reducible apply VB.id; rw [bneI]) | (with_reducible apply VB.id; rw [beqI]) | (with_reducible apply VB.dt; focus omega) | (with_reducible apply VB.df; focus omega) | (with_reducible apply VB.et; focus omega) | (with_reducible apply VB.ef; focus omega) | (with_reducible apply VB.nt; focus omega) | (with_reducible apply VB.nf; focus omega) | fail)
    conv => whnf
    rw [ovf, if_pos h, outQ, outR, if_neg (by decide)]
    exact .tup (.cons (.agg (.cons (.same rfl trivial) (.cons .nsl (.cons .nsl .nil)))) (.cons (.same rfl trivial) .nil))
  · repeat' ((conv => whnf); first | refine ngo ?_ | refine VB.tt ?_ | refine VB.ff ?_ | refine VNew.keep ?_ | refine dgo ?_ | refine sgo ?_ | refine ddo ?_ | refine And.intro (Nat.le_of_ble_eq_true rfl) ?_ | (with_reducible apply VB.id; rw [bneI]) | (with_reducible apply VB.id; rw [beqI]) | (with_reducible apply VB.dt; focus omega) | (with_reducible apply VB.df; focus omega) | (with_reducible apply VB.et; focus omega) | (with_reducible apply VB.ef; focus omega) | (with_reducible apply VB.nt; focus omega) | (with_reducible apply VB.nf; focus omega) | fail)
    conv => whnf
    rw [ovf, if_neg h, outQ, outR, if_pos rfl]
    exact .tup (.cons (.same rfl (low_ratV 0 _)) (.cons (.same rfl trivial) .nil))

theorem cmpN_zero {a b : Nat} : cmpN a b = 0 ↔ a = b := by
  unfold cmpN
  constructor
  · intro h
    split at h
    · cases h
    · split at h
      · assumption
      · cases h
  · rintro rfl
    simp

theorem qcheck_raw {neg : Bool} {num den : List Nat} (l1 : num.length < 1000000000000000000) (l2 : den.length < 1000000000000000000) : VCall EE 30 [.agg [.bool neg, natL num, natL den]] [] fun v H => v = .int .i64 (chkQ ⟨neg, num, den⟩) := by
  refine VCall.of_body true Try.func30 rfl (by decide) rfl ?_
  repeat' ((conv => whnf); first | refine ngo ?_ | refine VB.tt ?_ | refine VB.ff ?_ | refine VNew.keep ?_ | refine dgo ?_ | refine sgo ?_ | refine ddo ?_ | refine And.intro (Nat.le_of_ble_eq_true rfl) ?_ | (with_reducible apply VB.id; rw [bneI]) | (with_reducible apply VB.id; rw [beqI]) | (with_reducible apply VB.dt; focus omega) | (with_reducible apply VB.df; focus omega) | (with_reducible apply VB.et; focus omega) | (with_reducible apply VB.ef; focus omega) | (with_reducible apply VB.nt; focus omega) | (with_reducible apply VB.nf; focus omega) | fail)
  conv => whnf
  refine VCall.sq (check_c num (by omega)) ?_
  repeat' ((conv => whnf); first | refine ngo ?_ | refine VB.tt ?_ | refine VB.ff ?_ | refine VNew.keep ?_ | refine dgo ?_ | refine sgo ?_ | refine ddo ?_ | refine And.intro (Nat.le_of_ble_eq_true rfl) ?_ | (with_reducible apply VB.id; rw [bneI]) | (with_reducible apply VB.id; rw [beqI]) | (with_reducible apply VB.dt; focus omega) | (with_reducible apply VB.df; focus omega) | (with_reducible apply VB.et; focus omega) | (with_reducible apply VB.ef; focus omega) | (with_reducible apply VB.nt; focus omega) | (with_reducible apply VB.nf; focus omega) | fail)
  conv => whnf
  refine VB.ne (fun h => ?_) (fun h => ?_)
  · repeat' ((conv => whnf); first | refine ngo ?_ | refine VB.tt ?_ | refine VB.ff ?_ | refine VNew.keep ?_ | refine dgo ?_ | refine sgo ?_ | refine ddo ?_ | refine And.intro (Nat.le_of_ble_eq_true rfl) ?_ | (with_reducible apply VB.id; rw [bneI]) | (with_reducible apply VB.id; rw [beqI]) | (with_reducible apply VB.dt; focus omega) | (with_reducible apply VB.df; focus omega) | (with_reducible apply VB.et; focus omega) | (with_reducible apply VB.ef; focus omega) | (with_reducible apply VB.nt; focus omega) | (with_reducible apply VB.nf; focus omega) | fail)
    conv => whnf
    rw [chkQ, partsQ, if_neg h, if_neg h]
  · obtain ⟨c1, m1⟩ := chk_zero h
    repeat' ((conv => whnf); first | refine ngo ?_ | refine VB.tt ?_ | refine VB.ff ?_ | refine VNew.keep ?_ | refine dgo ?_ | refine sgo ?_ | refine ddo ?_ | refine And.intro (Nat.le_of_ble_eq_true rfl) ?_ | (with_reducible apply VB.id; rw [bneI]) | (with_reducible apply VB.id; rw [beqI]) | (with_reducible apply VB.dt; focus omega) | (with_reducible apply VB.df; focus omega) | (with_reducible apply VB.et; focus omega) | (with_reducible apply VB.ef; focus omega) | (with_reducible apply VB.nt; focus omega) | (with_reducible apply VB.nf; focus omega) | fail)
    conv => whnf
    refine VCall.sq (check_c den (by omega)) ?_
    repeat' ((conv => whnf); first | refine ngo ?_ | refine VB.tt ?_ | refine VB.ff ?_ | refine VNew.keep ?_ | refine dgo ?_ | refine sgo ?_ | refine ddo ?_ | refine And.intro (Nat.le_of_ble_eq_true rfl) ?_ | (with_reducible apply VB.id; rw [bneI]) | (with_reducible apply VB.id; rw [beqI]) | (with_reducible apply VB.dt; focus omega) | (with_reducible apply VB.df; focus omega) | (with_reducible apply VB.et; focus omega) | (with_reducible apply VB.ef; focus omega) | (with_reducible apply VB.nt; focus omega) | (with_reducible apply VB.nf; focus omega) | fail)
    conv => whnf
    refine VB.ne (fun h2 => ?_) (fun h2 => ?_)
    · repeat' ((conv => whnf); first | refine ngo ?_ | refine VB.tt ?_ | refine VB.ff ?_ | refine VNew.keep ?_ | refine dgo ?_ | refine sgo ?_ | refine ddo ?_ | refine And.intro (Nat.le_of_ble_eq_true rfl) ?_ | (with_reducible apply VB.id; rw [bneI]) | (with_reducible apply VB.id; rw [beqI]) | (with_reducible apply VB.dt; focus omega) | (with_reducible apply VB.df; focus omega) | (with_reducible apply VB.et; focus omega) | (with_reducible apply VB.ef; focus omega) | (with_reducible apply VB.nt; focus omega) | (with_reducible apply VB.nf; focus omega) | fail)
      conv => whnf
      rw [chkQ, partsQ, if_pos h, if_neg h2, if_neg h2]
    · obtain ⟨c2, m2⟩ := chk_zero h2
      repeat' ((conv => whnf); first | refine ngo ?_ | refine VB.tt ?_ | refine VB.ff ?_ | refine VNew.keep ?_ | refine dgo ?_ | refine sgo ?_ | refine ddo ?_ | refine And.intro (Nat.le_of_ble_eq_true rfl) ?_ | (with_reducible apply VB.id; rw [bneI]) | (with_reducible apply VB.id; rw [beqI]) | (with_reducible apply VB.dt; focus omega) | (with_reducible apply VB.df; focus omega) | (with_reducible apply VB.et; focus omega) | (with_reducible apply VB.ef; focus omega) | (with_reducible apply VB.nt; focus omega) | (with_reducible apply VB.nf; focus omega) | fail)
      conv => whnf
      refine VB.eq (fun h3 => ?_) (fun h3 => ?_)
      · have : den = [] := List.length_eq_zero_iff.1 (by omega)
        repeat' ((conv => whnf); first | refine ngo ?_ | refine VB.tt ?_ | refine VB.ff ?_ | refine VNew.keep ?_ | refine dgo ?_ | refine sgo ?_ | refine ddo ?_ | refine And.intro (Nat.le_of_ble_eq_true rfl) ?_ | (with_reducible apply VB.id; rw [bneI]) | (with_reducible apply VB.id; rw [beqI]) | (with_reducible apply VB.dt; focus omega) | (with_reducible apply VB.df; focus omega) | (with_reducible apply VB.et; focus omega) | (with_reducible apply VB.ef; focus omega) | (with_reducible apply VB.nt; focus omega) | (with_reducible apply VB.nf; focus omega) | fail)
        conv => whnf
        rw [chkQ, partsQ, if_pos h, if_pos h2, if_pos this, if_neg (by decide)]
      · have h3' : den ≠ [] := fun e => h3 (by rw [e]; rfl)
        have hp : partsQ num den = 0 := by rw [partsQ, if_pos h, if_pos h2, if_neg h3']
        have hd := val_ne_zero c2 h3'
        by_cases hn : num = []
        · subst hn
          cases neg
          · repeat' ((conv => whnf); first | refine ngo ?_ | refine VB.tt ?_ | refine VB.ff ?_ | refine VNew.keep ?_ | refine dgo ?_ | refine sgo ?_ | refine ddo ?_ | refine And.intro (Nat.le_of_ble_eq_true rfl) ?_ | (with_reducible apply VB.id; rw [bneI]) | (with_reducible apply VB.id; rw [beqI]) | (with_reducible apply VB.dt; focus omega) | (with_reducible apply VB.df; focus omega) | (with_reducible apply VB.et; focus omega) | (with_reducible apply VB.ef; focus omega) | (with_reducible apply VB.nt; focus omega) | (with_reducible apply VB.nf; focus omega) | fail)
            conv => whnf
            have hcm := common_n (a := val ([]:List Nat)) (b := val den) (by rw [dg_val c1]; omega) (by rw [dg_val c2]; omega)
            rw [← canon_natL c1, ← canon_natL c2] at hcm
            have lg : (dg (Nat.gcd (val ([]:List Nat)) (val den))).length ≤ (dg (val den)).length := dg_length_mono (Nat.le_of_dvd (Nat.pos_of_ne_zero hd) (Nat.gcd_dvd_right _ _))
            rw [dg_val c2] at lg
            have l1' := dg_len_one
            refine VCall.iq (hcm) ?_
            repeat' ((conv => whnf); first | refine ngo ?_ | refine VB.tt ?_ | refine VB.ff ?_ | refine dgo ?_ | refine sgo ?_ | refine ddo ?_ | refine And.intro (Nat.le_of_ble_eq_true rfl) ?_ | (with_reducible apply VB.id; rw [bneI]) | (with_reducible apply VB.id; rw [beqI]) | (with_reducible apply VB.dt; focus omega) | (with_reducible apply VB.df; focus omega) | (with_reducible apply VB.et; focus omega) | (with_reducible apply VB.ef; focus omega) | (with_reducible apply VB.nt; focus omega) | (with_reducible apply VB.nf; focus omega) | fail)
            conv => whnf
            refine VNew.dat (cs' := limbs [1]) rfl rfl ?_
            repeat' ((conv => whnf); first | refine ngo ?_ | refine VB.tt ?_ | refine VB.ff ?_ | refine VNew.keep ?_ | refine dgo ?_ | refine sgo ?_ | refine ddo ?_ | refine And.intro (Nat.le_of_ble_eq_true rfl) ?_ | (with_reducible apply VB.id; rw [bneI]) | (with_reducible apply VB.id; rw [beqI]) | (with_reducible apply VB.dt; focus omega) | (with_reducible apply VB.df; focus omega) | (with_reducible apply VB.et; focus omega) | (with_reducible apply VB.ef; focus omega) | (with_reducible apply VB.nt; focus omega) | (with_reducible apply VB.nf; focus omega) | fail)
            conv => whnf
            rw [one_nat]
            refine VCall.sq (order_n (by omega) (by omega)) ?_
            repeat' ((conv => whnf); first | refine ngo ?_ | refine VB.tt ?_ | refine VB.ff ?_ | refine VNew.keep ?_ | refine dgo ?_ | refine sgo ?_ | refine ddo ?_ | refine And.intro (Nat.le_of_ble_eq_true rfl) ?_ | (with_reducible apply VB.id; rw [bneI]) | (with_reducible apply VB.id; rw [beqI]) | (with_reducible apply VB.dt; focus omega) | (with_reducible apply VB.df; focus omega) | (with_reducible apply VB.et; focus omega) | (with_reducible apply VB.ef; focus omega) | (with_reducible apply VB.nt; focus omega) | (with_reducible apply VB.nf; focus omega) | fail)
            conv => whnf
            refine VB.ne (fun h5 => ?_) (fun h5 => ?_)
            · have h5 := fun e => h5 (cmpN_zero.2 e)
              repeat' ((conv => whnf); first | refine ngo ?_ | refine VB.tt ?_ | refine VB.ff ?_ | refine VNew.keep ?_ | refine dgo ?_ | refine sgo ?_ | refine ddo ?_ | refine And.intro (Nat.le_of_ble_eq_true rfl) ?_ | (with_reducible apply VB.id; rw [bneI]) | (with_reducible apply VB.id; rw [beqI]) | (with_reducible apply VB.dt; focus omega) | (with_reducible apply VB.df; focus omega) | (with_reducible apply VB.et; focus omega) | (with_reducible apply VB.ef; focus omega) | (with_reducible apply VB.nt; focus omega) | (with_reducible apply VB.nf; focus omega) | fail)
              conv => whnf
              rw [chkQ, if_pos hp, if_neg (by rintro ⟨e, _⟩; exact h5 e)]
            · rw [cmpN_zero] at h5
              repeat' ((conv => whnf); first | refine ngo ?_ | refine VB.tt ?_ | refine VB.ff ?_ | refine VNew.keep ?_ | refine dgo ?_ | refine sgo ?_ | refine ddo ?_ | refine And.intro (Nat.le_of_ble_eq_true rfl) ?_ | (with_reducible apply VB.id; rw [bneI]) | (with_reducible apply VB.id; rw [beqI]) | (with_reducible apply VB.dt; focus omega) | (with_reducible apply VB.df; focus omega) | (with_reducible apply VB.et; focus omega) | (with_reducible apply VB.ef; focus omega) | (with_reducible apply VB.nt; focus omega) | (with_reducible apply VB.nf; focus omega) | fail)
              conv => whnf
              rw [chkQ, if_pos hp, if_pos ⟨h5, (fun e => by cases e)⟩]
          · repeat' ((conv => whnf); first | refine ngo ?_ | refine VB.tt ?_ | refine VB.ff ?_ | refine VNew.keep ?_ | refine dgo ?_ | refine sgo ?_ | refine ddo ?_ | refine And.intro (Nat.le_of_ble_eq_true rfl) ?_ | (with_reducible apply VB.id; rw [bneI]) | (with_reducible apply VB.id; rw [beqI]) | (with_reducible apply VB.dt; focus omega) | (with_reducible apply VB.df; focus omega) | (with_reducible apply VB.et; focus omega) | (with_reducible apply VB.ef; focus omega) | (with_reducible apply VB.nt; focus omega) | (with_reducible apply VB.nf; focus omega) | fail)
            conv => whnf
            rw [chkQ, if_pos hp, if_neg (by rintro ⟨_, e⟩; exact e rfl rfl)]
        · have hn2 : (num.length : Int) ≠ 0 := fun e => hn (List.length_eq_zero_iff.1 (by omega))
          repeat' ((conv => whnf); first | refine ngo ?_ | refine VB.tt ?_ | refine VB.ff ?_ | refine VNew.keep ?_ | refine dgo ?_ | refine sgo ?_ | refine ddo ?_ | refine And.intro (Nat.le_of_ble_eq_true rfl) ?_ | (with_reducible apply VB.id; rw [bneI]) | (with_reducible apply VB.id; rw [beqI]) | (with_reducible apply VB.dt; focus omega) | (with_reducible apply VB.df; focus omega) | (with_reducible apply VB.et; focus omega) | (with_reducible apply VB.ef; focus omega) | (with_reducible apply VB.nt; focus omega) | (with_reducible apply VB.nf; focus omega) | fail)
          conv => whnf
          rw [beq_eq_false_iff_ne.2 hn2]
          repeat' ((conv => whnf); first | refine ngo ?_ | refine VB.tt ?_ | refine VB.ff ?_ | refine VNew.keep ?_ | refine dgo ?_ | refine sgo ?_ | refine ddo ?_ | refine And.intro (Nat.le_of_ble_eq_true rfl) ?_ | (with_reducible apply VB.id; rw [bneI]) | (with_reducible apply VB.id; rw [beqI]) | (with_reducible apply VB.dt; focus omega) | (with_reducible apply VB.df; focus omega) | (with_reducible apply VB.et; focus omega) | (with_reducible apply VB.ef; focus omega) | (with_reducible apply VB.nt; focus omega) | (with_reducible apply VB.nf; focus omega) | fail)
          conv => whnf
          have hcm := common_n (a := val num) (b := val den) (by rw [dg_val c1]; omega) (by rw [dg_val c2]; omega)
          rw [← canon_natL c1, ← canon_natL c2] at hcm
          have lg : (dg (Nat.gcd (val num) (val den))).length ≤ (dg (val den)).length := dg_length_mono (Nat.le_of_dvd (Nat.pos_of_ne_zero hd) (Nat.gcd_dvd_right _ _))
          rw [dg_val c2] at lg
          have l1' := dg_len_one
          refine VCall.iq (hcm) ?_
          repeat' ((conv => whnf); first | refine ngo ?_ | refine VB.tt ?_ | refine VB.ff ?_ | refine dgo ?_ | refine sgo ?_ | refine ddo ?_ | refine And.intro (Nat.le_of_ble_eq_true rfl) ?_ | (with_reducible apply VB.id; rw [bneI]) | (with_reducible apply VB.id; rw [beqI]) | (with_reducible apply VB.dt; focus omega) | (with_reducible apply VB.df; focus omega) | (with_reducible apply VB.et; focus omega) | (with_reducible apply VB.ef; focus omega) | (with_reducible apply VB.nt; focus omega) | (with_reducible apply VB.nf; focus omega) | fail)
          conv => whnf
          refine VNew.dat (cs' := limbs [1]) rfl rfl ?_
          repeat' ((conv => whnf); first | refine ngo ?_ | refine VB.tt ?_ | refine VB.ff ?_ | refine VNew.keep ?_ | refine dgo ?_ | refine sgo ?_ | refine ddo ?_ | refine And.intro (Nat.le_of_ble_eq_true rfl) ?_ | (with_reducible apply VB.id; rw [bneI]) | (with_reducible apply VB.id; rw [beqI]) | (with_reducible apply VB.dt; focus omega) | (with_reducible apply VB.df; focus omega) | (with_reducible apply VB.et; focus omega) | (with_reducible apply VB.ef; focus omega) | (with_reducible apply VB.nt; focus omega) | (with_reducible apply VB.nf; focus omega) | fail)
          conv => whnf
          rw [one_nat]
          refine VCall.sq (order_n (by omega) (by omega)) ?_
          repeat' ((conv => whnf); first | refine ngo ?_ | refine VB.tt ?_ | refine VB.ff ?_ | refine VNew.keep ?_ | refine dgo ?_ | refine sgo ?_ | refine ddo ?_ | refine And.intro (Nat.le_of_ble_eq_true rfl) ?_ | (with_reducible apply VB.id; rw [bneI]) | (with_reducible apply VB.id; rw [beqI]) | (with_reducible apply VB.dt; focus omega) | (with_reducible apply VB.df; focus omega) | (with_reducible apply VB.et; focus omega) | (with_reducible apply VB.ef; focus omega) | (with_reducible apply VB.nt; focus omega) | (with_reducible apply VB.nf; focus omega) | fail)
          conv => whnf
          refine VB.ne (fun h5 => ?_) (fun h5 => ?_)
          · have h5 := fun e => h5 (cmpN_zero.2 e)
            repeat' ((conv => whnf); first | refine ngo ?_ | refine VB.tt ?_ | refine VB.ff ?_ | refine VNew.keep ?_ | refine dgo ?_ | refine sgo ?_ | refine ddo ?_ | refine And.intro (Nat.le_of_ble_eq_true rfl) ?_ | (with_reducible apply VB.id; rw [bneI]) | (with_reducible apply VB.id; rw [beqI]) | (with_reducible apply VB.dt; focus omega) | (with_reducible apply VB.df; focus omega) | (with_reducible apply VB.et; focus omega) | (with_reducible apply VB.ef; focus omega) | (with_reducible apply VB.nt; focus omega) | (with_reducible apply VB.nf; focus omega) | fail)
            conv => whnf
            rw [chkQ, if_pos hp, if_neg (by rintro ⟨e, _⟩; exact h5 e)]
          · rw [cmpN_zero] at h5
            repeat' ((conv => whnf); first | refine ngo ?_ | refine VB.tt ?_ | refine VB.ff ?_ | refine VNew.keep ?_ | refine dgo ?_ | refine sgo ?_ | refine ddo ?_ | refine And.intro (Nat.le_of_ble_eq_true rfl) ?_ | (with_reducible apply VB.id; rw [bneI]) | (with_reducible apply VB.id; rw [beqI]) | (with_reducible apply VB.dt; focus omega) | (with_reducible apply VB.df; focus omega) | (with_reducible apply VB.et; focus omega) | (with_reducible apply VB.ef; focus omega) | (with_reducible apply VB.nt; focus omega) | (with_reducible apply VB.nf; focus omega) | fail)
            conv => whnf
            rw [chkQ, if_pos hp, if_pos ⟨h5, (fun _ => hn)⟩]
theorem qcheck_c (r : RawQ) (hl : lenQ r 1000000000000000000) : VCall EE 30 [rawV r] [] fun v H => v = .int .i64 (chkQ r) := qcheck_raw hl.1 hl.2
end Go.Proofs.Ytoijfbdjlagooaa
