/- Contracts: the reference's sums and powers; the law of sums. -/
import Derived.Test.YtcdnonggajoghaaC14
namespace Go.Proofs.Ytcdnonggajoghaa
open Go Go.RowKit
set_option linter.unusedVariables false
set_option linter.unusedSimpArgs false
set_option maxRecDepth 100000

theorem canon_push {l : List Nat} {r : Nat} (h : okL l) (hr : r < BB) (h0 : r ≠ 0) : canon (l ++ [r]) :=
  ⟨okL_append.2 ⟨h, by intro z hz; rw [List.mem_singleton.1 hz]; exact hr⟩, fun x hx => by simp at hx; omega⟩
theorem top_ne {a : List Nat} (ha : canon a) {i : Nat} (h : i + 1 = a.length) : a.getD i 0 ≠ 0 := ha.2 _ (by rw [List.getLast?_eq_getElem?, List.getD_eq_getElem?_getD, show a.length - 1 = i by omega, List.getElem?_eq_getElem (by omega)]; rfl)

def sndC (c : Code) : Code := match c with
  | .seq _ y => y
  | c => c
def pSt (a b : List Nat) (i : Nat) (l : List Nat) (c : Nat) : St := ⟨[(0, natL a), (1, natL b), (5, accV l), (6, .int .u32 c), (7, .int .i64 i)], accH 30 l, []⟩

set_option maxHeartbeats 2000000 in
theorem plus_round {a b l : List Nat} {i c : Nat} (ha : canon a) (hb : canon b) (la : a.length < 10000000) (lb : b.length < 10000000) (hi : i < max a.length b.length + 1) (hll : l.length = i) (hok : okL l) (hc : c ≤ 1)
    (hv : val l + BB ^ i * c = val (a.take i) + val (b.take i)) (hin : max a.length b.length ≤ i → 0 < c) {Q : Exit → St → Prop}
    (hQ : ∀ (s2 : St) (l' : List Nat) (q : Nat), l'.length = i + 1 → okL l' → q ≤ 1 → val l' + BB ^ (i + 1) * q = val (a.take (i + 1)) + val (b.take (i + 1)) → (max a.length b.length ≤ i + 1 → q = 0 → canon l') → (∃ σ, Trunc 0 σ s2 (pSt a b (i + 1) l' q)) → Q .normal s2) :
    vcode EE true Try.f47.ntmps none (sndC (nthLoop Try.f47 0)) Q (pSt a b i l c) := by
  have hBB : BB = 1000000000 := rfl
  have hx := getD_lt ha.1 i
  have hy := getD_lt hb.1 i
  have hta := val_take_any a i
  have htb := val_take_any b i
  have ga : getInt (List.drop ((i : Int).toNat * 1) (limbs a)) = ((a.getD i 0 : Nat) : Int) := by rw [Int.toNat_natCast, Nat.mul_one, getInt_limbs]
  have gb : getInt (List.drop ((i : Int).toNat * 1) (limbs b)) = ((b.getD i 0 : Nat) : Int) := by rw [Int.toNat_natCast, Nat.mul_one, getInt_limbs]
  have za : a.length ≤ i → 0 = a.getD i 0 := fun h => by simp [List.getD_eq_getElem?_getD, h]
  have zb : b.length ≤ i → 0 = b.getD i 0 := fun h => by simp [List.getD_eq_getElem?_getD, h]
  have hxt : i + 1 = a.length → a.getD i 0 ≠ 0 := fun h => top_ne ha h
  have hyt : i + 1 = b.length → b.getD i 0 ≠ 0 := fun h => top_ne hb h
  generalize a.getD i 0 = x at *
  generalize b.getD i 0 = y at *
  repeat' ((conv => whnf); first | refine ngo ?_ | refine VB.tt ?_ | refine VB.ff ?_ | refine VNew.keep ?_ | refine dgo ?_ | refine sgo ?_ | fail)
  conv => whnf
  refine VB.dec (fun h1 => ?_) (fun h1 => ?_)
  · repeat' ((conv => whnf); first | refine ngo ?_ | refine VB.tt ?_ | refine VB.ff ?_ | refine VNew.keep ?_ | refine dgo ?_ | refine sgo ?_ | fail)
    conv => whnf
    rw [ga]
    repeat' ((conv => whnf); first | refine ngo ?_ | refine VB.tt ?_ | refine VB.ff ?_ | refine VNew.keep ?_ | refine dgo ?_ | refine sgo ?_ | fail)
    conv => whnf
    refine VB.dec (fun h2 => ?_) (fun h2 => ?_)
    · repeat' ((conv => whnf); first | refine ngo ?_ | refine VB.tt ?_ | refine VB.ff ?_ | refine VNew.keep ?_ | refine dgo ?_ | refine sgo ?_ | fail)
      conv => whnf
      rw [gb]
      obtain ⟨n, hn⟩ : ∃ n, n = c + x + y := ⟨_, rfl⟩
      have g0 : (c : Int) + (x : Int) + (y : Int) = (n : Int) := by omega
      have hmd := Nat.mod_add_div n BB
      have hmm := Nat.mod_lt n (show 0 < BB by decide)
      have hmq : n / BB ≤ 1 := Nat.le_of_lt_succ (Nat.div_lt_of_lt_mul (by omega))
      have g5 := tdiv_BB n
      have g6 := tmod_BB n
      generalize n / BB = q at *
      generalize n % BB = r at *
      have hnv : val (l ++ [r]) + BB ^ (i + 1) * q = val (a.take (i + 1)) + val (b.take (i + 1)) := by
        rw [val_append, hta, htb, hll, Nat.pow_succ, Nat.mul_assoc]
        simp only [val, Nat.mul_zero, Nat.add_zero]
        have e1 : BB ^ i * r + BB ^ i * (BB * q) = BB ^ i * c + BB ^ i * x + BB ^ i * y := by
          rw [← Nat.mul_add, hmd, hn, Nat.mul_add, Nat.mul_add]
        omega
      have hnok : okL (l ++ [r]) := okL_append.2 ⟨hok, by intro z hz; rw [List.mem_singleton.1 hz]; exact hmm⟩
      have hcan' : max a.length b.length ≤ i + 1 → q = 0 → canon (l ++ [r]) := fun h1 h2 => by
        subst h2
        refine canon_push hok hmm ?_
        have h3 : i + 1 = a.length ∨ i + 1 = b.length ∨ max a.length b.length ≤ i := by omega
        rcases h3 with h3 | h3 | h3
        · have := hxt h3; omega
        · have := hyt h3; omega
        · have := hin; omega
      repeat' ((conv => whnf); first | refine ngo ?_ | refine VB.tt ?_ | refine VB.ff ?_ | refine VNew.keep ?_ | refine dgo ?_ | refine sgo ?_ | fail)
      conv => whnf
      rw [g0]
      cases l with
      | nil =>
        repeat' ((conv => whnf); first | refine ngo ?_ | refine VB.tt ?_ | refine VB.ff ?_ | refine VNew.keep ?_ | refine dgo ?_ | refine sgo ?_ | fail)
        conv => whnf
        rw [g6]
        repeat' ((conv => whnf); first | refine ngo ?_ | refine VB.tt ?_ | refine VB.ff ?_ | refine VNew.keep ?_ | refine dgo ?_ | refine sgo ?_ | fail)
        conv => whnf
        refine hQ _ [r] q (by simp at hll ⊢; omega) hnok hmq hnv hcan' ⟨[1], by simp, by simp, ⟨⟨_, rfl, .cells rfl (FzL.same rfl (low_limbs _ [r]))⟩, trivial⟩, ⟨⟨_, rfl, .same rfl (low_natL _ _)⟩, ⟨_, rfl, .same rfl (low_natL _ _)⟩, ⟨_, rfl, .kosl (j := 0) rfl rfl rfl rfl⟩, ⟨_, rfl, .same (by rw [g5]) trivial⟩, ⟨_, rfl, .same (by simp) trivial⟩, trivial⟩, rfl, by simp [pSt]⟩
      | cons z l =>
        simp only [List.length_cons] at hll
        repeat' ((conv => whnf); first | refine ngo ?_ | refine VB.tt ?_ | refine VB.ff ?_ | refine VNew.keep ?_ | refine dgo ?_ | refine sgo ?_ | fail)
        conv => whnf
        rw [g6]
        repeat' ((conv => whnf); first | refine ngo ?_ | refine VB.tt ?_ | refine VB.ff ?_ | refine VNew.keep ?_ | refine dgo ?_ | refine sgo ?_ | fail)
        conv => whnf
        refine hQ _ (z :: l ++ [r]) q (by simp at hll ⊢; omega) hnok hmq hnv hcan' ⟨[0], by simp, by simp, ⟨⟨_, rfl, .cells (by simp) (FzL.same ?_ (low_limbs _ (z :: l ++ [r])))⟩, trivial⟩, ⟨⟨_, rfl, .same rfl (low_natL _ _)⟩, ⟨_, rfl, .same rfl (low_natL _ _)⟩, ⟨_, rfl, .kosl (j := 0) rfl rfl (by simp) (by simp)⟩, ⟨_, rfl, .same (by rw [g5]) trivial⟩, ⟨_, rfl, .same (by simp) trivial⟩, trivial⟩, rfl, by simp [pSt]⟩
        rw [Nat.mul_one, List.take_of_length_le (by simp [limbs])]
        simp [limbs]
    · have hy0 := zb (by omega)
      obtain ⟨n, hn⟩ : ∃ n, n = c + x + y := ⟨_, rfl⟩
      have g0 : (c : Int) + (x : Int) = (n : Int) := by omega
      have hmd := Nat.mod_add_div n BB
      have hmm := Nat.mod_lt n (show 0 < BB by decide)
      have hmq : n / BB ≤ 1 := Nat.le_of_lt_succ (Nat.div_lt_of_lt_mul (by omega))
      have g5 := tdiv_BB n
      have g6 := tmod_BB n
      generalize n / BB = q at *
      generalize n % BB = r at *
      have hnv : val (l ++ [r]) + BB ^ (i + 1) * q = val (a.take (i + 1)) + val (b.take (i + 1)) := by
        rw [val_append, hta, htb, hll, Nat.pow_succ, Nat.mul_assoc]
        simp only [val, Nat.mul_zero, Nat.add_zero]
        have e1 : BB ^ i * r + BB ^ i * (BB * q) = BB ^ i * c + BB ^ i * x + BB ^ i * y := by
          rw [← Nat.mul_add, hmd, hn, Nat.mul_add, Nat.mul_add]
        omega
      have hnok : okL (l ++ [r]) := okL_append.2 ⟨hok, by intro z hz; rw [List.mem_singleton.1 hz]; exact hmm⟩
      have hcan' : max a.length b.length ≤ i + 1 → q = 0 → canon (l ++ [r]) := fun h1 h2 => by
        subst h2
        refine canon_push hok hmm ?_
        have h3 : i + 1 = a.length ∨ i + 1 = b.length ∨ max a.length b.length ≤ i := by omega
        rcases h3 with h3 | h3 | h3
        · have := hxt h3; omega
        · have := hyt h3; omega
        · have := hin; omega
      repeat' ((conv => whnf); first | refine ngo ?_ | refine VB.tt ?_ | refine VB.ff ?_ | refine VNew.keep ?_ | refine dgo ?_ | refine sgo ?_ | fail)
      conv => whnf
      rw [g0]
      cases l with
      | nil =>
        repeat' ((conv => whnf); first | refine ngo ?_ | refine VB.tt ?_ | refine VB.ff ?_ | refine VNew.keep ?_ | refine dgo ?_ | refine sgo ?_ | fail)
        conv => whnf
        rw [g6]
        repeat' ((conv => whnf); first | refine ngo ?_ | refine VB.tt ?_ | refine VB.ff ?_ | refine VNew.keep ?_ | refine dgo ?_ | refine sgo ?_ | fail)
        conv => whnf
        refine hQ _ [r] q (by simp at hll ⊢; omega) hnok hmq hnv hcan' ⟨[1], by simp, by simp, ⟨⟨_, rfl, .cells rfl (FzL.same rfl (low_limbs _ [r]))⟩, trivial⟩, ⟨⟨_, rfl, .same rfl (low_natL _ _)⟩, ⟨_, rfl, .same rfl (low_natL _ _)⟩, ⟨_, rfl, .kosl (j := 0) rfl rfl rfl rfl⟩, ⟨_, rfl, .same (by rw [g5]) trivial⟩, ⟨_, rfl, .same (by simp) trivial⟩, trivial⟩, rfl, by simp [pSt]⟩
      | cons z l =>
        simp only [List.length_cons] at hll
        repeat' ((conv => whnf); first | refine ngo ?_ | refine VB.tt ?_ | refine VB.ff ?_ | refine VNew.keep ?_ | refine dgo ?_ | refine sgo ?_ | fail)
        conv => whnf
        rw [g6]
        repeat' ((conv => whnf); first | refine ngo ?_ | refine VB.tt ?_ | refine VB.ff ?_ | refine VNew.keep ?_ | refine dgo ?_ | refine sgo ?_ | fail)
        conv => whnf
        refine hQ _ (z :: l ++ [r]) q (by simp at hll ⊢; omega) hnok hmq hnv hcan' ⟨[0], by simp, by simp, ⟨⟨_, rfl, .cells (by simp) (FzL.same ?_ (low_limbs _ (z :: l ++ [r])))⟩, trivial⟩, ⟨⟨_, rfl, .same rfl (low_natL _ _)⟩, ⟨_, rfl, .same rfl (low_natL _ _)⟩, ⟨_, rfl, .kosl (j := 0) rfl rfl (by simp) (by simp)⟩, ⟨_, rfl, .same (by rw [g5]) trivial⟩, ⟨_, rfl, .same (by simp) trivial⟩, trivial⟩, rfl, by simp [pSt]⟩
        rw [Nat.mul_one, List.take_of_length_le (by simp [limbs])]
        simp [limbs]
  · have hx0 := za (by omega)
    repeat' ((conv => whnf); first | refine ngo ?_ | refine VB.tt ?_ | refine VB.ff ?_ | refine VNew.keep ?_ | refine dgo ?_ | refine sgo ?_ | fail)
    conv => whnf
    refine VB.dec (fun h2 => ?_) (fun h2 => ?_)
    · repeat' ((conv => whnf); first | refine ngo ?_ | refine VB.tt ?_ | refine VB.ff ?_ | refine VNew.keep ?_ | refine dgo ?_ | refine sgo ?_ | fail)
      conv => whnf
      rw [gb]
      obtain ⟨n, hn⟩ : ∃ n, n = c + x + y := ⟨_, rfl⟩
      have g0 : (c : Int) + (y : Int) = (n : Int) := by omega
      have hmd := Nat.mod_add_div n BB
      have hmm := Nat.mod_lt n (show 0 < BB by decide)
      have hmq : n / BB ≤ 1 := Nat.le_of_lt_succ (Nat.div_lt_of_lt_mul (by omega))
      have g5 := tdiv_BB n
      have g6 := tmod_BB n
      generalize n / BB = q at *
      generalize n % BB = r at *
      have hnv : val (l ++ [r]) + BB ^ (i + 1) * q = val (a.take (i + 1)) + val (b.take (i + 1)) := by
        rw [val_append, hta, htb, hll, Nat.pow_succ, Nat.mul_assoc]
        simp only [val, Nat.mul_zero, Nat.add_zero]
        have e1 : BB ^ i * r + BB ^ i * (BB * q) = BB ^ i * c + BB ^ i * x + BB ^ i * y := by
          rw [← Nat.mul_add, hmd, hn, Nat.mul_add, Nat.mul_add]
        omega
      have hnok : okL (l ++ [r]) := okL_append.2 ⟨hok, by intro z hz; rw [List.mem_singleton.1 hz]; exact hmm⟩
      have hcan' : max a.length b.length ≤ i + 1 → q = 0 → canon (l ++ [r]) := fun h1 h2 => by
        subst h2
        refine canon_push hok hmm ?_
        have h3 : i + 1 = a.length ∨ i + 1 = b.length ∨ max a.length b.length ≤ i := by omega
        rcases h3 with h3 | h3 | h3
        · have := hxt h3; omega
        · have := hyt h3; omega
        · have := hin; omega
      repeat' ((conv => whnf); first | refine ngo ?_ | refine VB.tt ?_ | refine VB.ff ?_ | refine VNew.keep ?_ | refine dgo ?_ | refine sgo ?_ | fail)
      conv => whnf
      rw [g0]
      cases l with
      | nil =>
        repeat' ((conv => whnf); first | refine ngo ?_ | refine VB.tt ?_ | refine VB.ff ?_ | refine VNew.keep ?_ | refine dgo ?_ | refine sgo ?_ | fail)
        conv => whnf
        rw [g6]
        repeat' ((conv => whnf); first | refine ngo ?_ | refine VB.tt ?_ | refine VB.ff ?_ | refine VNew.keep ?_ | refine dgo ?_ | refine sgo ?_ | fail)
        conv => whnf
        refine hQ _ [r] q (by simp at hll ⊢; omega) hnok hmq hnv hcan' ⟨[1], by simp, by simp, ⟨⟨_, rfl, .cells rfl (FzL.same rfl (low_limbs _ [r]))⟩, trivial⟩, ⟨⟨_, rfl, .same rfl (low_natL _ _)⟩, ⟨_, rfl, .same rfl (low_natL _ _)⟩, ⟨_, rfl, .kosl (j := 0) rfl rfl rfl rfl⟩, ⟨_, rfl, .same (by rw [g5]) trivial⟩, ⟨_, rfl, .same (by simp) trivial⟩, trivial⟩, rfl, by simp [pSt]⟩
      | cons z l =>
        simp only [List.length_cons] at hll
        repeat' ((conv => whnf); first | refine ngo ?_ | refine VB.tt ?_ | refine VB.ff ?_ | refine VNew.keep ?_ | refine dgo ?_ | refine sgo ?_ | fail)
        conv => whnf
        rw [g6]
        repeat' ((conv => whnf); first | refine ngo ?_ | refine VB.tt ?_ | refine VB.ff ?_ | refine VNew.keep ?_ | refine dgo ?_ | refine sgo ?_ | fail)
        conv => whnf
        refine hQ _ (z :: l ++ [r]) q (by simp at hll ⊢; omega) hnok hmq hnv hcan' ⟨[0], by simp, by simp, ⟨⟨_, rfl, .cells (by simp) (FzL.same ?_ (low_limbs _ (z :: l ++ [r])))⟩, trivial⟩, ⟨⟨_, rfl, .same rfl (low_natL _ _)⟩, ⟨_, rfl, .same rfl (low_natL _ _)⟩, ⟨_, rfl, .kosl (j := 0) rfl rfl (by simp) (by simp)⟩, ⟨_, rfl, .same (by rw [g5]) trivial⟩, ⟨_, rfl, .same (by simp) trivial⟩, trivial⟩, rfl, by simp [pSt]⟩
        rw [Nat.mul_one, List.take_of_length_le (by simp [limbs])]
        simp [limbs]
    · have hy0 := zb (by omega)
      obtain ⟨n, hn⟩ : ∃ n, n = c + x + y := ⟨_, rfl⟩
      have hnc : c = n := by omega
      have hmd := Nat.mod_add_div n BB
      have hmm := Nat.mod_lt n (show 0 < BB by decide)
      have hmq : n / BB ≤ 1 := Nat.le_of_lt_succ (Nat.div_lt_of_lt_mul (by omega))
      have g5 := tdiv_BB n
      have g6 := tmod_BB n
      generalize n / BB = q at *
      generalize n % BB = r at *
      have hnv : val (l ++ [r]) + BB ^ (i + 1) * q = val (a.take (i + 1)) + val (b.take (i + 1)) := by
        rw [val_append, hta, htb, hll, Nat.pow_succ, Nat.mul_assoc]
        simp only [val, Nat.mul_zero, Nat.add_zero]
        have e1 : BB ^ i * r + BB ^ i * (BB * q) = BB ^ i * c + BB ^ i * x + BB ^ i * y := by
          rw [← Nat.mul_add, hmd, hn, Nat.mul_add, Nat.mul_add]
        omega
      have hnok : okL (l ++ [r]) := okL_append.2 ⟨hok, by intro z hz; rw [List.mem_singleton.1 hz]; exact hmm⟩
      have hcan' : max a.length b.length ≤ i + 1 → q = 0 → canon (l ++ [r]) := fun h1 h2 => by
        subst h2
        refine canon_push hok hmm ?_
        have h3 : i + 1 = a.length ∨ i + 1 = b.length ∨ max a.length b.length ≤ i := by omega
        rcases h3 with h3 | h3 | h3
        · have := hxt h3; omega
        · have := hyt h3; omega
        · have := hin; omega
      repeat' ((conv => whnf); first | refine ngo ?_ | refine VB.tt ?_ | refine VB.ff ?_ | refine VNew.keep ?_ | refine dgo ?_ | refine sgo ?_ | fail)
      conv => whnf
      rw [hnc]
      cases l with
      | nil =>
        repeat' ((conv => whnf); first | refine ngo ?_ | refine VB.tt ?_ | refine VB.ff ?_ | refine VNew.keep ?_ | refine dgo ?_ | refine sgo ?_ | fail)
        conv => whnf
        rw [g6]
        repeat' ((conv => whnf); first | refine ngo ?_ | refine VB.tt ?_ | refine VB.ff ?_ | refine VNew.keep ?_ | refine dgo ?_ | refine sgo ?_ | fail)
        conv => whnf
        refine hQ _ [r] q (by simp at hll ⊢; omega) hnok hmq hnv hcan' ⟨[1], by simp, by simp, ⟨⟨_, rfl, .cells rfl (FzL.same rfl (low_limbs _ [r]))⟩, trivial⟩, ⟨⟨_, rfl, .same rfl (low_natL _ _)⟩, ⟨_, rfl, .same rfl (low_natL _ _)⟩, ⟨_, rfl, .kosl (j := 0) rfl rfl rfl rfl⟩, ⟨_, rfl, .same (by rw [g5]) trivial⟩, ⟨_, rfl, .same (by simp) trivial⟩, trivial⟩, rfl, by simp [pSt]⟩
      | cons z l =>
        simp only [List.length_cons] at hll
        repeat' ((conv => whnf); first | refine ngo ?_ | refine VB.tt ?_ | refine VB.ff ?_ | refine VNew.keep ?_ | refine dgo ?_ | refine sgo ?_ | fail)
        conv => whnf
        rw [g6]
        repeat' ((conv => whnf); first | refine ngo ?_ | refine VB.tt ?_ | refine VB.ff ?_ | refine VNew.keep ?_ | refine dgo ?_ | refine sgo ?_ | fail)
        conv => whnf
        refine hQ _ (z :: l ++ [r]) q (by simp at hll ⊢; omega) hnok hmq hnv hcan' ⟨[0], by simp, by simp, ⟨⟨_, rfl, .cells (by simp) (FzL.same ?_ (low_limbs _ (z :: l ++ [r])))⟩, trivial⟩, ⟨⟨_, rfl, .same rfl (low_natL _ _)⟩, ⟨_, rfl, .same rfl (low_natL _ _)⟩, ⟨_, rfl, .kosl (j := 0) rfl rfl (by simp) (by simp)⟩, ⟨_, rfl, .same (by rw [g5]) trivial⟩, ⟨_, rfl, .same (by simp) trivial⟩, trivial⟩, rfl, by simp [pSt]⟩
        rw [Nat.mul_one, List.take_of_length_le (by simp [limbs])]
        simp [limbs]

set_option maxHeartbeats 1000000 in
theorem rplus_c {a b : List Nat} (ha : canon a) (hb : canon b) (la : a.length < 10000000) (lb : b.length < 10000000) :
    VCall EE 47 [natL a, natL b] [] fun v H => Fz H 0 [] v (natv (val a + val b)) := by
  refine VCall.of_body true Try.func47 rfl (by decide) rfl ?_
  repeat' ((conv => whnf); first | refine ngo ?_ | refine VB.tt ?_ | refine VB.ff ?_ | refine VNew.keep ?_ | refine dgo ?_ | refine sgo ?_ | fail)
  conv => whnf
  refine VLoop.tr true (fun x : Nat × List Nat × Nat => pSt a b x.1 x.2.1 x.2.2)
    (fun x => x.1 ≤ max a.length b.length + 1 ∧ x.2.1.length = x.1 ∧ okL x.2.1 ∧ x.2.2 ≤ 1 ∧ val x.2.1 + BB ^ x.1 * x.2.2 = val (a.take x.1) + val (b.take x.1) ∧ (max a.length b.length ≤ x.1 → x.2.2 = 0 → canon x.2.1)) (fun x => max a.length b.length + 2 - x.1) (0, [], 0)
    ⟨Nat.zero_le _, rfl, by intro x hx; simp at hx, Nat.zero_le _, by simp [val], fun _ _ => ⟨by intro x hx; simp at hx, fun x hx => by simp at hx⟩⟩ ⟨⟨rfl, rfl, rfl, rfl, rfl, trivial⟩, rfl, rfl⟩ ?_
  rintro ⟨i, l, c⟩ ⟨hi, hll, hok, hc, hv, hcan⟩
  dsimp only at hi hll hok hc hv hcan ⊢
  have hc0 : max a.length b.length + 1 ≤ i → c = 0 := fun h => by
    rcases Nat.eq_zero_or_pos c with h0 | h0
    · exact h0
    · exfalso
      have h1 : c = 1 := by omega
      subst h1
      rw [List.take_of_length_le (by omega), List.take_of_length_le (by omega)] at hv
      have h2 := val_lt ha.1
      have h3 := val_lt hb.1
      obtain ⟨j, rfl⟩ : ∃ j, i = j + 1 := ⟨i - 1, by omega⟩
      have h4 : BB ^ a.length ≤ BB ^ j := Nat.pow_le_pow_right (by decide) (by omega)
      have h5 : BB ^ b.length ≤ BB ^ j := Nat.pow_le_pow_right (by decide) (by omega)
      rw [Nat.pow_succ, Nat.mul_one] at hv
      have h6 : BB ^ j * 2 ≤ BB ^ j * BB := Nat.mul_le_mul_left _ (by decide)
      omega
  repeat' ((conv => whnf); first | refine ngo ?_ | refine VB.tt ?_ | refine VB.ff ?_ | refine VNew.keep ?_ | refine dgo ?_ | refine sgo ?_ | fail)
  conv => whnf
  by_cases h1 : (i : Int) < (a.length : Int)
  · rw [decide_eq_true h1]
    repeat' ((conv => whnf); first | refine VB.tt ?_ | refine VB.ff ?_ | refine VNew.keep ?_ | refine dgo ?_ | refine sgo ?_ | fail)
    conv => whnf
    refine VNext.go true ?_
    repeat' ((conv => whnf); first | refine VB.tt ?_ | refine VB.ff ?_ | refine VNew.keep ?_ | refine dgo ?_ | refine sgo ?_ | fail)
    conv => whnf
    refine VNext.at_ true (pSt a b i l c) ⟨⟨rfl, rfl, rfl, rfl, rfl, trivial⟩, rfl, rfl⟩ (plus_round ha hb la lb (by omega) hll hok hc hv (fun h => by omega) fun s2 l' q e1 e2 e3 e4 e5 ht => ⟨(i + 1, l', q), ⟨by dsimp only; omega, e1, e2, e3, e4, e5⟩, by dsimp only; omega, ht⟩)
  rw [decide_eq_false h1]
  repeat' ((conv => whnf); first | refine ngo ?_ | refine VB.tt ?_ | refine VB.ff ?_ | refine VNew.keep ?_ | refine dgo ?_ | refine sgo ?_ | fail)
  conv => whnf
  by_cases h2 : (i : Int) < (b.length : Int)
  · rw [decide_eq_true h2]
    repeat' ((conv => whnf); first | refine VB.tt ?_ | refine VB.ff ?_ | refine VNew.keep ?_ | refine dgo ?_ | refine sgo ?_ | fail)
    conv => whnf
    refine VNext.go true ?_
    repeat' ((conv => whnf); first | refine VB.tt ?_ | refine VB.ff ?_ | refine VNew.keep ?_ | refine dgo ?_ | refine sgo ?_ | fail)
    conv => whnf
    refine VNext.at_ true (pSt a b i l c) ⟨⟨rfl, rfl, rfl, rfl, rfl, trivial⟩, rfl, rfl⟩ (plus_round ha hb la lb (by omega) hll hok hc hv (fun h => by omega) fun s2 l' q e1 e2 e3 e4 e5 ht => ⟨(i + 1, l', q), ⟨by dsimp only; omega, e1, e2, e3, e4, e5⟩, by dsimp only; omega, ht⟩)
  rw [decide_eq_false h2]
  repeat' ((conv => whnf); first | refine ngo ?_ | refine VB.tt ?_ | refine VB.ff ?_ | refine VNew.keep ?_ | refine dgo ?_ | refine sgo ?_ | fail)
  conv => whnf
  refine VB.dec (fun h3 => ?_) (fun h3 => ?_)
  · have hi' : i < max a.length b.length + 1 := by
      apply Nat.lt_of_not_le
      intro hh
      have := hc0 hh
      omega
    repeat' ((conv => whnf); first | refine VB.tt ?_ | refine VB.ff ?_ | refine VNew.keep ?_ | refine dgo ?_ | refine sgo ?_ | fail)
    conv => whnf
    refine VNext.at_ true (pSt a b i l c) ⟨⟨rfl, rfl, rfl, rfl, rfl, trivial⟩, rfl, rfl⟩ (plus_round ha hb la lb (by omega) hll hok hc hv (fun h => by omega) fun s2 l' q e1 e2 e3 e4 e5 ht => ⟨(i + 1, l', q), ⟨by dsimp only; omega, e1, e2, e3, e4, e5⟩, by dsimp only; omega, ht⟩)
  · have h4 : c = 0 := by omega
    subst h4
    rw [List.take_of_length_le (by omega), List.take_of_length_le (by omega), Nat.mul_zero, Nat.add_zero] at hv
    have hcl := hcan (by omega) rfl
    have e : natv (val a + val b) = natL l := by rw [← hv, natv_of hcl]
    rw [e]
    cases l with
    | nil =>
      repeat' ((conv => whnf); first | refine ngo ?_ | refine VB.tt ?_ | refine VB.ff ?_ | refine VNew.keep ?_ | refine dgo ?_ | refine sgo ?_ | fail)
      conv => whnf
      exact .nsl
    | cons z l =>
      repeat' ((conv => whnf); first | refine ngo ?_ | refine VB.tt ?_ | refine VB.ff ?_ | refine VNew.keep ?_ | refine dgo ?_ | refine sgo ?_ | fail)
      conv => whnf
      exact accV_fz 30 (z :: l)
end Go.Proofs.Ytcdnonggajoghaa
