/- The program logic and the contracts that a law leans on, part 4. -/
import Derived.Test.YtoijfbdjlagooaaA3
import Derived.Test.YtoijfbdjlagooaaA2

/- Contracts: sums and differences. -/
namespace Go.Proofs.Ytoijfbdjlagooaa
open Go Go.RowKit
set_option linter.unusedVariables false
set_option linter.unusedSimpArgs false
set_option maxRecDepth 100000

theorem both_c {a b : List Nat} : VCall EE 115 [natL a, natL b] [] fun v H => Fz H 0 [] v (.fn (.func 116) [] [.dptr [natL a], .dptr [natL b]]) := by
  refine VCall.of_body true Try.func115 rfl (by decide) rfl ?_
  repeat' ((conv => whnf); first | refine ngo ?_ | refine VB.tt ?_ | refine VB.ff ?_ | refine VNew.keep ?_ | refine dgo ?_ | refine sgo ?_ | fail)
  conv => whnf
  exact .fn .nil (.cons (.ptr (Nat.zero_le _) (by simp) rfl (.cons (.same rfl (low_natL 0 a)) .nil)) (.cons (.ptr (Nat.zero_le _) (by simp) rfl (.cons (.same rfl (low_natL 0 b)) .nil)) .nil))

theorem both1_c {a b : List Nat} {H0 : Heap} {yb : Nat} (hyb : yb < H0.length) (la : a.length < 1000000000) (lb : b.length < 1000000000) (I : Nat → Heap → Prop) (h0 : I 0 H0)
    (hr : ∀ i H, i < max a.length b.length → I i H → VRound EE yb [.int .u64 ((a.getD i 0 : Nat) : Int), .int .u64 ((b.getD i 0 : Nat) : Int)] H fun v H' => v = .bool true ∧ ∃ H'', I (i + 1) H'' ∧ FzHp H' H0.length [] (List.range H0.length ++ []) H'')
    (ha : okL a) (hb : okL b) :
    VCall EE 116 [.yld yb, .dptr [natL a], .dptr [natL b]] H0 fun v H' => I (max a.length b.length) H' := by
  refine VCall.of_body true Try.func116 rfl (by decide) rfl ?_
  have hmx : (if (b.length : Int) > (a.length : Int) then (b.length : Int) else (a.length : Int)) = ((max a.length b.length : Nat) : Int) := by
    split <;> omega
  repeat' ((conv => whnf); first | refine ngo ?_ | refine VB.tt ?_ | refine VB.ff ?_ | refine VNew.keep ?_ | refine dgo ?_ | refine sgo ?_ | fail)
  conv => whnf
  refine VLoop.tr true (fun x : Nat × Heap => ⟨[(0, .yld yb), (1, .dptr [natL a]), (2, .dptr [natL b]), (11, .int .i64 ((max a.length b.length : Nat) : Int)), (12, .int .i64 x.1)], x.2, []⟩) (fun x => x.1 ≤ max a.length b.length ∧ I x.1 x.2) (fun x => max a.length b.length - x.1) (0, H0)
    ⟨Nat.zero_le _, h0⟩ ⟨⟨rfl, rfl, rfl, by simp only [lk]; rw [← hmx]; rfl, rfl, trivial⟩, rfl, rfl⟩ ?_
  rintro ⟨i, H⟩ ⟨hi, hI⟩
  dsimp only at hi hI ⊢
  repeat' ((conv => whnf); first | refine ngo ?_ | refine VB.tt ?_ | refine VB.ff ?_ | refine VNew.keep ?_ | refine dgo ?_ | refine sgo ?_ | fail)
  conv => whnf
  refine VB.dec (fun h => ?_) (fun h => ?_)
  · have hil : i < max a.length b.length := by omega
    have hx := getD_lt ha i
    have hy := getD_lt hb i
    have hBB : BB = 1000000000 := rfl
    have ga : getInt (List.drop ((i : Int).toNat * 1) (limbs a)) = ((a.getD i 0 : Nat) : Int) := by rw [Int.toNat_natCast, Nat.mul_one, getInt_limbs]
    have gb : getInt (List.drop ((i : Int).toNat * 1) (limbs b)) = ((b.getD i 0 : Nat) : Int) := by rw [Int.toNat_natCast, Nat.mul_one, getInt_limbs]
    have za : a.length ≤ i → (0 : Int) = ((a.getD i 0 : Nat) : Int) := fun h => by simp [List.getD_eq_getElem?_getD, h]
    have zb : b.length ≤ i → (0 : Int) = ((b.getD i 0 : Nat) : Int) := fun h => by simp [List.getD_eq_getElem?_getD, h]
    have hrr := hr i H hil hI
    generalize a.getD i 0 = x at *
    generalize b.getD i 0 = y at *
    repeat' ((conv => whnf); first | refine ngo ?_ | refine VB.tt ?_ | refine VB.ff ?_ | refine VNew.keep ?_ | refine dgo ?_ | refine sgo ?_ | fail)
    conv => whnf
    refine VB.dec (fun h1 => ?_) (fun h1 => ?_)
    · repeat' ((conv => whnf); first | refine ngo ?_ | refine VB.tt ?_ | refine VB.ff ?_ | refine VNew.keep ?_ | refine dgo ?_ | refine sgo ?_ | fail)
      conv => whnf
      rw [ga]
      repeat' ((conv => whnf); first | refine ngo ?_ | refine VB.tt ?_ | refine VB.ff ?_ | refine VNew.keep ?_ | refine dgo ?_ | refine sgo ?_ | fail)
      conv => whnf
      refine VB.dec (fun h2 => ?_) (fun h2 => ?_)
      · repeat' ((conv => whnf); first | refine ngo ?_ | refine VB.tt ?_ | refine VB.ff ?_ | refine VNew.keep ?_ | refine dgo ?_ | refine sgo ?_ | fail)
        conv => whnf
        rw [gb]
        repeat' ((conv => whnf); first | refine ngo ?_ | refine VB.tt ?_ | refine VB.ff ?_ | refine VNew.keep ?_ | refine dgo ?_ | refine sgo ?_ | fail)
        conv => whnf
        refine hrr.mono fun v H' hq => ?_
        obtain ⟨rfl, H'', hI2, hz⟩ := hq
        repeat' ((conv => whnf); first | refine ngo ?_ | refine VB.tt ?_ | refine VB.ff ?_ | refine VNew.keep ?_ | refine dgo ?_ | refine sgo ?_ | fail)
        conv => whnf
        exact ⟨(i + 1, H''), ⟨hil, hI2⟩, by dsimp only; omega, [], by simp, by simp, hz, FzFr.sub ⟨hyb, ⟨low_natL _ a, trivial⟩, ⟨low_natL _ b, trivial⟩, trivial, trivial, trivial⟩ ⟨rfl, rfl, rfl, rfl, by simp [lk], trivial⟩, rfl, by simp⟩
      · repeat' ((conv => whnf); first | refine ngo ?_ | refine VB.tt ?_ | refine VB.ff ?_ | refine VNew.keep ?_ | refine dgo ?_ | refine sgo ?_ | fail)
        conv => whnf
        rw [← zb (by omega)] at hrr
        refine hrr.mono fun v H' hq => ?_
        obtain ⟨rfl, H'', hI2, hz⟩ := hq
        repeat' ((conv => whnf); first | refine ngo ?_ | refine VB.tt ?_ | refine VB.ff ?_ | refine VNew.keep ?_ | refine dgo ?_ | refine sgo ?_ | fail)
        conv => whnf
        exact ⟨(i + 1, H''), ⟨hil, hI2⟩, by dsimp only; omega, [], by simp, by simp, hz, FzFr.sub ⟨hyb, ⟨low_natL _ a, trivial⟩, ⟨low_natL _ b, trivial⟩, trivial, trivial, trivial⟩ ⟨rfl, rfl, rfl, rfl, by simp [lk], trivial⟩, rfl, by simp⟩
    · repeat' ((conv => whnf); first | refine ngo ?_ | refine VB.tt ?_ | refine VB.ff ?_ | refine VNew.keep ?_ | refine dgo ?_ | refine sgo ?_ | fail)
      conv => whnf
      refine VB.dec (fun h2 => ?_) (fun h2 => ?_)
      · repeat' ((conv => whnf); first | refine ngo ?_ | refine VB.tt ?_ | refine VB.ff ?_ | refine VNew.keep ?_ | refine dgo ?_ | refine sgo ?_ | fail)
        conv => whnf
        rw [gb]
        repeat' ((conv => whnf); first | refine ngo ?_ | refine VB.tt ?_ | refine VB.ff ?_ | refine VNew.keep ?_ | refine dgo ?_ | refine sgo ?_ | fail)
        conv => whnf
        rw [← za (by omega)] at hrr
        refine hrr.mono fun v H' hq => ?_
        obtain ⟨rfl, H'', hI2, hz⟩ := hq
        repeat' ((conv => whnf); first | refine ngo ?_ | refine VB.tt ?_ | refine VB.ff ?_ | refine VNew.keep ?_ | refine dgo ?_ | refine sgo ?_ | fail)
        conv => whnf
        exact ⟨(i + 1, H''), ⟨hil, hI2⟩, by dsimp only; omega, [], by simp, by simp, hz, FzFr.sub ⟨hyb, ⟨low_natL _ a, trivial⟩, ⟨low_natL _ b, trivial⟩, trivial, trivial, trivial⟩ ⟨rfl, rfl, rfl, rfl, by simp [lk], trivial⟩, rfl, by simp⟩
      · exact absurd hil (by omega)
  · have : i = max a.length b.length := by omega
    subst this
    repeat' ((conv => whnf); first | refine ngo ?_ | refine VB.tt ?_ | refine VB.ff ?_ | refine VNew.keep ?_ | refine dgo ?_ | refine sgo ?_ | fail)
    conv => whnf
    exact to_forceH hI

def boxFr (a b : List Nat) (f : FuncId) (t : Tmp) : Fr := [(5, .ptr 1 0 0), (6, .ptr 2 0 0), (t, .fn (.func f) [] [.dptr [natL a], .dptr [natL b]])]
def sumH (l : List Nat) (ver c : Nat) (L : AObj) : Heap := [.cells ver 41 (limbs l), .cells 0 23 [.osl 0 ver 0 l.length 1], .cells 0 88 [.int .u64 c], .dfr, L]
theorem sum_own {a b : List Nat} (ha : okL a) (hb : okL b) (la : a.length < 10000000) (lb : b.length < 10000000) :
    VCall EE 105 [natL a, natL b] [] fun v H => Fz H 0 [] v (natv (val a + val b)) := by
  refine VCall.of_body true Try.func105 rfl (by decide) rfl ?_
  have hmx : (if (b.length : Int) > (a.length : Int) then (b.length : Int) else (a.length : Int)) = ((max a.length b.length : Nat) : Int) := by
    split <;> omega
  repeat' ((conv => whnf); first | refine ngo ?_ | refine VB.tt ?_ | refine VB.ff ?_ | refine VNew.keep ?_ | refine dgo ?_ | refine sgo ?_ | fail)
  conv => whnf
  rw [hmx]
  repeat' ((conv => whnf); first | refine ngo ?_ | refine VB.tt ?_ | refine VB.ff ?_ | refine VNew.keep ?_ | refine dgo ?_ | refine sgo ?_ | fail)
  conv => whnf
  refine VCall.i (both_c) ?_
  repeat' ((conv => whnf); first | refine VB.tt ?_ | refine VB.ff ?_ | refine VNew.keep ?_ | refine dgo ?_ | refine sgo ?_ | fail)
  conv => whnf
  refine VNext.at_ true ⟨boxFr a b 116 19, [.cells 0 41 [], .cells 0 23 [.osl 0 0 0 0 1], .cells 0 88 [.int .u64 (0 : Nat)]], []⟩ ⟨by (repeat' first | exact trivial | exact And.intro (by first | rfl | (simp [lk]; done)) trivial | refine And.intro (by first | rfl | (simp [lk]; done)) ?_), rfl, rfl⟩ ?_
  repeat' ((conv => whnf); first | refine ngo ?_ | refine VB.tt ?_ | refine VB.ff ?_ | refine VNew.keep ?_ | refine dgo ?_ | refine sgo ?_ | fail)
  conv => whnf
  refine VRange.out true (f := 116) (first := []) (cap := [.dptr [natL a], .dptr [natL b]]) rfl ?_
  obtain ⟨L, hL⟩ : ∃ L, L = rangeObj Try.f105 0 (boxFr a b 116 19) 3 := ⟨_, rfl⟩
  refine VCall.mono ?_ (both1_c (H0 := sumH [] 0 0 (rangeObj Try.f105 0 (boxFr a b 116 19) 3)) (yb := 4) (show 4 < 5 by decide) (by omega) (by omega) (fun i H => ∃ (l : List Nat) (c : Nat), l.length = i ∧ okL l ∧ c ≤ 1 ∧ val l + BB ^ i * c = val (a.take i) + val (b.take i) ∧ H = sumH l l.length c (rangeObj Try.f105 0 (boxFr a b 116 19) 3))
    ⟨[], 0, rfl, by intro x hx; simp at hx, Nat.zero_le _, by simp [val], rfl⟩ ?_ ha hb)
  · rintro v H ⟨l, c, hll, hok, hc, hv, rfl⟩
    rw [List.take_of_length_le (by omega), List.take_of_length_le (by omega), ← hll] at hv
    have hBB : BB = 1000000000 := rfl
    have gc : getInt (List.drop 0 [AV.int .u64 (c : Int)]) = (c : Int) := rfl
    have hnv : val (l ++ [c]) = val a + val b := by
      rw [val_append, ← hv]
      simp [val]
    have hnok : okL (l ++ [c]) := okL_append.2 ⟨hok, by intro z hz; rw [List.mem_singleton.1 hz]; omega⟩
    repeat' ((conv => whnf); first | refine ngo ?_ | refine VB.tt ?_ | refine VB.ff ?_ | refine VNew.keep ?_ | refine dgo ?_ | refine sgo ?_ | fail)
    conv => whnf
    rw [gc]
    repeat' ((conv => whnf); first | refine ngo ?_ | refine VB.tt ?_ | refine VB.ff ?_ | refine VNew.keep ?_ | refine dgo ?_ | refine sgo ?_ | fail)
    conv => whnf
    have e1 : List.take (l.length * 1) (limbs l) ++ [AV.int .u32 (c : Int)] = limbs (l ++ [c]) := by
      rw [Nat.mul_one, List.take_of_length_le (by simp [limbs]), limbs_append]; rfl
    have ht := trim_own0 (R := [.cells 0 23 [.osl 0 l.length 0 l.length 1], .cells 0 88 [.int .u64 c], .dfr, .gone, .cells 0 41 [.int .u32 (c : Int)]]) (ver := l.length + 1) (e := 41) hnok (by simp; omega)
    rw [← e1] at ht
    simp only [List.length_append, List.length_singleton] at ht
    refine ht.mono fun v H' hq => ?_
    obtain ⟨rfl, rfl⟩ := hq
    rw [hnv]
    repeat' ((conv => whnf); first | refine ngo ?_ | refine VB.tt ?_ | refine VB.ff ?_ | refine VNew.keep ?_ | refine dgo ?_ | refine sgo ?_ | fail)
    conv => whnf
    exact .nat (Nat.zero_le _) (by simp) rfl (by rw [Nat.mul_one, e1, limbs_take, ← hnv, take_dg hnok]) rfl
  · rintro i H hi ⟨l, c, hll, hok, hc, hv, rfl⟩
    refine VRound.of_body true (fr := boxFr a b 116 19) rfl rfl rfl ?_
    have hx := getD_lt ha i
    have hy := getD_lt hb i
    have hta := val_take_any a i
    have htb := val_take_any b i
    have hBB : BB = 1000000000 := rfl
    generalize a.getD i 0 = x at *
    generalize b.getD i 0 = y at *
    have gc : getInt (List.drop 0 [AV.int .u64 (c : Int)]) = (c : Int) := rfl
    obtain ⟨n, hn⟩ : ∃ n, n = x + y + c := ⟨_, rfl⟩
    have g0 : (x : Int) + (y : Int) + (c : Int) = (n : Int) := by omega
    have hmd := Nat.mod_add_div n BB
    have hmm := Nat.mod_lt n (show 0 < BB by decide)
    have hmq : n / BB ≤ 1 := Nat.le_of_lt_succ (Nat.div_lt_of_lt_mul (by omega))
    have g5 := tdiv_BB n
    have g6 := tmod_BB n
    generalize n / BB = q at *
    generalize n % BB = r at *
    have hnv : val (l ++ [r]) + BB ^ (i + 1) * q = val (a.take (i + 1)) + val (b.take (i + 1)) := by
      rw [val_append, hta, htb, hll, Nat.pow_succ, Nat.mul_assoc]
      simp only [val, Nat.mul_zero, Nat.add_zero]
      have e1 : BB ^ i * r + BB ^ i * (BB * q) = BB ^ i * x + BB ^ i * y + BB ^ i * c := by
        rw [← Nat.mul_add, hmd, hn, Nat.mul_add, Nat.mul_add]
      omega
    have hnok : okL (l ++ [r]) := okL_append.2 ⟨hok, by intro z hz; rw [List.mem_singleton.1 hz]; exact hmm⟩
    repeat' ((conv => whnf); first | refine ngo ?_ | refine VB.tt ?_ | refine VB.ff ?_ | refine VNew.keep ?_ | refine dgo ?_ | refine sgo ?_ | fail)
    conv => whnf
    rw [gc]
    repeat' ((conv => whnf); first | refine ngo ?_ | refine VB.tt ?_ | refine VB.ff ?_ | refine VNew.keep ?_ | refine dgo ?_ | refine sgo ?_ | fail)
    conv => whnf
    rw [g0]
    repeat' ((conv => whnf); first | refine ngo ?_ | refine VB.tt ?_ | refine VB.ff ?_ | refine VNew.keep ?_ | refine dgo ?_ | refine sgo ?_ | fail)
    conv => whnf
    rw [g6]
    repeat' ((conv => whnf); first | refine ngo ?_ | refine VB.tt ?_ | refine VB.ff ?_ | refine VNew.keep ?_ | refine dgo ?_ | refine sgo ?_ | fail)
    conv => whnf
    have e1 : List.take (l.length * 1) (limbs l) ++ [AV.int .u32 (r : Int)] = limbs (l ++ [r]) := by
      rw [Nat.mul_one, List.take_of_length_le (by simp [limbs]), limbs_append]; rfl
    have hl2 : (l ++ [r]).length = l.length + 1 := by simp
    refine ⟨sumH (l ++ [r]) (l ++ [r]).length q (rangeObj Try.f105 0 (boxFr a b 116 19) 3), ⟨l ++ [r], q, by omega, hnok, hmq, hnv, rfl⟩, ?_⟩
    rw [hl2]
    exact ⟨⟨_, rfl, .cells rfl (FzL.same e1 (low_limbs _ _))⟩, ⟨_, rfl, .cells rfl (.cons (.same (by rw [hl2]) (show 0 < 5 by decide)) .nil)⟩, ⟨_, rfl, .cells rfl (.cons (.same (by rw [g5]) trivial) .nil)⟩, ⟨_, rfl, .dfr⟩,
      ⟨_, rfl, .loop (FzFr.sub ⟨show 1 < 5 by decide, show 2 < 5 by decide, ⟨trivial, ⟨⟨low_natL _ a, trivial⟩, ⟨low_natL _ b, trivial⟩, trivial⟩⟩, trivial⟩ ⟨rfl, rfl, rfl, trivial⟩) (show 3 < 5 by decide)⟩, trivial⟩

theorem less_own {a b : List Nat} (ha : okL a) (hb : okL b) (la : a.length < 10000000) (lb : b.length ≤ a.length) (hle : val b ≤ val a) :
    VCall EE 108 [natL a, natL b] [] fun v H => Fz H 0 [] v (natv (val a - val b)) := by
  refine VCall.of_body true Try.func108 rfl (by decide) rfl ?_
  repeat' ((conv => whnf); first | refine ngo ?_ | refine VB.tt ?_ | refine VB.ff ?_ | refine VNew.keep ?_ | refine dgo ?_ | refine sgo ?_ | fail)
  conv => whnf
  refine VCall.i (both_c) ?_
  repeat' ((conv => whnf); first | refine VB.tt ?_ | refine VB.ff ?_ | refine VNew.keep ?_ | refine dgo ?_ | refine sgo ?_ | fail)
  conv => whnf
  refine VNext.at_ true ⟨boxFr a b 116 15, [.cells 0 41 [], .cells 0 23 [.osl 0 0 0 0 1], .cells 0 88 [.int .u64 (0 : Nat)]], []⟩ ⟨by (repeat' first | exact trivial | exact And.intro (by first | rfl | (simp [lk]; done)) trivial | refine And.intro (by first | rfl | (simp [lk]; done)) ?_), rfl, rfl⟩ ?_
  repeat' ((conv => whnf); first | refine ngo ?_ | refine VB.tt ?_ | refine VB.ff ?_ | refine VNew.keep ?_ | refine dgo ?_ | refine sgo ?_ | fail)
  conv => whnf
  refine VRange.out true (f := 116) (first := []) (cap := [.dptr [natL a], .dptr [natL b]]) rfl ?_
  refine VCall.mono ?_ (both1_c (H0 := sumH [] 0 0 (rangeObj Try.f108 0 (boxFr a b 116 15) 3)) (yb := 4) (show 4 < 5 by decide) (by omega) (by omega) (fun i H => ∃ (l : List Nat) (c : Nat), l.length = i ∧ okL l ∧ c ≤ 1 ∧ val l + val (b.take i) = val (a.take i) + BB ^ i * c ∧ H = sumH l l.length c (rangeObj Try.f108 0 (boxFr a b 116 15) 3))
    ⟨[], 0, rfl, by intro x hx; simp at hx, Nat.zero_le _, by simp [val], rfl⟩ ?_ ha hb)
  · rintro v H ⟨l, c, hll, hok, hc, hv, rfl⟩
    rw [List.take_of_length_le (by omega), List.take_of_length_le (by omega), ← hll] at hv
    have hvl := val_lt hok
    have hc0 : c = 0 := by
      rcases Nat.eq_zero_or_pos c with h0 | h0
      · exact h0
      · have h1 : c = 1 := by omega
        subst h1
        omega
    subst hc0
    have hnv : val l = val a - val b := by omega
    repeat' ((conv => whnf); first | refine ngo ?_ | refine VB.tt ?_ | refine VB.ff ?_ | refine VNew.keep ?_ | refine dgo ?_ | refine sgo ?_ | fail)
    conv => whnf
    refine (trim_own0 (R := [.cells 0 23 [.osl 0 l.length 0 l.length 1], .cells 0 88 [.int .u64 (0 : Nat)], .dfr, .gone]) (ver := l.length) (e := 41) hok (by omega)).mono fun v H' hq => ?_
    obtain ⟨rfl, rfl⟩ := hq
    rw [hnv]
    repeat' ((conv => whnf); first | refine ngo ?_ | refine VB.tt ?_ | refine VB.ff ?_ | refine VNew.keep ?_ | refine dgo ?_ | refine sgo ?_ | fail)
    conv => whnf
    exact .nat (Nat.zero_le _) (by simp) rfl (by rw [Nat.mul_one, limbs_take, ← hnv, take_dg hok]) rfl
  · rintro i H hi ⟨l, c, hll, hok, hc, hv, rfl⟩
    refine VRound.of_body true (fr := boxFr a b 116 15) rfl rfl rfl ?_
    have hx := getD_lt ha i
    have hy := getD_lt hb i
    have hta := val_take_any a i
    have htb := val_take_any b i
    have hBB : BB = 1000000000 := rfl
    generalize a.getD i 0 = x at *
    generalize b.getD i 0 = y at *
    have gc : getInt (List.drop 0 [AV.int .u64 (c : Int)]) = (c : Int) := rfl
    obtain ⟨n, hn⟩ : ∃ n, n = x + BB - y - c := ⟨_, rfl⟩
    have g0 : (x : Int) + 1000000000 - (y : Int) - (c : Int) = (n : Int) := by omega
    have hmd := Nat.mod_add_div n BB
    have hmm := Nat.mod_lt n (show 0 < BB by decide)
    have hmq : n / BB ≤ 1 := Nat.le_of_lt_succ (Nat.div_lt_of_lt_mul (by omega))
    have g5 := tdiv_BB n
    have g6 := tmod_BB n
    generalize n / BB = q at *
    generalize n % BB = r at *
    have hnv : val (l ++ [r]) + val (b.take (i + 1)) = val (a.take (i + 1)) + BB ^ (i + 1) * (1 - q) := by
      rw [val_append, hta, htb, hll, Nat.pow_succ, Nat.mul_assoc]
      simp only [val, Nat.mul_zero, Nat.add_zero]
      have e1 : BB ^ i * r + BB ^ i * y + BB ^ i * c = BB ^ i * x + BB ^ i * (BB * (1 - q)) := by
        rw [← Nat.mul_add, ← Nat.mul_add, ← Nat.mul_add]
        congr 1
        have h1 : BB * (1 - q) = BB - BB * q := by rw [Nat.mul_sub, Nat.mul_one]
        have h9 : BB * q ≤ BB := by have := Nat.mul_le_mul_left BB hmq; omega
        omega
      omega
    have hnok : okL (l ++ [r]) := okL_append.2 ⟨hok, by intro z hz; rw [List.mem_singleton.1 hz]; exact hmm⟩
    repeat' ((conv => whnf); first | refine ngo ?_ | refine VB.tt ?_ | refine VB.ff ?_ | refine VNew.keep ?_ | refine dgo ?_ | refine sgo ?_ | fail)
    conv => whnf
    rw [gc]
    repeat' ((conv => whnf); first | refine ngo ?_ | refine VB.tt ?_ | refine VB.ff ?_ | refine VNew.keep ?_ | refine dgo ?_ | refine sgo ?_ | fail)
    conv => whnf
    rw [g0]
    repeat' ((conv => whnf); first | refine ngo ?_ | refine VB.tt ?_ | refine VB.ff ?_ | refine VNew.keep ?_ | refine dgo ?_ | refine sgo ?_ | fail)
    conv => whnf
    rw [g5]
    repeat' ((conv => whnf); first | refine ngo ?_ | refine VB.tt ?_ | refine VB.ff ?_ | refine VNew.keep ?_ | refine dgo ?_ | refine sgo ?_ | fail)
    conv => whnf
    rw [g6]
    repeat' ((conv => whnf); first | refine ngo ?_ | refine VB.tt ?_ | refine VB.ff ?_ | refine VNew.keep ?_ | refine dgo ?_ | refine sgo ?_ | fail)
    conv => whnf
    have e1 : List.take (l.length * 1) (limbs l) ++ [AV.int .u32 (r : Int)] = limbs (l ++ [r]) := by
      rw [Nat.mul_one, List.take_of_length_le (by simp [limbs]), limbs_append]; rfl
    have hl2 : (l ++ [r]).length = l.length + 1 := by simp
    refine ⟨sumH (l ++ [r]) (l ++ [r]).length (1 - q) (rangeObj Try.f108 0 (boxFr a b 116 15) 3), ⟨l ++ [r], 1 - q, by omega, hnok, by omega, hnv, rfl⟩, ?_⟩
    rw [hl2]
    exact ⟨⟨_, rfl, .cells rfl (FzL.same e1 (low_limbs _ _))⟩, ⟨_, rfl, .cells rfl (.cons (.same (by rw [hl2]) (show 0 < 5 by decide)) .nil)⟩, ⟨_, rfl, .cells rfl (.cons (.same (by congr 1; omega) trivial) .nil)⟩, ⟨_, rfl, .dfr⟩,
      ⟨_, rfl, .loop (FzFr.sub ⟨show 1 < 5 by decide, show 2 < 5 by decide, ⟨trivial, ⟨⟨low_natL _ a, trivial⟩, ⟨low_natL _ b, trivial⟩, trivial⟩⟩, trivial⟩ ⟨rfl, rfl, rfl, trivial⟩) (show 3 < 5 by decide)⟩, trivial⟩
end Go.Proofs.Ytoijfbdjlagooaa


/- Contracts: the document's calls for sums, differences and powers. -/
namespace Go.Proofs.Ytoijfbdjlagooaa
open Go Go.RowKit
set_option linter.unusedVariables false
set_option linter.unusedSimpArgs false
set_option maxRecDepth 100000

theorem dg_add_le (a b : Nat) : (dg (a + b)).length ≤ max (dg a).length (dg b).length + 1 := by
  refine length_dg_lt ?_
  have h1 := lt_of_length_dg a
  have h2 := lt_of_length_dg b
  have h3 : BB ^ (dg a).length ≤ BB ^ max (dg a).length (dg b).length := Nat.pow_le_pow_right (by decide) (Nat.le_max_left _ _)
  have h4 : BB ^ (dg b).length ≤ BB ^ max (dg a).length (dg b).length := Nat.pow_le_pow_right (by decide) (Nat.le_max_right _ _)
  rw [Nat.pow_succ]
  have hBB : BB = 1000000000 := rfl
  have h5 : BB ^ max (dg a).length (dg b).length * 2 ≤ BB ^ max (dg a).length (dg b).length * BB := Nat.mul_le_mul_left _ (by decide)
  omega

def addN (n : Nat) : Nat := if 1024 < (dg n).length then 0 else n
def addE (n : Nat) : Int := if 1024 < (dg n).length then 5 else 0
theorem sum_n {a b : Nat} (la : (dg a).length < 10000000) (lb : (dg b).length < 10000000) : VCall EE 105 [natv a, natv b] [] fun v H => Fz H 0 [] v (natv (a + b)) := by
  have := sum_own (okL_dg a) (okL_dg b) la lb
  rwa [val_dg, val_dg] at this
theorem less_n {a b : Nat} (la : (dg a).length < 10000000) (h : b ≤ a) : VCall EE 108 [natv a, natv b] [] fun v H => Fz H 0 [] v (natv (a - b)) := by
  have := less_own (okL_dg a) (okL_dg b) la (dg_length_mono h) (by rwa [val_dg, val_dg])
  rwa [val_dg, val_dg] at this

def subE (a b : Nat) : Int := if a < b then 2 else 0
theorem cmpN_neg {a b : Nat} : cmpN a b < 0 ↔ a < b := by
  unfold cmpN
  split
  · simp_all
  · split <;> simp_all

/-- What a power is, or which error. -/
def powN (a : List Nat) (n : Int) : Nat := if chk a = 0 ∧ 0 ≤ n ∧ n ≤ 10000 then addN (val a ^ n.toNat) else 0
def powE (a : List Nat) (n : Int) : Int := if chk a = 0 then (if 0 ≤ n ∧ n ≤ 10000 then addE (val a ^ n.toNat) else 2) else chk a

theorem and_one (n : Nat) (h : n < 9223372036854775808) : IntKind.wrap .i64 ((BitVec.ofInt (IntKind.bits .i64) (n : Int) &&& BitVec.ofInt (IntKind.bits .i64) 1).toNat : Nat) = ((n % 2 : Nat) : Int) := by
  have e : (BitVec.ofInt (IntKind.bits .i64) (n : Int) &&& BitVec.ofInt (IntKind.bits .i64) 1).toNat = n % 2 := by
    rw [BitVec.toNat_and]
    have h1 : (BitVec.ofInt (IntKind.bits .i64) (n : Int)).toNat = n := by
      rw [BitVec.toNat_ofInt]
      show ((n : Int) % ((2 ^ 64 : Nat) : Int)).toNat = n
      omega
    have h2 : (BitVec.ofInt (IntKind.bits .i64) 1).toNat = 1 := rfl
    rw [h1, h2, Nat.and_one_is_mod]
  rw [e]
  exact (InR.i64 (by omega) (by omega)).eq

theorem one_nat : AV.dsl (limbs [1]) 1 = natv 1 := by
  rw [natv, dg_pos (by decide), show 1 / BB = 0 from rfl, dg_zero]
  rfl
theorem dg_len_one : (dg 1).length = 1 := by
  rw [dg_pos (by decide), show 1 / BB = 0 from rfl, dg_zero]
  rfl

theorem pow_ge {o s m N : Nat} (h : o * s ^ m = N) (hm : 1 ≤ m) (ho : o ≠ 0) : s ≤ N := by
  rcases Nat.eq_zero_or_pos s with h0 | h0
  · omega
  · rw [← h]
    refine Nat.le_trans ?_ (Nat.le_mul_of_pos_left _ (Nat.pos_of_ne_zero ho))
    have := Nat.pow_le_pow_right h0 hm
    rwa [Nat.pow_one] at this
end Go.Proofs.Ytoijfbdjlagooaa

/- Regions that draw their order and call functions that neither read nor write the caller's own blocks: taken in the order of the text. -/
namespace Go.Proofs.Ytoijfbdjlagooaa
open Go Go.RowKit
set_option linter.unusedVariables false
set_option linter.unusedSimpArgs false

section
variable {E : Env} {H L : Heap} {fr fr' : Fr}

/-! ### What an operation reads of the frame -/
theorem evs_congr : ∀ {l : List Operand}, (∀ x ∈ l, ev E fr x = ev E fr' x) → evs E fr l = evs E fr' l
  | [], h => rfl
  | x :: l, h => by
    simp only [evs, h x (by simp), evs_congr (l := l) fun y hy => h y (by simp [hy])]
theorem evp_congr : ∀ {l : List (Nat × Operand)}, (∀ x ∈ l.map (·.2), ev E fr x = ev E fr' x) → evp E fr l = evp E fr' l
  | [], h => rfl
  | (i, x) :: l, h => by
    simp only [evp, h x (by simp), evp_congr (l := l) fun y hy => h y (by simp only [List.map_cons, List.mem_cons]; exact .inr hy)]
theorem evo_congr {x : Option Operand} (h : ∀ y ∈ x.toArray, ev E fr y = ev E fr' y) : evo E fr x = evo E fr' x := by
  cases x with
  | none => rfl
  | some y => simp only [evo, h y (by simp)]

theorem aopQ_congr {op : Op} {ty : TypeId} (h : ∀ x ∈ op.operands, ev E fr x = ev E fr' x) : aopQ E fr H op ty = aopQ E fr' H op ty := by
  cases op with
  | move x => simp only [aopQ, h x (by simp [Op.operands])]
  | assign x => simp only [aopQ, h x (by simp [Op.operands])]
  | pick c a b => simp only [aopQ, h c (by simp [Op.operands]), h a (by simp [Op.operands]), h b (by simp [Op.operands])]
  | build t ps => simp only [aopQ, evp_congr (l := ps.toList) fun y hy => h y (by simpa [Op.operands] using hy)]
  | load t x => simp only [aopQ, h x (by simp [Op.operands])]
  | nilCheck x => simp only [aopQ, h x (by simp [Op.operands])]
  | binOp o t x y z => simp only [aopQ, h x (by simp [Op.operands]), h y (by simp [Op.operands])]
  | unOp o t x => simp only [aopQ, h x (by simp [Op.operands])]
  | convert s d x => simp only [aopQ, h x (by simp [Op.operands])]
  | makeInterface t x => simp only [aopQ, h x (by simp [Op.operands])]
  | makeFunc f a b =>
    cases f with
    | func f => simp only [aopQ, evs_congr (l := a.toList) fun y hy => h y (by simp [Op.operands]; exact .inl (by simpa using hy)), evs_congr (l := b.toList) fun y hy => h y (by simp [Op.operands]; exact .inr (by simpa using hy))]
    | _ => rfl
  | slice t x l hh m =>
    cases m with
    | none => simp only [aopQ, h x (by simp [Op.operands]), evo_congr (x := l) fun y hy => h y (by simp only [Op.operands, Array.mem_append]; exact .inl (.inl (.inr hy))), evo_congr (x := hh) fun y hy => h y (by simp only [Op.operands, Array.mem_append]; exact .inl (.inr hy))]
    | some _ => rfl
  | fieldAddr s x f => simp only [aopQ, h x (by simp [Op.operands])]
  | field s x f => simp only [aopQ, h x (by simp [Op.operands])]
  | indexAddr t x i => simp only [aopQ, h x (by simp [Op.operands]), h i (by simp [Op.operands])]
  | index t x i => simp only [aopQ, h x (by simp [Op.operands]), h i (by simp [Op.operands])]
  | typeAssert x a b c => simp only [aopQ, h x (by simp [Op.operands])]
  | extract x i => simp only [aopQ, h x (by simp [Op.operands])]
  | call c =>
    obtain ⟨callee, args, ts⟩ := c
    cases callee with
    | builtin b => simp only [aopQ, evs_congr (l := args.toList) fun y hy => h y (by simp only [Op.operands, Call.operands, Array.mem_append]; exact .inr (by simpa using hy))]
    | _ => rfl
  | _ => rfl


def isW : Op → Bool
  | .alloc _ | .box _ _ | .buildSlice _ _ _ | .makeSlice _ _ _ | .store _ _ _ => true
  | _ => false
/-- It makes a block and touches no other. -/
def isNew : Op → Bool
  | .alloc _ | .box _ _ | .buildSlice _ _ _ | .makeSlice _ _ _ => true
  | _ => false
/-- It looks at no block. -/
def isPure : Op → Bool
  | .move _ | .assign _ | .pick _ _ _ | .build _ _ | .unOp _ _ _ | .makeInterface _ _ | .makeFunc _ _ _ | .field _ _ _ | .index _ _ _ | .typeAssert _ _ _ _ | .extract _ _ => true
  | .call { callee := .value _, args := _, argTypes := _ } => true
  | _ => false

theorem aopW_congr {op : Op} {ty : TypeId} (hw : isW op = true) (h : ∀ x ∈ op.operands, ev E fr x = ev E fr' x) : aopW E fr H op ty = aopW E fr' H op ty := by
  cases op with
  | alloc t => rfl
  | box t x => simp only [aopW, h x (by simp [Op.operands])]
  | buildSlice t n ps => simp only [aopW, evp_congr (l := ps.toList) fun y hy => h y (by simpa [Op.operands] using hy)]
  | store t a x => simp only [aopW, h a (by simp [Op.operands]), h x (by simp [Op.operands])]
  | makeSlice t l c => simp only [aopW, h l (by simp [Op.operands]), h c (by simp [Op.operands])]
  | _ => cases hw
theorem aopQ_isW {op : Op} {ty : TypeId} (hw : isW op = true) : aopQ E fr H op ty = none := by
  cases op <;> first | rfl | cases hw
theorem aopQ_isPure {H' : Heap} {op : Op} {ty : TypeId} (hp : isPure op = true) : aopQ E fr H op ty = aopQ E fr H' op ty := by
  unfold isPure at hp
  split at hp <;> first | rfl | (rename_i f _ _; cases f <;> rfl) | cases hp

/-! ### More blocks -/
theorem get_mono {b : Nat} {o : AObj} (h : H[b]? = some o) : (H ++ L)[b]? = some o := by
  rw [List.getElem?_append_left (List.getElem?_eq_some_iff.1 h).1]; exact h
theorem live_mono {b ver : Nat} (h : live H b ver = true) : live (H ++ L) b ver = true := by
  unfold live at *
  split at h
  · rename_i hb; rw [get_mono hb]; exact h
  · cases h
theorem cellsAt_mono {p : AV} {cs : List AV} (h : cellsAt H p = some cs) : cellsAt (H ++ L) p = some cs := by
  unfold cellsAt at *
  split at h
  · split at h
    · rename_i hb; simp only [get_mono hb]; exact h
    · cases h
  · exact h
  · cases h
theorem sliceCells_mono {p : AV} {r : List AV × Nat} (h : sliceCells H p = some r) : sliceCells (H ++ L) p = some r := by
  unfold sliceCells at *
  split at h
  · exact h
  · exact h
  · split at h
    · rename_i hb; simp only [get_mono hb]; exact h
    · cases h
  · cases h
theorem aload_mono {t : TypeId} {p v : AV} (h : aload E H t p = some v) : aload E (H ++ L) t p = some v := by
  unfold aload at *
  split at h
  · rename_i h1 h2; simp only [h1, cellsAt_mono h2]; exact h
  · cases h
theorem isNil_mono {t : TypeId} {x y : AV} (h : isNil E H t x y = true) : isNil E (H ++ L) t x y = true := by
  unfold isNil at *
  split at h <;> first | exact live_mono h | exact h
theorem anil_mono {op : BinOp} {t : TypeId} {x y v : AV} (h : anil E H op t x y = some v) : anil E (H ++ L) op t x y = some v := by
  unfold anil at *
  split at h
  · split at h
    · rename_i hn; rw [isNil_mono hn]; exact h
    · cases h
  · split at h
    · rename_i hn; rw [isNil_mono hn]; exact h
    · cases h
  · cases h
theorem abytes_mono {s d : TypeId} {x v : AV} (h : abytes E H s d x = some v) : abytes E (H ++ L) s d x = some v := by
  unfold abytes at *
  split at h
  · split at h
    · rename_i h1 h2; simp only [h1, sliceCells_mono h2]; exact h
    · cases h
  · cases h
theorem aslice_mono {t : TypeId} {x v : AV} {lo hi : Option AV} (h : aslice E H t x lo hi = some v) : aslice E (H ++ L) t x lo hi = some v := by
  unfold aslice at *
  split at h
  · exact h
  · exact h
  · exact h
  · split at h
    · split at h
      · rename_i hc; simp only [if_pos (⟨live_mono hc.1, hc.2⟩ : live (H ++ L) _ _ = true ∧ _)]; exact h
      · cases h
    · cases h
  · cases h
theorem afieldAddr_mono {s : TypeId} {p v : AV} {f : Nat} (h : afieldAddr E H s p f = some v) : afieldAddr E (H ++ L) s p f = some v := by
  unfold afieldAddr at *
  split at h
  · split at h
    · split at h
      · split at h
        · cases h
        · rename_i h0
          rw [if_neg h0]
          split at h
          · split at h
            · rename_i hl; simp only [live_mono hl, if_true]; exact h
            · cases h
          · exact h
          · cases h
      · cases h
    · cases h
  · cases h
theorem aindexAddr_mono {t : TypeId} {x i v : AV} (h : aindexAddr E H t x i = some v) : aindexAddr E (H ++ L) t x i = some v := by
  unfold aindexAddr at *
  split at h
  · split at h
    · split at h
      · split at h
        · rename_i hc; simp only [if_pos (⟨live_mono hc.1, hc.2⟩ : live (H ++ L) _ _ = true ∧ _)]; exact h
        · cases h
      · exact h
      · cases h
    · cases h
  · split at h
    · split at h
      · rename_i hc
        rw [if_pos hc]
        split at h
        · split at h
          · rename_i hl; simp only [live_mono hl, if_true]; exact h
          · cases h
        · exact h
        · cases h
      · cases h
    · cases h
  · cases h
theorem alen_mono {t : TypeId} {x v : AV} (h : alen E H t x = some v) : alen E (H ++ L) t x = some v := by
  unfold alen at *
  split at h
  · exact h
  · exact h
  · exact h
  · exact h
  · split at h
    · rename_i hl; simp only [live_mono hl, if_true]; exact h
    · cases h
  · cases h
theorem abuiltin_mono {b : Builtin} {ts : Array TypeId} {ty : TypeId} {xs : List AV} {v : AV} (h : abuiltin E H b ts ty xs = some v) : abuiltin E (H ++ L) b ts ty xs = some v := by
  unfold abuiltin at *
  split at h
  · split at h
    · exact alen_mono h
    · cases h
  · exact h
  · exact h
  · exact h
  · exact h
  · cases h

theorem aopQ_mono {op : Op} {ty : TypeId} {v : AV} (h : aopQ E fr H op ty = some v) : aopQ E fr (H ++ L) op ty = some v := by
  by_cases hp : isPure op = true
  · rw [← aopQ_isPure (H := H) hp]; exact h
  cases op with
  | load t x =>
    simp only [aopQ] at h ⊢
    split at h
    · exact aload_mono h
    · cases h
  | nilCheck x =>
    simp only [aopQ] at h ⊢
    split at h
    · split at h
      · rename_i hl; rw [if_pos (live_mono hl)]; exact h
      · cases h
    · exact h
    · exact h
    · exact h
    · split at h
      · rename_i hb; rw [get_mono hb]; exact h
      · cases h
    · cases h
  | binOp o t x y z =>
    simp only [aopQ] at h ⊢
    split at h
    · split at h
      · exact h
      · exact anil_mono h
    · cases h
  | convert s d x =>
    simp only [aopQ] at h ⊢
    split at h
    · exact abytes_mono h
    · exact h
    · cases h
  | slice t x l hh m =>
    cases m with
    | none =>
      simp only [aopQ] at h ⊢
      split at h
      · exact aslice_mono h
      · cases h
    | some _ => cases h
  | fieldAddr s x f =>
    simp only [aopQ] at h ⊢
    split at h
    · exact afieldAddr_mono h
    · cases h
  | indexAddr t x i =>
    simp only [aopQ] at h ⊢
    split at h
    · exact aindexAddr_mono h
    · cases h
  | call c =>
    obtain ⟨callee, args, ts⟩ := c
    cases callee with
    | builtin b =>
      simp only [aopQ] at h ⊢
      split at h
      · exact abuiltin_mono h
      · cases h
    | _ => cases h
  | _ => first | exact absurd rfl hp | cases h

theorem aopW_new {op : Op} {ty : TypeId} {r : AV × Heap} (hn : isNew op = true) (h : aopW E fr H op ty = some r) : ∃ o, r.2 = H ++ [o] := by
  cases op with
  | alloc t =>
    simp only [aopW, aalloc] at h
    obtain ⟨x, _, rfl⟩ := Option.map_eq_some_iff.1 h
    exact ⟨_, rfl⟩
  | box t x =>
    simp only [aopW] at h
    split at h
    · simp only [abox] at h
      obtain ⟨x, _, rfl⟩ := Option.map_eq_some_iff.1 h
      exact ⟨_, rfl⟩
    · cases h
  | buildSlice t n ps =>
    simp only [aopW] at h
    split at h
    · simp only [abuildSlice] at h
      split at h
      · split at h
        · split at h
          · obtain ⟨x, _, rfl⟩ := Option.map_eq_some_iff.1 h
            exact ⟨_, rfl⟩
          · cases h
        · cases h
      · cases h
    · cases h
  | makeSlice t l c =>
    simp only [aopW] at h
    split at h
    · simp only [amakeSlice] at h
      split at h
      · split at h
        · split at h
          · cases h; exact ⟨_, rfl⟩
          · cases h
        · cases h
      · cases h
    · cases h
  | _ => cases hn

/-! ### The order of the text -/
structure VIso (E : Env) (g : FuncId) (args : List AV) (Q : AV → Prop) : Prop where
  ok : ∃ v, lowL 0 args ∧ (∃ fn, E.P.funcs[g]? = some fn ∧ fn.body.isSome = true ∧ (fn.name == "runtime.NumGoroutine") = false) ∧ ACall E g args [] (fun v0 H0 => Fz H0 0 [] v0 v) ∧ Q v

inductive OpR (E : Env) (ops : Array Oper) (fr : Fr) (H : Heap) (o : Oper) : AV → Heap → Prop
  | skip (hg : gd fr ops o = some false) : OpR E ops fr H o (.tup []) H
  | quiet {v : AV} (hg : gd fr ops o = some true) (h : aopQ E fr H o.op o.type = some v) : OpR E ops fr H o v H
  | write {v : AV} {H1 : Heap} (hg : gd fr ops o = some true) (hw : isW o.op = true) (h : aopW E fr H o.op o.type = some (v, H1)) : OpR E ops fr H o v H1
  | call {v : AV} {f : Operand} {args : Array Operand} {ts : Array TypeId} {g : FuncId} {first cap xs : List AV} (hg : gd fr ops o = some true) (hop : o.op = .call { callee := .value f, args := args, argTypes := ts })
      (hf : ev E fr f = some (.fn (.func g) first cap)) (hxs : evs E fr args.toList = some xs) (hl : lowL 0 (first ++ xs ++ cap))
      (hfn : ∃ fn, E.P.funcs[g]? = some fn ∧ fn.body.isSome = true ∧ (fn.name == "runtime.NumGoroutine") = false) (h : ACall E g (first ++ xs ++ cap) [] (fun v0 H0 => Fz H0 0 [] v0 v)) : OpR E ops fr H o v H

def vopD (E : Env) (m : Bool) (fr : Fr) (H : Heap) (K : AV → Heap → Prop) (op : Op) (ty : TypeId) : Prop :=
  match op with
  | .call { callee := .value f, args, argTypes } => match ev E fr f, evs E fr args.toList with
    | some (.fn (.func g) first cap), some xs => VIso E g (first ++ xs ++ cap) fun v => K v H
    | _, _ => False
  | .alloc t => vopW E fr H K (.alloc t) ty
  | .box t x => vopW E fr H K (.box t x) ty
  | .buildSlice t n ps => vopW E fr H K (.buildSlice t n ps) ty
  | .store t a x => vopW E fr H K (.store t a x) ty
  | .makeSlice t l c => vopW E fr H K (.makeSlice t l c) ty
  | op => vopQ E m fr H (fun v => K v H) op ty

def vseq (E : Env) (m : Bool) (N : Nat) (ops : List Oper) : List Oper → Fr → Heap → (Fr → Heap → Prop) → Prop
  | [], fr, H, K => K fr H
  | o :: r, fr, H, K => vgd ops fr o.guard (vopD E m fr H (fun v H' => vput N fr o.dst v fun fr' => vseq E m N ops r fr' H' K) o.op o.type)
      (vput N fr o.dst (.tup []) fun fr' => vseq E m N ops r fr' H K)

theorem vopD_ok {m : Bool} {ops : Array Oper} {o : Oper} {K : AV → Heap → Prop} (hg : gd fr ops o = some true) (h : vopD E m fr H K o.op o.type) : ∃ v H1, OpR E ops fr H o v H1 ∧ K v H1 := by
  have keyW : isW o.op = true → vopW E fr H K o.op o.type → ∃ v H1, OpR E ops fr H o v H1 ∧ K v H1 := fun hw hh => by
    obtain ⟨r, h1, h2⟩ := vopW_ok hh
    exact ⟨r.1, r.2, .write hg hw h1, h2⟩
  have keyQ : vopQ E m fr H (fun v => K v H) o.op o.type → ∃ v H1, OpR E ops fr H o v H1 ∧ K v H1 := fun hh => by
    obtain ⟨v, h1, h2⟩ := vopQ_ok hh
    exact ⟨v, H, .quiet hg h1, h2⟩
  obtain ⟨dst, op, ty, pos, after, guard⟩ := o
  dsimp only at h keyW keyQ
  unfold vopD at h
  split at h
  · split at h
    · rename_i hf hxs
      obtain ⟨v, h1, h2, h3, h4⟩ := h.ok
      exact ⟨v, H, .call hg rfl hf hxs h1 h2 h3, h4⟩
    · exact h.elim
  · exact keyW rfl h
  · exact keyW rfl h
  · exact keyW rfl h
  · exact keyW rfl h
  · exact keyW rfl h
  · exact keyQ h

structure RunD (E : Env) (N : Nat) (ops : Array Oper) (n : Nat) (frs : Nat → Fr) (Hs : Nat → Heap) (vs : Nat → AV) : Prop where
  step : ∀ i o, i < n → ops[i]? = some o → OpR E ops (frs i) (Hs i) o (vs i) (Hs (i + 1)) ∧ putd N (frs i) o.dst (vs i) = some (frs (i + 1))

theorem vseq_run {m : Bool} {N : Nat} {ops : Array Oper} {K : Fr → Heap → Prop} : ∀ {l : List Oper} {k : Nat} {fr : Fr} {H : Heap}, l = ops.toList.drop k → vseq E m N ops.toList l fr H K →
    ∃ (frs : Nat → Fr) (Hs : Nat → Heap) (vs : Nat → AV), frs 0 = fr ∧ Hs 0 = H ∧ K (frs l.length) (Hs l.length) ∧
      ∀ i o, i < l.length → ops[k + i]? = some o → OpR E ops (frs i) (Hs i) o (vs i) (Hs (i + 1)) ∧ putd N (frs i) o.dst (vs i) = some (frs (i + 1))
  | [], k, fr, H, hl, h => ⟨fun _ => fr, fun _ => H, fun _ => .nptr, rfl, rfl, h, fun i o hi => absurd hi (Nat.not_lt_zero _)⟩
  | o :: r, k, fr, H, hl, h => by
    have hk : k < ops.toList.length := by
      apply Nat.lt_of_not_le
      intro hle
      rw [List.drop_eq_nil_of_le hle] at hl
      cases hl
    have hd := List.drop_eq_getElem_cons hk
    rw [← hl] at hd
    have ho : ops[k]? = some o := by
      rw [← Array.getElem?_toList, List.getElem?_eq_getElem hk]
      exact congrArg some (List.cons.inj hd).1.symm
    have hr : r = ops.toList.drop (k + 1) := (List.cons.inj hd).2
    simp only [vseq] at h
    obtain ⟨t, hg, h⟩ := vgd_ok h
    have key : ∃ v H1, OpR E ops fr H o v H1 ∧ vput N fr o.dst v fun fr' => vseq E m N ops.toList r fr' H1 K := by
      cases t with
      | true => exact vopD_ok hg (by simpa using h)
      | false => exact ⟨.tup [], H, .skip hg, by simpa using h⟩
    obtain ⟨v, H1, h1, h2⟩ := key
    obtain ⟨fr1, h3, h4⟩ := vput_ok h2
    obtain ⟨frs, Hs, vs, e1, e2, e3, e4⟩ := vseq_run hr h4
    refine ⟨fun i => Nat.casesOn i fr frs, fun i => Nat.casesOn i H Hs, fun i => Nat.casesOn i v vs, rfl, rfl, e3, fun i o' hi ho' => ?_⟩
    cases i with
    | zero =>
      rw [Nat.add_zero, ho] at ho'
      cases ho'
      dsimp only
      rw [e1, e2]
      exact ⟨h1, h3⟩
    | succ i =>
      have := e4 i o' (by simpa using hi) (by rw [← ho']; congr 1; omega)
      exact this

/-! ### Which orders a region leaves -/
def tmpsOf (op : Op) : List Nat := op.operands.toList.filterMap fun
  | .tmp t => some t
  | _ => none
def gtmp (ops : List Oper) (o : Oper) : List Nat := match o.guard with
  | some (j, _) => match (ops[j]?).bind (·.dst) with
    | some d => [d]
    | none => []
  | none => []
def rmask (acc : List Nat) (o : Oper) : Nat := o.after.toList.foldl (fun m e => if Region.binds .any e then Nat.lor (Nat.lor m (Nat.shiftLeft 1 e.on)) (acc.getD e.on 0) else m) 0
def rmasks : List Oper → List Nat → List Nat
  | [], acc => acc
  | o :: r, acc => rmasks r (acc ++ [rmask acc o])
def below (n : Nat) (p : Nat → Bool) : Bool := (List.range n).all p
def dstOf (ops : List Oper) (j : Nat) : Option Tmp := (ops[j]?).bind (·.dst)
def isWAt (ops : List Oper) (j : Nat) : Bool := match ops[j]? with
  | some o => isW o.op
  | none => false
def isNewAt (ops : List Oper) (j : Nat) : Bool := match ops[j]? with
  | some o => isNew o.op
  | none => false
def bit (R : List Nat) (i j : Nat) : Bool := Nat.testBit (R.getD i 0) j
def condO (ops : List Oper) (R : List Nat) (i : Nat) (o : Oper) : Bool :=
  o.after.toList.all (fun e => !Region.binds .any e || Nat.blt e.on i) &&
  (tmpsOf o.op ++ gtmp ops o).all (fun x => below ops.length fun j => match dstOf ops j with
    | some d => !Nat.beq d x || (Nat.blt j i && bit R i j) || (Nat.blt i j && bit R j i)
    | none => true) &&
  (match o.dst with
    | some d => below ops.length fun j => Nat.beq i j || (match dstOf ops j with
      | some d' => !Nat.beq d d'
      | none => true)
    | none => true) &&
  (isPure o.op || below ops.length fun h => !isWAt ops h || (Nat.beq h i || (Nat.blt h i && bit R i h) || (Nat.blt i h && (bit R h i || (!isW o.op && isNewAt ops h)))))
def condD (ops : List Oper) : Bool := below ops.length fun i => match ops[i]? with
  | some o => condO ops (rmasks ops []) i o
  | none => true

theorem below_iff {n : Nat} {p : Nat → Bool} (h : below n p = true) {i : Nat} (hi : i < n) : p i = true := List.all_eq_true.1 h i (List.mem_range.2 hi)

theorem rmask_fold {acc : List Nat} {j : Nat} : ∀ {l : List Edge} {m : Nat}, Nat.testBit (l.foldl (fun m e => if Region.binds .any e then Nat.lor (Nat.lor m (Nat.shiftLeft 1 e.on)) (acc.getD e.on 0) else m) m) j = true →
    Nat.testBit m j = true ∨ ∃ e ∈ l, Region.binds .any e = true ∧ (e.on = j ∨ Nat.testBit (acc.getD e.on 0) j = true)
  | [], m, h => .inl h
  | e :: l, m, h => by
    rw [List.foldl_cons] at h
    rcases rmask_fold h with h1 | ⟨e', h1, h2⟩
    · split at h1
      · rename_i hb
        have h1 : Nat.testBit (m ||| (1 <<< e.on) ||| acc.getD e.on 0) j = true := h1
        rw [Nat.testBit_or, Nat.testBit_or, Bool.or_eq_true, Bool.or_eq_true] at h1
        rcases h1 with (h1 | h1) | h1
        · exact .inl h1
        · rw [Nat.testBit_shiftLeft, Bool.and_eq_true, decide_eq_true_iff] at h1
          have h2 := h1.2
          have h3 : j - e.on = 0 := by
            cases hk : j - e.on with
            | zero => rfl
            | succ k => rw [hk, Nat.testBit_succ] at h2; simp at h2
          exact .inr ⟨e, by simp, hb, .inl (by omega)⟩
        · exact .inr ⟨e, by simp, hb, .inr h1⟩
      · exact .inl h1
    · exact .inr ⟨e', by simp [h1], h2⟩

theorem rmasks_len : ∀ {l : List Oper} {acc : List Nat}, (rmasks l acc).length = acc.length + l.length
  | [], acc => rfl
  | o :: r, acc => by rw [rmasks, rmasks_len, List.length_append, List.length_singleton, List.length_cons]; omega
theorem rmasks_pre : ∀ {l : List Oper} {acc : List Nat} {i : Nat}, i < acc.length → (rmasks l acc).getD i 0 = acc.getD i 0
  | [], acc, i, h => rfl
  | o :: r, acc, i, h => by
    rw [rmasks, rmasks_pre (by rw [List.length_append]; omega)]
    simp [List.getD_eq_getElem?_getD, List.getElem?_append_left h]
theorem rmasks_at : ∀ {l : List Oper} {acc : List Nat} {i : Nat} {o : Oper}, l[i]? = some o → ∃ a, (∀ j, j < acc.length + i → a.getD j 0 = (rmasks l acc).getD j 0) ∧ a.length = acc.length + i ∧ (rmasks l acc).getD (acc.length + i) 0 = rmask a o
  | [], acc, i, o, h => by cases h
  | o :: r, acc, 0, o', h => by
    cases h
    refine ⟨acc, fun j hj => ?_, rfl, ?_⟩
    · rw [rmasks, rmasks_pre (by rw [List.length_append]; omega)]
      simp [List.getD_eq_getElem?_getD, List.getElem?_append_left (show j < acc.length by omega)]
    · rw [rmasks, rmasks_pre (by rw [List.length_append, List.length_singleton]; omega)]
      simp [List.getD_eq_getElem?_getD]
  | o :: r, acc, i + 1, o', h => by
    obtain ⟨a, h1, h2, h3⟩ := rmasks_at (l := r) (acc := acc ++ [rmask acc o]) (i := i) (by simpa using h)
    simp only [List.length_append, List.length_singleton] at h1 h2 h3
    refine ⟨a, fun j hj => by rw [rmasks]; exact h1 j (by omega), by omega, ?_⟩
    rw [rmasks, show acc.length + (i + 1) = acc.length + 1 + i by omega]
    exact h3

structure ClosedD (ops : Array Oper) (listed : Array Bool) : Prop where
  c : ∀ j o, ops[j]? = some o → listed.getD j false = true → ∀ e ∈ o.after, Region.binds .any e = true → listed.getD e.on false = true

/-- What an operation waits for has been done ahead of it. -/
theorem bit_done {ops : Array Oper} {listed : Array Bool} (hback : ∀ (i : Nat) (o : Oper), ops[i]? = some o → ∀ e ∈ o.after, Region.binds .any e = true → e.on < i) (hc : ClosedD ops listed) :
    ∀ (i : Nat) (o : Oper) (j : Nat), ops[i]? = some o → (∀ e ∈ o.after, Region.binds .any e = true → listed.getD e.on false = true) → bit (rmasks ops.toList []) i j = true → listed.getD j false = true := by
  intro i
  induction i using Nat.strongRecOn with
  | _ i ih =>
    intro o j ho hl hb
    obtain ⟨a, h1, h2, h3⟩ := rmasks_at (l := ops.toList) (acc := []) (i := i) (o := o) (by rwa [Array.getElem?_toList])
    rw [List.length_nil, Nat.zero_add] at h1 h2 h3
    unfold bit at hb
    rw [h3] at hb
    unfold rmask at hb
    rcases rmask_fold hb with hz | ⟨e, he, hbe, hj⟩
    · simp at hz
    · have he' : e ∈ o.after := by simpa using he
      have hon := hl e he' hbe
      rcases hj with rfl | hj
      · exact hon
      · have hlt := hback i o ho e he' hbe
        rw [h1 e.on hlt] at hj
        cases ho2 : ops[e.on]? with
        | none =>
          have hsz : ops.size ≤ e.on := by
            rcases Nat.lt_or_ge e.on ops.size with h | h
            · rw [Array.getElem?_eq_getElem h] at ho2; cases ho2
            · exact h
          have hsz2 : i < ops.size := by
            rcases Nat.lt_or_ge i ops.size with h | h
            · exact h
            · rw [Array.getElem?_eq_none h] at ho; cases ho
          omega
        | some o2 => exact ih e.on hlt o2 j ho2 (hc.c e.on o2 ho2 hon) hj

/-! ### Any order -/
structure InvD (E : Env) (N : Nat) (rd ro : Option Nat) (ops : Array Oper) (fr0 : Fr) (df : List Nat) (Hs : Nat → Heap) (vs : Nat → AV) (K0 K : Conc) (listed : Array Bool) (p : Nat) (a : Act) (w : World) : Prop where
  size : listed.size = ops.size
  closed : ClosedD ops listed
  pl : p ≤ ops.size
  hp : ∀ h o, ops[h]? = some o → isW o.op = true → (listed.getD h false = true ↔ h < p)
  H : HR E K (Hs p) w
  ts : a.tmps.size = N
  done : ∀ j o d, ops[j]? = some o → listed.getD j false = true → o.dst = some d → VR K (vs j) (a.tmps.getD d undef)
  rest : ∀ d v, lk fr0 d = some v → (∀ j o, ops[j]? = some o → listed.getD j false = true → o.dst ≠ some d) → VR K v (a.tmps.getD d undef)
  D : DR K df a.defers
  R : RR K rd ro
  x : Ext K0 K

/-- The part of a frame that an operation reads. -/
def subF (fr : Fr) (xs : List Nat) : Fr := xs.filterMap fun x => (lk fr x).map fun v => (x, v)
theorem subF_lk {fr : Fr} {x : Nat} {v : AV} : ∀ {xs : List Nat}, lk (subF fr xs) x = some v → x ∈ xs ∧ lk fr x = some v
  | [], h => by cases h
  | y :: xs, h => by
    unfold subF at h
    rw [List.filterMap_cons] at h
    cases hy : lk fr y with
    | none =>
      rw [hy] at h
      have := subF_lk (xs := xs) h
      exact ⟨by simp [this.1], this.2⟩
    | some u =>
      rw [hy] at h
      simp only [Option.map_some, lk] at h
      split at h
      · rename_i hxy; subst hxy; exact ⟨by simp, hy.trans h⟩
      · have := subF_lk (xs := xs) h
        exact ⟨by simp [this.1], this.2⟩
theorem subF_mem {fr : Fr} {x : Nat} : ∀ {xs : List Nat}, x ∈ xs → lk (subF fr xs) x = lk fr x
  | [], h => by cases h
  | y :: xs, h => by
    unfold subF
    rw [List.filterMap_cons]
    cases hy : lk fr y with
    | none =>
      rcases List.mem_cons.1 h with rfl | h
      · cases hx : lk (subF fr xs) x with
        | none =>
          show lk (subF fr xs) x = _
          rw [hx, hy]
        | some u =>
          have := (subF_lk hx).2
          rw [hy] at this; cases this
      · exact subF_mem h
    | some u =>
      simp only [Option.map_some, lk]
      split
      · rename_i hxy; subst hxy; exact hy.symm
      · rename_i hxy
        rcases List.mem_cons.1 h with rfl | h
        · exact absurd rfl hxy
        · exact subF_mem h
theorem subF_ev {fr : Fr} {op : Op} {xs : List Nat} (hx : ∀ t ∈ tmpsOf op, t ∈ xs) : ∀ x ∈ op.operands, ev E (subF fr xs) x = ev E fr x := by
  intro x hxm
  cases x with
  | tmp t =>
    simp only [ev]
    refine subF_mem (hx t ?_)
    unfold tmpsOf
    rw [List.mem_filterMap]
    exact ⟨.tmp t, by simpa using hxm, rfl⟩
  | _ => rfl
theorem subF_gd {fr : Fr} {ops : Array Oper} {o : Oper} {xs : List Nat} (hx : ∀ t ∈ gtmp ops.toList o, t ∈ xs) : gd (subF fr xs) ops o = gd fr ops o := by
  unfold gd
  unfold gtmp at hx
  cases hg : o.guard with
  | none => rfl
  | some jw =>
    obtain ⟨j, want⟩ := jw
    rw [hg] at hx
    dsimp only at hx ⊢
    rw [Array.getElem?_toList] at hx
    cases hd : (ops[j]?).bind (·.dst) with
    | none => rfl
    | some d =>
      rw [hd] at hx
      dsimp only at hx ⊢
      rw [subF_mem (hx d (by simp))]

theorem lk_frs {N n : Nat} {ops : Array Oper} {frs : Nat → Fr} {Hs : Nat → Heap} {vs : Nat → AV} (hr : RunD E N ops n frs Hs vs) (hn : n ≤ ops.size) : ∀ {i : Nat} {x : Nat} {v : AV}, i ≤ n → lk (frs i) x = some v →
    (∃ j o, j < i ∧ ops[j]? = some o ∧ o.dst = some x ∧ v = vs j) ∨ ((∀ j o, j < i → ops[j]? = some o → o.dst ≠ some x) ∧ lk (frs 0) x = some v)
  | 0, x, v, hi, h => .inr ⟨fun j o hj => absurd hj (Nat.not_lt_zero _), h⟩
  | i + 1, x, v, hi, h => by
    have ho : ops[i]? = some ops[i] := Array.getElem?_eq_getElem (by omega)
    obtain ⟨_, h2⟩ := hr.step i _ (by omega) ho
    have rec_ : ∀ hx : lk (frs i) x = some v, (ops[i].dst ≠ some x) → (∃ j o, j < i + 1 ∧ ops[j]? = some o ∧ o.dst = some x ∧ v = vs j) ∨ ((∀ j o, j < i + 1 → ops[j]? = some o → o.dst ≠ some x) ∧ lk (frs 0) x = some v) := by
      intro hx hne
      rcases lk_frs hr hn (i := i) (by omega) hx with ⟨j, o, hj, h3⟩ | ⟨h3, h4⟩
      · exact .inl ⟨j, o, by omega, h3⟩
      · refine .inr ⟨fun j o hj ho' => ?_, h4⟩
        rcases Nat.lt_or_ge j i with hji | hji
        · exact h3 j o hji ho'
        · obtain rfl : j = i := by omega
          rw [ho] at ho'; cases ho'; exact hne
    cases hd : ops[i].dst with
    | none =>
      rw [hd] at h2
      simp only [putd] at h2
      rw [← Option.some.inj h2] at h
      exact rec_ h (by rw [hd]; simp)
    | some d =>
      rw [hd] at h2
      simp only [putd] at h2
      split at h2
      · have h2 := Option.some.inj h2
        rw [← h2] at h
        simp only [lk] at h
        split at h
        · rename_i hdx
          subst hdx
          exact .inl ⟨i, _, by omega, ho, hd, (Option.some.inj h).symm⟩
        · rename_i hdx
          exact rec_ h (by rw [hd]; intro e; exact hdx (Option.some.inj e))
      · cases h2

theorem not_listed {listed : Array Bool} {i : Nat} (h : listed.getD i true = false) : listed.getD i false = false ∧ i < listed.size := by
  rcases Nat.lt_or_ge i listed.size with h' | h'
  · simp [h'] at h ⊢; exact h
  · simp [Array.getElem?_eq_none h'] at h
theorem set_listed {listed : Array Bool} {i j : Nat} (hi : i < listed.size) : (listed.setIfInBounds i true).getD j false = true ↔ (j = i ∨ listed.getD j false = true) := by
  by_cases hij : i = j
  · subst hij; simp [hi]
  · rcases Nat.lt_or_ge j listed.size with h' | h'
    · simp [h', Array.getElem_setIfInBounds, hij, Ne.symm hij]
    · simp [Array.getElem?_eq_none, h', Ne.symm hij]

structure CondD (ops : Array Oper) : Prop where
  back : ∀ (i : Nat) (o : Oper), ops[i]? = some o → ∀ e ∈ o.after, Region.binds .any e = true → e.on < i
  use : ∀ (i : Nat) (o : Oper) (x j : Nat) (oj : Oper), ops[i]? = some o → (x ∈ tmpsOf o.op ∨ x ∈ gtmp ops.toList o) → ops[j]? = some oj → oj.dst = some x → (j < i ∧ bit (rmasks ops.toList []) i j = true) ∨ (i < j ∧ bit (rmasks ops.toList []) j i = true)
  dst : ∀ (i j : Nat) (oi oj : Oper) (d : Nat), ops[i]? = some oi → ops[j]? = some oj → oi.dst = some d → oj.dst = some d → i = j
  heap : ∀ (i : Nat) (o : Oper) (h : Nat) (oh : Oper), ops[i]? = some o → isPure o.op = false → ops[h]? = some oh → isW oh.op = true → h = i ∨ (h < i ∧ bit (rmasks ops.toList []) i h = true) ∨ (i < h ∧ (bit (rmasks ops.toList []) h i = true ∨ (isW o.op = false ∧ isNew oh.op = true)))

theorem lt_size {ops : Array Oper} {i : Nat} {o : Oper} (h : ops[i]? = some o) : i < ops.size := by
  rcases Nat.lt_or_ge i ops.size with h' | h'
  · exact h'
  · rw [Array.getElem?_eq_none h'] at h; cases h
theorem condD_ok {ops : Array Oper} (h : condD ops.toList = true) : CondD ops := by
  have hl : ops.toList.length = ops.size := by simp
  have key : ∀ i o, ops[i]? = some o → condO ops.toList (rmasks ops.toList []) i o = true := by
    intro i o ho
    have := below_iff h (i := i) (by rw [hl]; exact lt_size ho)
    rw [Array.getElem?_toList, ho] at this
    exact this
  have nb : ∀ {a b : Nat}, (!Nat.beq a b) = true ↔ a ≠ b := by
    intro a b
    cases hh : Nat.beq a b with
    | true => simp [Nat.eq_of_beq_eq_true hh]
    | false => simp [Nat.ne_of_beq_eq_false hh]
  have bl : ∀ {a b : Nat}, Nat.blt a b = true ↔ a < b := fun {a b} => by simp [Nat.blt_eq]
  refine ⟨fun i o ho e he hb => ?_, fun i o x j oj ho hx hoj hd => ?_, fun i j oi oj d hi hj hdi hdj => ?_, fun i o h' oh ho hp hoh hw => ?_⟩
  · have hk := key i o ho
    simp only [condO, Bool.and_eq_true] at hk
    have := List.all_eq_true.1 hk.1.1.1 e (by simpa using he)
    rw [hb] at this
    simpa [Nat.blt_eq] using this
  · have hk := key i o ho
    simp only [condO, Bool.and_eq_true] at hk
    have h1 := List.all_eq_true.1 hk.1.1.2 x (by rw [List.mem_append]; exact hx)
    have h2 := below_iff h1 (i := j) (by rw [hl]; exact lt_size hoj)
    have h3 : dstOf ops.toList j = some x := by rw [dstOf, Array.getElem?_toList, hoj]; exact hd
    rw [h3] at h2
    simp only [Bool.or_eq_true, Bool.and_eq_true, bl] at h2
    rcases h2 with (h2 | h2) | h2
    · rw [nb] at h2; exact absurd rfl h2
    · exact .inl h2
    · exact .inr h2
  · have hk := key i oi hi
    simp only [condO, Bool.and_eq_true] at hk
    have h1 := hk.1.2
    rw [hdi] at h1
    have h2 := below_iff h1 (i := j) (by rw [hl]; exact lt_size hj)
    have h3 : dstOf ops.toList j = some d := by rw [dstOf, Array.getElem?_toList, hj]; exact hdj
    rw [h3] at h2
    simp only [Bool.or_eq_true] at h2
    rcases h2 with h2 | h2
    · exact Nat.eq_of_beq_eq_true h2
    · rw [nb] at h2; exact absurd rfl h2
  · have hk := key i o ho
    simp only [condO, Bool.and_eq_true] at hk
    have h1 := hk.2
    rw [hp, Bool.false_or] at h1
    have h2 := below_iff h1 (i := h') (by rw [hl]; exact lt_size hoh)
    have e1 : isWAt ops.toList h' = true := by rw [isWAt, Array.getElem?_toList, hoh]; exact hw
    have e2 : isNewAt ops.toList h' = isNew oh.op := by rw [isNewAt, Array.getElem?_toList, hoh]
    rw [e1, e2] at h2
    simp only [Bool.not_true, Bool.false_or, Bool.or_eq_true, Bool.and_eq_true, bl, Bool.not_eq_true'] at h2
    rcases h2 with (h2 | h2) | h2
    · exact .inl (Nat.eq_of_beq_eq_true h2)
    · exact .inr (.inl h2)
    · exact .inr (.inr h2)

variable {N n : Nat} {rd ro : Option Nat} {ops : Array Oper} {frs : Nat → Fr} {Hs : Nat → Heap} {vs : Nat → AV} {df : List Nat} {K0 K : Conc} {listed : Array Bool} {p : Nat} {a : Act} {w : World}

theorem hs_same (hr : RunD E N ops ops.size frs Hs vs) {i j : Nat} (hij : i ≤ j) (hj : j ≤ ops.size) (h : ∀ k o, i ≤ k → k < j → ops[k]? = some o → isW o.op = false) : Hs j = Hs i := by
  induction j with
  | zero => rw [show i = 0 by omega]
  | succ j ih =>
    rcases Nat.lt_or_ge j i with hlt | hge
    · rw [show i = j + 1 by omega]
    · have ho : ops[j]? = some ops[j] := Array.getElem?_eq_getElem (by omega)
      have hw := h j _ hge (by omega) ho
      rw [← ih hge (by omega) fun k o h1 h2 h3 => h k o h1 (by omega) h3]
      obtain ⟨h1, _⟩ := hr.step j _ (by omega) ho
      generalize Hs (j + 1) = Hj at h1
      generalize vs j = vj at h1
      cases h1 with
      | skip => rfl
      | quiet => rfl
      | write _ hw2 _ => rw [hw] at hw2; cases hw2
      | call => rfl
theorem hs_more (hr : RunD E N ops ops.size frs Hs vs) {i j : Nat} (hij : i ≤ j) (hj : j ≤ ops.size) (h : ∀ k o, i ≤ k → k < j → ops[k]? = some o → isW o.op = true → isNew o.op = true) : ∃ L, Hs j = Hs i ++ L := by
  induction j with
  | zero => exact ⟨[], by rw [show i = 0 by omega, List.append_nil]⟩
  | succ j ih =>
    rcases Nat.lt_or_ge j i with hlt | hge
    · exact ⟨[], by rw [show i = j + 1 by omega, List.append_nil]⟩
    · have ho : ops[j]? = some ops[j] := Array.getElem?_eq_getElem (by omega)
      obtain ⟨L, hL⟩ := ih hge (by omega) fun k o h1 h2 h3 => h k o h1 (by omega) h3
      obtain ⟨h1, _⟩ := hr.step j _ (by omega) ho
      generalize hHj : Hs (j + 1) = Hj at h1 ⊢
      generalize vs j = vj at h1
      cases h1 with
      | skip => exact ⟨L, hL⟩
      | quiet => exact ⟨L, hL⟩
      | write _ hw2 hh =>
        obtain ⟨o, ho2⟩ := aopW_new (h j _ hge (by omega) ho hw2) hh
        exact ⟨L ++ [o], by rw [← List.append_assoc, ← hL]; exact ho2⟩
      | call => exact ⟨L, hL⟩

/-- What an operation that is ready reads is there. -/
theorem InvD.sub (hI : InvD E N rd ro ops (frs 0) df Hs vs K0 K listed p a w) (hr : RunD E N ops ops.size frs Hs vs) (hC : CondD ops) {i : Nat} {o : Oper} (ho : ops[i]? = some o) (hl : ∀ e ∈ o.after, Region.binds .any e = true → listed.getD e.on false = true) (hn : listed.getD i false = false)
    : FR K N (subF (frs i) (tmpsOf o.op ++ gtmp ops.toList o)) a.tmps := by
  refine ⟨hI.ts, fun x v hx => ?_⟩
  obtain ⟨hm, hx⟩ := subF_lk hx
  have hm' := List.mem_append.1 hm
  have hi := lt_size ho
  rcases lk_frs hr (Nat.le_refl _) (i := i) (by omega) hx with ⟨j, oj, hj, hoj, hd, rfl⟩ | ⟨h1, h2⟩
  · rcases hC.use i o x j oj ho hm' hoj hd with ⟨_, hb⟩ | ⟨hb, _⟩
    · exact hI.done j oj x hoj (bit_done hC.back hI.closed i o j ho hl hb) hd
    · omega
  · refine hI.rest x v h2 fun j oj hoj hlj hd => ?_
    rcases Nat.lt_or_ge j i with hji | hji
    · exact h1 j oj hji hoj hd
    · rcases Nat.eq_or_lt_of_le hji with rfl | hji
      · rw [hn] at hlj; cases hlj
      · rcases hC.use i o x j oj ho hm' hoj hd with ⟨hb, _⟩ | ⟨_, hb⟩
        · omega
        · have := bit_done hC.back hI.closed j oj i hoj (fun e he hbe => hI.closed.c j oj hoj hlj e he hbe) hb
          rw [hn] at this; cases this

theorem InvD.put (hI : InvD E N rd ro ops (frs 0) df Hs vs K0 K listed p a w) (hr : RunD E N ops ops.size frs Hs vs) (hC : CondD ops) {i : Nat} {o : Oper} (ho : ops[i]? = some o) (hl : ∀ e ∈ o.after, Region.binds .any e = true → listed.getD e.on false = true) (hn : listed.getD i true = false)
    {K' : Conc} {w' : World} {cv : Value} {q : Nat} (hx : Ext K K') (hH : HR E K' (Hs q) w') (hv : VR K' (vs i) cv) (hq : q ≤ ops.size) (hpq : ∀ h oh, ops[h]? = some oh → isW oh.op = true → ((h = i ∨ listed.getD h false = true) ↔ h < q)) :
    InvD E N rd ro ops (frs 0) df Hs vs K0 K' (listed.setIfInBounds i true) q (a.put o.dst cv) w' := by
  obtain ⟨hn, hsz⟩ := not_listed hn
  have hi := lt_size ho
  obtain ⟨_, hput⟩ := hr.step i o hi ho
  have hlt : ∀ d, o.dst = some d → d < N := by
    intro d hd
    rw [hd] at hput
    simp only [putd] at hput
    split at hput
    · assumption
    · cases hput
  have tmps : ∀ d, o.dst ≠ some d → (a.put o.dst cv).tmps.getD d undef = a.tmps.getD d undef := by
    intro d hd
    cases hdst : o.dst with
    | none => rfl
    | some d' =>
      have hne : d' ≠ d := fun e => hd (by rw [hdst, e])
      simp only [Act.put, Array.getD_eq_getD_getElem?]
      congr 1
      rw [Array.getElem?_setIfInBounds_ne hne]
  refine ⟨by simp [hI.size], ⟨fun j oj hoj hlj e he hb => ?_⟩, hq, fun h oh hoh hw => ?_, hH, ?_, fun j oj d hoj hlj hd => ?_, fun d v hdv hnd => ?_, by cases o.dst <;> exact hI.D.ext hx, hI.R.ext hx, hI.x.trans hx⟩
  · rw [set_listed hsz] at hlj ⊢
    rcases hlj with rfl | hlj
    · rw [ho] at hoj; cases hoj; exact .inr (hl e he hb)
    · exact .inr (hI.closed.c j oj hoj hlj e he hb)
  · rw [set_listed hsz]; exact hpq h oh hoh hw
  · cases hdst : o.dst with
    | none => exact hI.ts
    | some d => simp [Act.put, hI.ts]
  · rw [set_listed hsz] at hlj
    rcases hlj with rfl | hlj
    · rw [ho] at hoj
      cases hoj
      rw [hd]
      have : d < a.tmps.size := by rw [hI.ts]; exact hlt d hd
      simp [Act.put, this]
      exact hv
    · by_cases hji : j = i
      · subst hji; rw [hn] at hlj; cases hlj
      · rw [tmps d fun e => hji (hC.dst j i oj o d hoj ho hd e)]
        exact VR.ext hx _ _ (hI.done j oj d hoj hlj hd)
  · rw [tmps d fun e => hnd i o ho ((set_listed hsz).2 (.inl rfl)) e]
    exact VR.ext hx _ _ (hI.rest d v hdv fun j oj hoj hlj => hnd j oj hoj ((set_listed hsz).2 (.inr hlj)))

theorem getD_true_false {listed : Array Bool} {i : Nat} (hi : i < listed.size) (h : listed.getD i false = false) : listed.getD i true = false := by
  simp [hi] at h ⊢; exact h

/-- One operation, at any place in the order. -/
theorem InvD.step (hI : InvD E N rd ro ops (frs 0) df Hs vs K0 K listed p a w) (hr : RunD E N ops ops.size frs Hs vs) (hC : CondD ops) {i : Nat} {o : Oper} (ho : ops[i]? = some o) (hl : ∀ e ∈ o.after, Region.binds .any e = true → listed.getD e.on false = true) (hn : listed.getD i true = false)
    {Q : Exit → Act → World → Prop} {Kc : Act → World → Prop} (hK : ∀ K' q a' w', InvD E N rd ro ops (frs 0) df Hs vs K0 K' (listed.setIfInBounds i true) q a' w' → Kc a' w') :
    wpOpIn Fence.wide 0 E.P ops Q i Kc a w := by
  obtain ⟨hn', hsz⟩ := not_listed hn
  have hi := lt_size ho
  have hF := hI.sub hr hC ho hl hn'
  have hev := subF_ev (E := E) (fr := frs i) (op := o.op) (xs := tmpsOf o.op ++ gtmp ops.toList o) (fun t ht => List.mem_append_left _ ht)
  have hgd := subF_gd (fr := frs i) (ops := ops) (o := o) (xs := tmpsOf o.op ++ gtmp ops.toList o) (fun t ht => List.mem_append_right _ ht)
  obtain ⟨hop, _⟩ := hr.step i o hi ho
  -- the heap ahead of it
  have hless : ∀ h oh, h < i → isPure o.op = false → ops[h]? = some oh → isW oh.op = true → h < p := fun h oh hhi hp hoh hw => by
    rcases hC.heap i o h oh ho hp hoh hw with rfl | ⟨_, hb⟩ | ⟨hb, _⟩
    · omega
    · exact (hI.hp h oh hoh hw).1 (bit_done hC.back hI.closed i o h ho hl hb)
    · omega
  have hmore : ∀ h oh, i < h → h < p → isPure o.op = false → ops[h]? = some oh → isW oh.op = true → isW o.op = false ∧ isNew oh.op = true := fun h oh hhi hhp hp hoh hw => by
    have hlh := (hI.hp h oh hoh hw).2 hhp
    rcases hC.heap i o h oh ho hp hoh hw with rfl | ⟨hb, _⟩ | ⟨_, hb | hb⟩
    · omega
    · omega
    · have := bit_done hC.back hI.closed h oh i hoh (fun e he hbe => hI.closed.c h oh hoh hlh e he hbe) hb
      rw [hn'] at this; cases this
    · exact hb
  have keep : isW o.op = false → ∀ h oh, ops[h]? = some oh → isW oh.op = true → ((h = i ∨ listed.getD h false = true) ↔ h < p) := fun hw h oh hoh hwh => by
    rw [← hI.hp h oh hoh hwh]
    constructor
    · rintro (rfl | h')
      · rw [ho] at hoh; cases hoh; rw [hw] at hwh; cases hwh
      · exact h'
    · exact fun h' => .inr h'
  unfold wpOpIn
  simp only [ho]
  generalize hv1 : vs i = v at hop
  generalize hH1 : Hs (i + 1) = H1 at hop
  cases hop with
  | skip hg =>
    rw [gd_sound hF (hgd.trans hg)]
    simp only [Bool.false_eq_true, if_false]
    refine ⟨about_wide rfl _, ?_⟩
    have hvv : ∀ K : Conc, VR K (vs i) undef := fun K => by rw [hv1]; simp only [VR]; exact ⟨#[], rfl, rfl⟩
    by_cases hw : isW o.op = true
    · -- a write that is passed over
      have hp : isPure o.op = false := by cases hh : o.op <;> rw [hh] at hw <;> first | rfl | cases hw
      have hle : ∀ h oh, ops[h]? = some oh → isW oh.op = true → (h < p ↔ h < i) := fun h oh hoh hwh => by
        constructor
        · intro hhp
          rcases Nat.lt_or_ge h i with hhi | hhi
          · exact hhi
          · rcases Nat.eq_or_lt_of_le hhi with rfl | hhi
            · have := (hI.hp i oh hoh hwh).2 hhp
              rw [hn'] at this; cases this
            · have := (hmore h oh hhi hhp hp hoh hwh).1
              rw [hw] at this; cases this
        · exact fun hhi => hless h oh hhi hp hoh hwh
      have hHp : Hs p = Hs i := by
        rcases Nat.le_total p i with hpi | hpi
        · exact (hs_same hr hpi (by omega) fun k ok h1 h2 h3 => by
            cases hwk : isW ok.op with
            | false => rfl
            | true => have := (hle k ok h3 hwk).2 h2; omega).symm
        · exact hs_same hr hpi hI.pl fun k ok h1 h2 h3 => by
            cases hwk : isW ok.op with
            | false => rfl
            | true => have := (hle k ok h3 hwk).1 h2; omega
      refine hK K (i + 1) _ w (hI.put hr hC ho hl hn (Ext.refl K) (by rw [hH1, ← hHp]; exact hI.H) (hvv K) (by omega) fun h oh hoh hwh => ?_)
      rw [hI.hp h oh hoh hwh, hle h oh hoh hwh]
      omega
    · have hw : isW o.op = false := by simpa using hw
      exact hK K p _ w (hI.put hr hC ho hl hn (Ext.refl K) hI.H (hvv K) hI.pl (keep hw))
  | quiet hg hq =>
    rw [gd_sound hF (hgd.trans hg)]
    simp only [if_true]
    have hw : isW o.op = false := by
      cases hw : isW o.op with
      | false => rfl
      | true => rw [aopQ_isW hw] at hq; cases hq
    have hq2 : aopQ E (subF (frs i) (tmpsOf o.op ++ gtmp ops.toList o)) (Hs p) o.op o.type = some v := by
      rw [aopQ_congr hev]
      cases hp : isPure o.op with
      | true => rw [aopQ_isPure (H' := Hs i) hp]; exact hq
      | false =>
        rcases Nat.le_total p i with hpi | hpi
        · rw [← hs_same hr hpi (by omega) fun k ok h1 h2 h3 => by
            cases hwk : isW ok.op with
            | false => rfl
            | true => have := hless k ok h2 hp h3 hwk; omega]
          exact hq
        · obtain ⟨L, hL⟩ := hs_more hr hpi hI.pl fun k ok h1 h2 h3 hwk => by
            rcases Nat.eq_or_lt_of_le h1 with rfl | h1
            · rw [ho] at h3; cases h3; rw [hw] at hwk; cases hwk
            · exact (hmore k ok h1 h2 hp h3 hwk).2
          rw [hL]
          exact aopQ_mono hq
    obtain ⟨hdef, K', cv, w', nx, x1, x2, x3, x4, x5⟩ := aop_sound (o := o) (r := (v, Hs p)) hI.H hF (by simp only [aop, hq2])
    refine ⟨about_wide rfl _, ?_⟩
    rw [show (Fence.wide).round = none from rfl, Oper.semAt_none, x2]
    have hnext := hK K' p (a.put o.dst cv) w' (hI.put hr hC ho hl hn x1 x4 (by rw [hv1]; exact x5) hI.pl (keep hw))
    rcases x3 with rfl | ⟨rfl, rfl⟩
    · exact hnext
    · exact hnext
  | write hg hw hh =>
    rw [gd_sound hF (hgd.trans hg)]
    simp only [if_true]
    have hp : isPure o.op = false := by cases hh : o.op <;> rw [hh] at hw <;> first | rfl | cases hw
    have hle : ∀ h oh, ops[h]? = some oh → isW oh.op = true → (h < p ↔ h < i) := fun h oh hoh hwh => by
      constructor
      · intro hhp
        rcases Nat.lt_or_ge h i with hhi | hhi
        · exact hhi
        · rcases Nat.eq_or_lt_of_le hhi with rfl | hhi
          · have := (hI.hp i oh hoh hwh).2 hhp
            rw [hn'] at this; cases this
          · have := (hmore h oh hhi hhp hp hoh hwh).1
            rw [hw] at this; cases this
      · exact fun hhi => hless h oh hhi hp hoh hwh
    have hHp : Hs p = Hs i := by
      rcases Nat.le_total p i with hpi | hpi
      · exact (hs_same hr hpi (by omega) fun k ok h1 h2 h3 => by
          cases hwk : isW ok.op with
          | false => rfl
          | true => have := (hle k ok h3 hwk).2 h2; omega).symm
      · exact hs_same hr hpi hI.pl fun k ok h1 h2 h3 => by
          cases hwk : isW ok.op with
          | false => rfl
          | true => have := (hle k ok h3 hwk).1 h2; omega
    have hq2 : aop E (subF (frs i) (tmpsOf o.op ++ gtmp ops.toList o)) (Hs p) o.op o.type = some (v, H1) := by
      simp only [aop, aopQ_isW hw]
      rw [aopW_congr hw hev, hHp]
      exact hh
    obtain ⟨hdef, K', cv, w', nx, x1, x2, x3, x4, x5⟩ := aop_sound hI.H hF hq2
    refine ⟨about_wide rfl _, ?_⟩
    rw [show (Fence.wide).round = none from rfl, Oper.semAt_none, x2]
    have hnext := hK K' (i + 1) (a.put o.dst cv) w' (hI.put hr hC ho hl hn x1 (by rw [hH1]; exact x4) (by rw [hv1]; exact x5) (by omega) fun h oh hoh hwh => by
      rw [hI.hp h oh hoh hwh, hle h oh hoh hwh]
      omega)
    rcases x3 with rfl | ⟨rfl, rfl⟩
    · exact hnext
    · exact hnext
  | call hg hop hf hxs hlow hfn hcall =>
    rename_i f args ts g first cap xs
    rw [gd_sound hF (hgd.trans hg)]
    simp only [if_true]
    have hw : isW o.op = false := by rw [hop]; rfl
    obtain ⟨fn, hfn, hbody, hname⟩ := hfn
    refine ⟨about_wide rfl _, ?_⟩
    have hmem : ∀ x, x ∈ #[f] ++ args → x ∈ o.op.operands := fun x hx => by rw [hop]; exact hx
    have e1 := ev_sound hI.H hF ((hev f (hmem f (by simp))).trans hf)
    simp only [VR] at e1
    obtain ⟨hy, fs, cs, e2, v1, v2⟩ := e1
    have e3 := evs_sound (K := K) hI.H hF ((evs_congr (l := args.toList) fun x hx => hev x (hmem x (by simp; exact .inr (by simpa using hx)))).trans hxs)
    have hbn : ¬ fn.body = none := by intro hb; rw [hb] at hbody; cases hbody
    have hnn : ¬ fn.name = "runtime.NumGoroutine" := by simpa using hname
    have hrun : (execOp a.eval o).run E.P w = .ok (.enter g (fs ++ args.map a.eval ++ cs)) w := by
      simp [execOp, hop, resolve, e2, Deferred.ofValue, invoke, callFunc, hfn, hbn, hnn]
    rw [show (Fence.wide).round = none from rfl, Oper.semAt_none, hrun]
    refine ⟨fun hh => by simp [Fence.wide] at hh, ?_⟩
    have hiso := VCall.isolate (H := Hs p) (Q := fun v' H' => v' = v ∧ H' = Hs p) ⟨⟨fn, hfn, hbody, hname⟩, hcall⟩ hlow (fun v0 H0 hz => ⟨v, hz, rfl, rfl⟩)
    have hc := hiso.call K (fs.toList ++ args.toList.map a.eval ++ cs.toList) w hI.H ((v1.append e3).append v2)
    have hargs : (fs.toList ++ args.toList.map a.eval ++ cs.toList).toArray = fs ++ args.map a.eval ++ cs := by apply Array.ext'; simp
    rw [hargs] at hc
    refine CallsIn.mono hc fun e w' q => ?_
    obtain ⟨v', cv, K', H', rfl, hx, hH, hv, rfl, rfl⟩ := q
    exact hK K' p (a.put o.dst cv) w' (hI.put hr hC ho hl hn hx hH (by rw [hv1]; exact hv) hI.pl (keep hw))

def unl (listed : Array Bool) : Nat := listed.toList.count false
theorem unl_set {listed : Array Bool} {i : Nat} (hi : i < listed.size) (h : listed.getD i false = false) : unl (listed.setIfInBounds i true) + 1 = unl listed := by
  unfold unl
  rw [Array.toList_setIfInBounds]
  obtain ⟨l⟩ := listed
  simp at hi h ⊢
  rw [List.getElem?_eq_getElem hi] at h
  simp at h
  rw [List.count_set (by simpa using hi)]
  rw [h]
  have : 0 < List.count false l := List.count_pos_iff.2 (by rw [← h]; exact List.getElem_mem hi)
  simp
  omega
theorem unl_zero {listed : Array Bool} (h : unl listed = 0) {i : Nat} (hi : i < listed.size) : listed.getD i false = true := by
  unfold unl at h
  obtain ⟨l⟩ := listed
  simp at hi h ⊢
  rw [List.getElem?_eq_getElem hi]
  rw [List.count_eq_zero] at h
  have := List.getElem_mem hi
  cases hb : l[i] with
  | true => rfl
  | false => rw [hb] at this; exact absurd this h

/-- As long as something is left, something is ready. -/
theorem ready_some (hC : CondD ops) (hs : listed.size = ops.size) : ∀ (i : Nat), i < ops.size → listed.getD i false = false → Region.ready .any ops listed ≠ [] := by
  intro i
  induction i using Nat.strongRecOn with
  | _ i ih =>
    intro hi hn
    by_cases hall : ∀ e ∈ ops[i].after, Region.binds .any e = true → listed.getD e.on false = true
    · intro hr
      have : i ∈ Region.ready .any ops listed := mem_ready.2 ⟨getD_true_false (by omega) hn, ops[i], Array.getElem?_eq_getElem hi, hall⟩
      rw [hr] at this
      cases this
    · obtain ⟨e, he⟩ := Classical.not_forall.1 hall
      obtain ⟨h1, h2⟩ := Classical.not_imp.1 he
      obtain ⟨h3, h4⟩ := Classical.not_imp.1 h2
      have hlt := hC.back i _ (Array.getElem?_eq_getElem hi) e h1 h3
      exact ih e.on hlt (by omega) (by simpa using h4)

theorem InvD.all (hr : RunD E N ops ops.size frs Hs vs) (hC : CondD ops) {Q : Exit → Act → World → Prop}
    (hQ : ∀ K' listed' q a' w', unl listed' = 0 → InvD E N rd ro ops (frs 0) df Hs vs K0 K' listed' q a' w' → Q .normal a' w') :
    ∀ (g : Nat) {listed : Array Bool} {p : Nat} {a : Act} {w : World} {K : Conc}, unl listed = g → InvD E N rd ro ops (frs 0) df Hs vs K0 K listed p a w → wpAnyIn Fence.wide 0 E.P .any ops Q g listed a w
  | 0, listed, p, a, w, K, hu, hI => by
    refine ⟨?_, hQ K listed p a w hu hI⟩
    cases hrd : Region.ready .any ops listed with
    | nil => rfl
    | cons i r =>
      have := mem_ready.1 (show i ∈ Region.ready .any ops listed by rw [hrd]; simp)
      obtain ⟨h1, h2⟩ := not_listed this.1
      rw [unl_zero hu h2] at h1
      cases h1
  | g + 1, listed, p, a, w, K, hu, hI => by
    refine ⟨fun h0 => ?_, fun i hi => ?_⟩
    · exfalso
      have hpos : 0 < listed.toList.count false := by unfold unl at hu; omega
      have hm := List.count_pos_iff.1 hpos
      obtain ⟨i, hi, he⟩ := List.getElem_of_mem hm
      have hi2 : i < listed.size := by simpa using hi
      refine ready_some hC hI.size i (by rw [← hI.size]; exact hi2) ?_ h0
      simp at he
      simp [hi2, he]
    · obtain ⟨h1, o, ho, hl⟩ := mem_ready.1 hi
      refine hI.step hr hC ho hl h1 fun K' q a' w' hI' => ?_
      obtain ⟨h2, h3⟩ := not_listed h1
      have := unl_set h3 h2
      exact InvD.all hr hC hQ g (by omega) hI'

/-- A drawn region that may be taken in the order of the text. -/
theorem VDraw.s (m : Bool) {s : St} {id : Nat} {Q : Exit → St → Prop} (hm : E.P.follows .mixedOrders = true) (hd : noDefer ops = true) (hc : condD ops.toList = true)
    (h : vseq E m N ops.toList ops.toList s.fr s.H fun fr H => Q .normal ⟨fr, H, s.df⟩) : VDraw E N rd id ops Q s := by
  refine ⟨fun K ro a w hr => ?_⟩
  have hC := condD_ok hc
  obtain ⟨frs, Hs, vs, e1, e2, hq, hst⟩ := vseq_run (l := ops.toList) (k := 0) (by simp) h
  have hsz : ops.toList.length = ops.size := by simp
  rw [hsz] at hq hst
  have hrun : RunD E N ops ops.size frs Hs vs := ⟨fun i o hi ho => hst i o hi (by rwa [Nat.zero_add])⟩
  have h0 : InvD E N rd ro ops (frs 0) s.df Hs vs K K (Array.replicate ops.size false) 0 a w.drew := by
    have gf : ∀ j, (Array.replicate ops.size false).getD j false = false := getD_replicate_false _
    refine ⟨by simp, ⟨fun j o ho hl => (by rw [gf] at hl; cases hl)⟩, Nat.zero_le _, fun h o ho hw => (by rw [gf]; simp), (by rw [e2]; exact hr.H.drew), hr.F.1, fun j o d ho hl => (by rw [gf] at hl; cases hl), fun d v hv _ => hr.F.2 d v (by rw [← e1]; exact hv), hr.D, hr.R, Ext.refl K⟩
  have hw := InvD.all (Q := XPost E K N rd ro s.df (fun fr H => Q .normal ⟨fr, H, s.df⟩)) hrun hC (fun K' listed' q a' w' hu hI => ?_) ops.size (by unfold unl; simp) h0
  · have hw2 := wpAnyIn_ro (ro := ro) hd hw
    refine wpIn_mono (wpIn_region_any hm hw2) fun e a' w' q => ?_
    obtain ⟨rfl, K', fr', H', hx, hr2, hq⟩ := q
    exact ⟨K', ⟨fr', H', s.df⟩, hx, hr2, hq⟩
  · have hall : ∀ j, j < ops.size → listed'.getD j false = true := fun j hj => unl_zero hu (by rw [hI.size]; exact hj)
    have hHq : Hs ops.size = Hs q := hs_same hrun hI.pl (Nat.le_refl _) fun k o h1 h2 h3 => by
      cases hwk : isW o.op with
      | false => rfl
      | true =>
        have := (hI.hp k o h3 hwk).1 (hall k h2)
        omega
    refine ⟨rfl, K', frs ops.size, Hs ops.size, hI.x, ⟨by rw [hHq]; exact hI.H, ⟨hI.ts, fun x v hx => ?_⟩, hI.D, hI.R⟩, hq⟩
    rcases lk_frs hrun (Nat.le_refl _) (Nat.le_refl _) hx with ⟨j, o, hj, ho, hd', rfl⟩ | ⟨h1, h2⟩
    · exact hI.done j o x ho (hall j hj) hd'
    · exact hI.rest x v h2 fun j o ho _ => h1 j o (lt_size ho) ho
end
end Go.Proofs.Ytoijfbdjlagooaa


/- What a walk does by itself, more of it. -/
namespace Go.Proofs.Ytoijfbdjlagooaa
open Go Go.RowKit
set_option linter.unusedVariables false

theorem VB.self {i : Int} {A B : Prop} (h : A) : VB (i == i) A B := by rw [beq_self_eq_true]; exact VB.tt h
theorem VB.nself {i : Int} {A B : Prop} (h : B) : VB (i != i) A B := by rw [bne_self_eq_false]; exact VB.ff h
theorem VB.id {b : Bool} {A B : Prop} (h : VB b A B) : VB b A B := h
theorem bneI (a : Int) : (a != a) = false := bne_self_eq_false a
theorem beqI (a : Int) : (a == a) = true := beq_self_eq_true a
theorem VB.dt {p : Prop} [Decidable p] {A B : Prop} (hp : p) (h : A) : VB (decide p) A B := by rw [decide_eq_true hp]; exact VB.tt h
theorem VB.df {p : Prop} [Decidable p] {A B : Prop} (hp : ¬ p) (h : B) : VB (decide p) A B := by rw [decide_eq_false hp]; exact VB.ff h
theorem VB.dtr {p : Prop} [Decidable p] {A B : Prop} (hp : p) (h : decide p = true → VB (decide p) A B) : VB (decide p) A B := h (decide_eq_true hp)
theorem VB.dfr {p : Prop} [Decidable p] {A B : Prop} (hp : ¬ p) (h : decide p = false → VB (decide p) A B) : VB (decide p) A B := h (decide_eq_false hp)
theorem VB.et {a b : Int} {A B : Prop} (hp : a = b) (h : A) : VB (a == b) A B := by subst hp; exact VB.self h
theorem VB.ef {a b : Int} {A B : Prop} (hp : a ≠ b) (h : B) : VB (a == b) A B := by rw [beq_eq_false_iff_ne.2 hp]; exact VB.ff h
theorem VB.nt {a b : Int} {A B : Prop} (hp : a ≠ b) (h : A) : VB (a != b) A B := by rw [bne_iff_ne.2 hp]; exact VB.tt h
theorem VB.nf {a b : Int} {A B : Prop} (hp : a = b) (h : B) : VB (a != b) A B := by subst hp; exact VB.nself h
theorem VDraw.meets {E : Env} {N : Nat} {rd : Option Nat} {id : Nat} {ops : Array Oper} {Q : Exit → St → Prop} {s s0 : St} (h : VDraw E N rd id ops Q s0) (hm : Meets s0 s) : VDraw E N rd id ops Q s := by
  have e : s0 = ⟨s0.fr, s.H, s.df⟩ := by rw [hm.H, hm.df]
  rw [e] at h
  exact ⟨h.run.forget hm.fr⟩
theorem ddo {N : Nat} {rd : Option Nat} {id : Nat} {ops : Array Oper} {Q : Exit → St → Prop} {s : St} (h : vseq EE true N ops.toList ops.toList s.fr s.H fun fr H => Q .normal ⟨fr, H, s.df⟩)
    (h1 : noDefer ops = true := by kernel_rfl) (h2 : condD ops.toList = true := by kernel_rfl) : VDraw EE N rd id ops Q s := VDraw.s true mixed h1 h2 h
theorem VIso.i {E : Env} {g : FuncId} {args : List AV} {r : AV} {Q : AV → Prop} (h : VCall E g args [] fun v H => Fz H 0 [] v r) (k : Q r)
    (hl : lowL 0 args := by (repeat' (first | exact trivial | exact low_natL 0 _ | exact low_limbs 0 _ | refine And.intro ?_ ?_ | fail))) : VIso E g args Q := ⟨r, hl, h.ok.ex, h.call, k⟩
theorem VIso.s {E : Env} {g : FuncId} {args : List AV} {r : AV} {Q : AV → Prop} (h : VCall E g args [] fun v H => v = r) (k : Q r)
    (hl : lowL 0 args := by (repeat' (first | exact trivial | exact low_natL 0 _ | exact low_limbs 0 _ | refine And.intro ?_ ?_ | fail)))
    (hr : r.low 0 := by (repeat' (first | exact trivial | exact low_natL 0 _ | exact low_limbs 0 _ | refine And.intro ?_ ?_ | fail))) : VIso E g args Q := ⟨r, hl, h.ok.ex, h.call.mono fun v H e => .same e hr, k⟩
end Go.Proofs.Ytoijfbdjlagooaa


/- Rational numbers as values; plain facts. -/
namespace Go.Proofs.Ytoijfbdjlagooaa
open Go Go.RowKit
set_option linter.unusedVariables false
set_option linter.unusedSimpArgs false
set_option maxRecDepth 100000

def ratV (q : Rat) : AV := .agg [.bool (decide (q.num < 0)), natv q.num.natAbs, natv q.den]
def sgn (neg : Bool) (n : Nat) : Int := if neg then -(n : Int) else n
def mkQ (neg : Bool) (n d : Nat) : Rat := mkRat (sgn neg n) d
/-- How many limbs the parts have at most. -/
def rl (q : Rat) : Nat := max (dg q.num.natAbs).length (dg q.den).length
/-- A number's cells. -/
def ratC (q : Rat) : List AV := [.bool (decide (q.num < 0)), natv q.num.natAbs, natv q.den]
def ratsC (l : List Rat) : List AV := l.flatMap ratC
/-- A list of numbers. -/
def vecV (l : List Rat) : AV := .dsl (ratsC l) l.length

theorem low_natv (n m : Nat) : (natv m).low n := low_natL n _
theorem low_ratC (n : Nat) (q : Rat) : lowL n (ratC q) := ⟨trivial, low_natv n _, low_natv n _, trivial⟩
theorem low_ratV (n : Nat) (q : Rat) : (ratV q).low n := low_ratC n q
theorem lowL_append {n : Nat} : ∀ {a b : List AV}, lowL n a → lowL n b → lowL n (a ++ b)
  | [], _, _, h => h
  | _ :: _, _, h, k => ⟨h.1, lowL_append h.2 k⟩
theorem low_ratsC (n : Nat) : ∀ (l : List Rat), lowL n (ratsC l)
  | [] => trivial
  | q :: l => lowL_append (low_ratC n q) (low_ratsC n l)
theorem low_vecV (n : Nat) (l : List Rat) : (vecV l).low n := low_ratsC n l

theorem sgn_natAbs (neg : Bool) (n : Nat) : (sgn neg n).natAbs = n := by
  cases neg <;> simp [sgn]
theorem sgn_num (q : Rat) : sgn (decide (q.num < 0)) q.num.natAbs = q.num := by
  unfold sgn
  by_cases h : q.num < 0
  · rw [decide_eq_true h]
    simp only [if_true]
    omega
  · rw [decide_eq_false h]
    simp only [Bool.false_eq_true, if_false]
    omega
theorem mkQ_self (q : Rat) : mkQ (decide (q.num < 0)) q.num.natAbs q.den = q := by
  rw [mkQ, sgn_num, Rat.mkRat_self]
theorem mkQ_zero (neg : Bool) (d : Nat) : mkQ neg 0 d = 0 := by
  cases neg <;> simp [mkQ, sgn]
theorem mkQ_natAbs {neg : Bool} {n d : Nat} (hd : d ≠ 0) : (mkQ neg n d).num.natAbs = n / Nat.gcd n d := by
  rw [mkQ, Rat.num_mkRat, if_neg hd, sgn_natAbs, Nat.gcd_comm]
  cases neg
  · rfl
  · simp only [sgn, if_true]
    rw [Int.neg_ediv_of_dvd (Int.ofNat_dvd.2 (Nat.gcd_dvd_left n d)), Int.natAbs_neg]
    rfl
theorem mkQ_den {neg : Bool} {n d : Nat} (hd : d ≠ 0) : (mkQ neg n d).den = d / Nat.gcd n d := by
  rw [mkQ, Rat.den_mkRat, if_neg hd, sgn_natAbs, Nat.gcd_comm]
theorem mkQ_neg {neg : Bool} {n d : Nat} (hd : d ≠ 0) (hn : n ≠ 0) : decide ((mkQ neg n d).num < 0) = neg := by
  have h := mkQ_natAbs (neg := neg) (n := n) hd
  have hg : 0 < Nat.gcd n d := Nat.gcd_pos_of_pos_left _ (Nat.pos_of_ne_zero hn)
  have hp : n / Nat.gcd n d ≠ 0 := by
    have := Nat.div_pos (Nat.le_of_dvd (Nat.pos_of_ne_zero hn) (Nat.gcd_dvd_left n d)) hg
    omega
  have hs : mkQ neg n d = mkRat (sgn neg n) d := rfl
  have h0 : (0 : Int) < ((Nat.gcd d n : Nat) : Int) := by rw [Nat.gcd_comm]; exact Int.natCast_pos.2 hg
  have hnum : (mkQ neg n d).num = sgn neg n / ((Nat.gcd d n : Nat) : Int) := by rw [hs, Rat.num_mkRat, if_neg hd, sgn_natAbs]
  cases neg
  · refine decide_eq_false ?_
    rw [hnum]
    have : 0 ≤ sgn false n / ((Nat.gcd d n : Nat) : Int) := Int.ediv_nonneg (by simp [sgn]) (Int.le_of_lt h0)
    omega
  · refine decide_eq_true ?_
    have : sgn true n / ((Nat.gcd d n : Nat) : Int) < 0 := Int.ediv_neg_of_neg_of_pos (by simp [sgn]; omega) h0
    omega
theorem gcd_pos_of {n d : Nat} (hd : d ≠ 0) : Nat.gcd n d ≠ 0 := by
  have := Nat.gcd_pos_of_pos_right n (Nat.pos_of_ne_zero hd)
  omega

/-! ### Sums, products, quotients by parts -/
theorem sgn_mul (x y : Bool) (a b : Nat) : sgn x a * sgn y b = sgn (x != y) (a * b) := by
  cases x <;> cases y <;> simp [sgn, Int.neg_mul, Int.mul_neg]
theorem mul_mkQ (a b : Rat) : a * b = mkQ (decide (a.num < 0) != decide (b.num < 0)) (a.num.natAbs * b.num.natAbs) (a.den * b.den) := by
  rw [Rat.mul_def', mkQ, ← sgn_mul, sgn_num, sgn_num]
theorem over_mkQ (a b : Rat) (hb : b ≠ 0) : a / b = mkQ (decide (a.num < 0) != decide (b.num < 0)) (a.num.natAbs * b.den) (a.den * b.num.natAbs) := by
  have hb0 : b.num ≠ 0 := fun h => hb (Rat.num_eq_zero.1 h)
  have e1 : a / b = Rat.divInt (a.num * b.den) (a.den * b.num) := by
    rw [Rat.div_def, Rat.inv_def]
    conv => lhs; lhs; rw [← Rat.num_divInt_den a]
    rw [Rat.divInt_mul_divInt]
  rw [e1, mkQ]
  have e2 : sgn (decide (a.num < 0) != decide (b.num < 0)) (a.num.natAbs * b.den) = sgn (decide (a.num < 0)) a.num.natAbs * sgn (decide (b.num < 0)) b.den := (sgn_mul _ _ _ _).symm
  rw [e2, sgn_num]
  by_cases h : b.num < 0
  · rw [decide_eq_true h]
    have e3 : (a.den : Int) * b.num = -((a.den * b.num.natAbs : Nat) : Int) := by
      have : (b.num.natAbs : Int) = -b.num := by omega
      rw [Int.natCast_mul, this, Int.mul_neg, Int.neg_neg]
    rw [e3, Rat.divInt_neg', Rat.divInt_ofNat]
    simp [sgn, Int.mul_neg]
  · rw [decide_eq_false h]
    have e3 : (a.den : Int) * b.num = ((a.den * b.num.natAbs : Nat) : Int) := by
      have : (b.num.natAbs : Int) = b.num := by omega
      rw [Int.natCast_mul, this]
    rw [e3, Rat.divInt_ofNat]
    simp [sgn]
/-- The sum of two whole numbers with signs. -/
def addS (x : Bool) (a : Nat) (y : Bool) (b : Nat) : Bool × Nat := if x = y then (x, a + b) else if b ≤ a then (x, a - b) else (y, b - a)
theorem addS_sgn (x y : Bool) (a b : Nat) : sgn (addS x a y b).1 (addS x a y b).2 = sgn x a + sgn y b := by
  cases x <;> cases y
  · simp [addS, sgn]
  · by_cases h : b ≤ a
    · simp [addS, sgn, h]; omega
    · simp [addS, sgn, h]; omega
  · by_cases h : b ≤ a
    · simp [addS, sgn, h]; omega
    · simp [addS, sgn, h]; omega
  · simp [addS, sgn]; omega
theorem add_mkQ (a b : Rat) : a + b = mkQ (addS (decide (a.num < 0)) (a.num.natAbs * b.den) (decide (b.num < 0)) (b.num.natAbs * a.den)).1 (addS (decide (a.num < 0)) (a.num.natAbs * b.den) (decide (b.num < 0)) (b.num.natAbs * a.den)).2 (a.den * b.den) := by
  rw [Rat.add_def', mkQ, addS_sgn]
  congr 1
  have e : ∀ (q : Rat) (d : Nat), sgn (decide (q.num < 0)) (q.num.natAbs * d) = q.num * d := fun q d => by
    have := sgn_mul (decide (q.num < 0)) false q.num.natAbs d
    rw [sgn_num] at this
    simpa [sgn] using this.symm
  rw [e, e]
theorem neg_ratV (q : Rat) : ratV (-q) = .agg [.bool (!decide (q.num < 0) && decide (q.num.natAbs ≠ 0)), natv q.num.natAbs, natv q.den] := by
  simp only [ratV, Rat.neg_num, Rat.neg_den, Int.natAbs_neg]
  have : decide (-q.num < 0) = (!decide (q.num < 0) && decide (q.num.natAbs ≠ 0)) := by
    rw [Bool.eq_iff_iff]
    simp only [decide_eq_true_eq, Bool.and_eq_true, Bool.not_eq_true', decide_eq_false_iff_not, ne_eq]
    omega
  rw [this]
def cmpQ (a b : Rat) : Int := if a < b then -1 else if a = b then 0 else 1
theorem cmpQ_sub (a b : Rat) : cmpQ a b = if (a + -b).num = 0 then 0 else if (a + -b).num < 0 then -1 else 1 := by
  have h1 : (a + -b).num = 0 ↔ a = b := by
    rw [Rat.num_eq_zero, ← Rat.sub_eq_add_neg]
    constructor
    · intro h
      have := congrArg (· + b) h
      simpa [Rat.sub_add_cancel, Rat.zero_add] using this
    · rintro rfl; exact Rat.sub_self
  have h2 : (a + -b).num < 0 ↔ a < b := by
    have h3 : (a + -b).num < 0 ↔ ¬ (0 ≤ a + -b) := by rw [← Rat.num_nonneg]; omega
    rw [h3, ← Rat.sub_eq_add_neg, ← Rat.le_iff_sub_nonneg, Rat.not_le]
  unfold cmpQ
  by_cases h : a = b
  · rw [if_pos (h1.2 h), if_neg (by rw [h]; exact Rat.lt_irrefl), if_pos h]
  · rw [if_neg h, if_neg (fun e => h (h1.1 e))]
    by_cases h4 : a < b
    · rw [if_pos h4, if_pos (h2.2 h4)]
    · rw [if_neg h4, if_neg (fun e => h4 (h2.1 e))]
theorem floor_mkQ (q : Rat) : (q.floor : Rat) = mkQ (decide (q.num < 0)) (if q.num < 0 ∧ q.num.natAbs % q.den ≠ 0 then q.num.natAbs / q.den + 1 else q.num.natAbs / q.den) 1 := by
  rw [mkQ, Rat.floor_def]
  have hd : (0 : Int) < q.den := Int.natCast_pos.2 (Nat.pos_of_ne_zero q.den_nz)
  have hd' : 0 < q.den := Nat.pos_of_ne_zero q.den_nz
  have key : sgn (decide (q.num < 0)) (if q.num < 0 ∧ q.num.natAbs % q.den ≠ 0 then q.num.natAbs / q.den + 1 else q.num.natAbs / q.den) = q.num / q.den := by
    by_cases h : q.num < 0
    · rw [decide_eq_true h]
      obtain ⟨n, hn⟩ : ∃ n : Nat, q.num = -(n : Int) := ⟨q.num.natAbs, by omega⟩
      rw [hn]
      have hn0 : n ≠ 0 := by omega
      have h1 := Nat.div_add_mod n q.den
      have h2 := Nat.mod_lt n hd'
      simp only [Int.natAbs_neg, Int.natAbs_natCast, sgn, if_true]
      have hneg : (-(n : Int) < 0) := by omega
      by_cases h3 : n % q.den = 0
      · rw [if_neg (by simp [h3])]
        rw [Int.neg_ediv_of_dvd (Int.ofNat_dvd.2 (Nat.dvd_of_mod_eq_zero h3))]
        rfl
      · rw [if_pos ⟨hneg, h3⟩]
        symm
        refine (Int.ediv_emod_unique (r := ((q.den - n % q.den : Nat) : Int)) hd).2 ⟨?_, by omega, by omega⟩ |>.1
        have hz : (n : Int) = (q.den : Int) * ((n / q.den : Nat) : Int) + ((n % q.den : Nat) : Int) := by
          rw [← Int.natCast_mul, ← Int.natCast_add, h1]
        have hs : ((q.den - n % q.den : Nat) : Int) = (q.den : Int) - ((n % q.den : Nat) : Int) := by omega
        rw [hs, Int.mul_neg, Int.natCast_add, Int.mul_add, hz]
        generalize (q.den : Int) * ((n / q.den : Nat) : Int) = x
        have : ((1 : Nat) : Int) = 1 := rfl
        rw [this, Int.mul_one]
        omega
    · rw [decide_eq_false h]
      obtain ⟨n, hn⟩ : ∃ n : Nat, q.num = (n : Int) := ⟨q.num.natAbs, by omega⟩
      rw [hn]
      rw [if_neg (by omega)]
      rfl
  rw [key, ← Rat.normalize_eq_mkRat (by decide), Rat.normalize_eq]
  apply Rat.ext <;> simp
theorem intCast_mkQ (n : Int) : ((n : Int) : Rat) = mkQ (decide (n < 0)) n.natAbs 1 := by
  have := mkQ_self (n : Rat)
  rw [Rat.num_intCast, Rat.den_intCast] at this
  exact this.symm

/-! ### Sizes -/
theorem rl_num (q : Rat) : (dg q.num.natAbs).length ≤ rl q := Nat.le_max_left _ _
theorem rl_den (q : Rat) : (dg q.den).length ≤ rl q := Nat.le_max_right _ _
theorem rl_neg (q : Rat) : rl (-q) = rl q := by simp [rl]
theorem rl_mkQ {neg : Bool} {n d m : Nat} (hn : (dg n).length ≤ m) (hd : (dg d).length ≤ m) (h0 : d ≠ 0) : rl (mkQ neg n d) ≤ m := by
  rw [rl, mkQ_natAbs h0, mkQ_den h0]
  have h1 := dg_length_mono (Nat.div_le_self n (Nat.gcd n d))
  have h2 := dg_length_mono (Nat.div_le_self d (Nat.gcd n d))
  omega
theorem addS_len (x y : Bool) (a b : Nat) : (dg (addS x a y b).2).length ≤ max (dg a).length (dg b).length + 1 := by
  unfold addS
  have h := dg_add_le a b
  split
  · exact h
  · split
    · have := dg_length_mono (Nat.sub_le a b); dsimp only; omega
    · have := dg_length_mono (Nat.sub_le b a); dsimp only; omega
theorem rl_add (a b : Rat) : rl (a + b) ≤ rl a + rl b + 1 := by
  rw [add_mkQ]
  have ha := rl_num a; have ha' := rl_den a; have hb := rl_num b; have hb' := rl_den b
  refine rl_mkQ ?_ ?_ (Nat.mul_ne_zero a.den_nz b.den_nz)
  · have h1 := addS_len (decide (a.num < 0)) (decide (b.num < 0)) (a.num.natAbs * b.den) (b.num.natAbs * a.den)
    have h2 := dg_mul_le a.num.natAbs b.den
    have h3 := dg_mul_le b.num.natAbs a.den
    omega
  · have h2 := dg_mul_le a.den b.den
    omega
theorem rl_mul (a b : Rat) : rl (a * b) ≤ rl a + rl b := by
  rw [mul_mkQ]
  have ha := rl_num a; have ha' := rl_den a; have hb := rl_num b; have hb' := rl_den b
  refine rl_mkQ ?_ ?_ (Nat.mul_ne_zero a.den_nz b.den_nz)
  · have h2 := dg_mul_le a.num.natAbs b.num.natAbs
    omega
  · have h2 := dg_mul_le a.den b.den
    omega
theorem rl_over (a b : Rat) (hb0 : b ≠ 0) : rl (a / b) ≤ rl a + rl b := by
  rw [over_mkQ a b hb0]
  have ha := rl_num a; have ha' := rl_den a; have hb := rl_num b; have hb' := rl_den b
  have hn : b.num.natAbs ≠ 0 := fun h => hb0 (Rat.num_eq_zero.1 (Int.natAbs_eq_zero.1 h))
  refine rl_mkQ ?_ ?_ (Nat.mul_ne_zero a.den_nz hn)
  · have h2 := dg_mul_le a.num.natAbs b.den
    omega
  · have h2 := dg_mul_le a.den b.num.natAbs
    omega
theorem ratV_mkQ {neg : Bool} {n d : Nat} (hd : d ≠ 0) (hn : n ≠ 0) : ratV (mkQ neg n d) = .agg [.bool neg, natv (n / Nat.gcd n d), natv (d / Nat.gcd n d)] := by
  rw [ratV, mkQ_natAbs hd, mkQ_den hd, mkQ_neg hd hn]
theorem ratV_zero : ratV 0 = .agg [.bool false, natv 0, natv 1] := rfl

theorem VCall.iq {E : Env} {g : FuncId} {args : List AV} {H : Heap} {r : AV} {Q : AV → Heap → Prop} (h : VCall E g args [] fun v H => Fz H 0 [] v r) (k : Q r H)
    (hl : lowL 0 args := by (repeat' (first | exact trivial | exact low_natL 0 _ | exact low_limbs 0 _ | exact low_natv 0 _ | exact low_ratV 0 _ | exact low_vecV 0 _ | refine And.intro ?_ ?_ | fail))) : VCall E g args H Q := VCall.iso h hl k
theorem VCall.sq {E : Env} {g : FuncId} {args : List AV} {H : Heap} {r : AV} {Q : AV → Heap → Prop} (h : VCall E g args [] fun v H => v = r) (k : Q r H)
    (hl : lowL 0 args := by (repeat' (first | exact trivial | exact low_natL 0 _ | exact low_limbs 0 _ | exact low_natv 0 _ | exact low_ratV 0 _ | exact low_vecV 0 _ | refine And.intro ?_ ?_ | fail)))
    (hr : r.low 0 := by (repeat' (first | exact trivial | exact low_natL 0 _ | exact low_limbs 0 _ | exact low_natv 0 _ | exact low_ratV 0 _ | exact low_vecV 0 _ | refine And.intro ?_ ?_ | fail))) : VCall E g args H Q := VCall.isoS h hr hl k
theorem VIso.iq {E : Env} {g : FuncId} {args : List AV} {r : AV} {Q : AV → Prop} (h : VCall E g args [] fun v H => Fz H 0 [] v r) (k : Q r)
    (hl : lowL 0 args := by (repeat' (first | exact trivial | exact low_natL 0 _ | exact low_limbs 0 _ | exact low_natv 0 _ | exact low_ratV 0 _ | exact low_vecV 0 _ | refine And.intro ?_ ?_ | fail))) : VIso E g args Q := ⟨r, hl, h.ok.ex, h.call, k⟩
theorem VIso.sq {E : Env} {g : FuncId} {args : List AV} {r : AV} {Q : AV → Prop} (h : VCall E g args [] fun v H => v = r) (k : Q r)
    (hl : lowL 0 args := by (repeat' (first | exact trivial | exact low_natL 0 _ | exact low_limbs 0 _ | exact low_natv 0 _ | exact low_ratV 0 _ | exact low_vecV 0 _ | refine And.intro ?_ ?_ | fail)))
    (hr : r.low 0 := by (repeat' (first | exact trivial | exact low_natL 0 _ | exact low_limbs 0 _ | exact low_natv 0 _ | exact low_ratV 0 _ | exact low_vecV 0 _ | refine And.intro ?_ ?_ | fail))) : VIso E g args Q := ⟨r, hl, h.ok.ex, h.call.mono fun v H e => .same e hr, k⟩
end Go.Proofs.Ytoijfbdjlagooaa


/- Contracts: numbers as ints. -/
namespace Go.Proofs.Ytoijfbdjlagooaa
open Go Go.RowKit
set_option linter.unusedVariables false
set_option linter.unusedSimpArgs false
set_option maxRecDepth 100000

theorem val_drop_succ {l : List Nat} {i : Nat} (h : i < l.length) : val (l.drop i) = l.getD i 0 + BB * val (l.drop (i + 1)) := by
  rw [List.drop_eq_getElem_cons h]
  simp only [val, List.getD_eq_getElem?_getD, List.getElem?_eq_getElem h, Option.getD_some]

theorem val_ge_drop (l : List Nat) (i : Nat) : val (l.drop i) ≤ val l := by
  induction i generalizing l with
  | zero => simp
  | succ i ih =>
    cases l with
    | nil => simp
    | cons x l =>
      rw [List.drop_succ_cons]
      have := ih l
      have hBB : BB = 1000000000 := rfl
      simp only [val]
      rw [hBB]
      omega

def intV (n : Nat) : Int := if n < 9223372036854775808 then n else if n = 9223372036854775808 then -9223372036854775808 else 0
def intE (n : Nat) : AV := .tup [.int .i64 (intV n), .bool (decide (n < 9223372036854775808))]

/-- A number as an int, or which error. -/
def intR (l : List Nat) : AV := if chk l = 0 then (if val l < 9223372036854775808 then .tup [.int .i64 (val l), .int .i64 0] else .tup [.int .i64 0, .int .i64 5]) else .tup [.int .i64 0, .int .i64 (chk l)]

theorem int_c {l : List Nat} (hc : canon l) (ll : l.length < 1000000000000) : VCall EE 87 [.bool false, natL l] [] fun v H => v = intE (val l) := by
  refine VCall.of_body true Try.func87 rfl (by decide) rfl ?_
  have hBB : BB = 1000000000 := rfl
  repeat' ((conv => whnf); first | refine ngo ?_ | refine VB.tt ?_ | refine VB.ff ?_ | refine VNew.keep ?_ | refine dgo ?_ | refine sgo ?_ | fail)
  conv => whnf
  refine VB.dec (fun h => ?_) (fun h => ?_)
  · repeat' ((conv => whnf); first | refine ngo ?_ | refine VB.tt ?_ | refine VB.ff ?_ | refine VNew.keep ?_ | refine dgo ?_ | refine sgo ?_ | fail)
    conv => whnf
    have h1 := hc.ge (by rintro rfl; simp at h)
    have h2 : BB ^ 3 ≤ BB ^ (l.length - 1) := Nat.pow_le_pow_right (by decide) (by omega)
    have h3 : BB ^ 3 = 1000000000000000000000000000 := rfl
    generalize BB ^ (l.length - 1) = p at *
    generalize BB ^ 3 = q at *
    rw [intE, intV, if_neg (by omega), if_neg (by omega), decide_eq_false (by omega)]
  · repeat' ((conv => whnf); first | refine ngo ?_ | refine VB.tt ?_ | refine VB.ff ?_ | refine VNew.keep ?_ | refine dgo ?_ | refine sgo ?_ | fail)
    conv => whnf
    refine VLoop.ix true (fun i : Nat => ⟨[(0, .bool false), (1, natL l), (6, .int .u64 (val (l.drop i) : Nat)), (7, .int .i64 (i - 1))], [], []⟩) (fun i => i ≤ l.length ∧ val (l.drop i) ≤ 9223372036854775808) id l.length ⟨Nat.le_refl _, by simp [val]⟩ ⟨⟨rfl, rfl, by simp [lk, val], rfl, trivial⟩, rfl, rfl⟩ ?_
    rintro i ⟨hi, hv⟩
    repeat' ((conv => whnf); first | refine ngo ?_ | refine VB.tt ?_ | refine VB.ff ?_ | refine VNew.keep ?_ | refine dgo ?_ | refine sgo ?_ | fail)
    conv => whnf
    refine VB.dec (fun h => ?_) (fun h => ?_)
    · obtain ⟨i, rfl⟩ : ∃ k, i = k + 1 := ⟨i - 1, by omega⟩
      have ei : (((i + 1 : Nat) : Int) - 1).toNat = i := by omega
      have hs := val_drop_succ (l := l) (i := i) (by omega)
      have hg := val_ge_drop l i
      have hd : l.getD i 0 < 1000000000 := hc.1 _ (by simp [List.getD_eq_getElem?_getD, show i < l.length by omega])
      repeat' ((conv => whnf); first | refine ngo ?_ | refine VB.tt ?_ | refine VB.ff ?_ | refine VNew.keep ?_ | refine dgo ?_ | refine sgo ?_ | fail)
      conv => whnf
      rw [ei, Nat.mul_one, getInt_limbs]
      generalize hgd : l.getD i 0 = d at *
      generalize val (l.drop (i + 1)) = y at *
      repeat' ((conv => whnf); first | refine ngo ?_ | refine VB.tt ?_ | refine VB.ff ?_ | refine VNew.keep ?_ | refine dgo ?_ | refine sgo ?_ | fail)
      conv => whnf
      have e1 : ((9223372036854775808 : Int) - (d : Int)).tdiv 1000000000 = (((9223372036854775808 - d) / 1000000000 : Nat) : Int) := by
        rw [show (9223372036854775808 : Int) - (d : Int) = ((9223372036854775808 - d : Nat) : Int) by omega]
        exact (Int.ofNat_tdiv _ _).symm
      rw [e1]
      rw [hBB] at hs
      repeat' ((conv => whnf); first | refine ngo ?_ | refine VB.tt ?_ | refine VB.ff ?_ | refine VNew.keep ?_ | refine dgo ?_ | refine sgo ?_ | fail)
      conv => whnf
      refine VB.dec (fun h4 => ?_) (fun h4 => ?_)
      · repeat' ((conv => whnf); first | refine ngo ?_ | refine VB.tt ?_ | refine VB.ff ?_ | refine VNew.keep ?_ | refine dgo ?_ | refine sgo ?_ | fail)
        conv => whnf
        rw [intE, intV, if_neg (by omega), if_neg (by omega), decide_eq_false (by omega)]
      · repeat' ((conv => whnf); first | refine ngo ?_ | refine VB.tt ?_ | refine VB.ff ?_ | refine VNew.keep ?_ | refine dgo ?_ | refine sgo ?_ | fail)
        conv => whnf
        rw [ei, Nat.mul_one, getInt_limbs, hgd]
        repeat' ((conv => whnf); first | refine ngo ?_ | refine VB.tt ?_ | refine VB.ff ?_ | refine VNew.keep ?_ | refine dgo ?_ | refine sgo ?_ | fail)
        conv => whnf
        refine ⟨i, ⟨by omega, by omega⟩, by simp, ⟨⟨rfl, rfl, by simp only [lk]; exact congrArg (fun z => some (AV.int .u64 z)) (by rw [hs]; omega), by simp [lk], trivial⟩, rfl, rfl⟩⟩
    · have : i = 0 := by omega
      subst this
      rw [List.drop_zero] at *
      generalize val l = z at *
      repeat' ((conv => whnf); first | refine VB.tt ?_ | refine VB.ff ?_ | refine VNew.keep ?_ | refine dgo ?_ | refine sgo ?_ | fail)
      conv => whnf
      by_cases hz : z = 9223372036854775808
      · subst hz
        refine VNext.at_ false ⟨[(0, .bool false), (6, .int .u64 9223372036854775808)], [], []⟩ ⟨⟨rfl, rfl, trivial⟩, rfl, rfl⟩ ?_
        iterate 6 ((conv => whnf); try (first | refine VB.ff ?_ | refine VNext.go false ?_ | fail))
        conv => whnf
        trace_state
        rfl
      · refine VNext.at_ true ⟨[(0, .bool false), (6, .int .u64 z)], [], []⟩ ⟨by (repeat' first | exact trivial | exact And.intro (by first | rfl | (simp [lk]; done)) trivial | refine And.intro (by first | rfl | (simp [lk]; done)) ?_), rfl, rfl⟩ ?_
        repeat' ((conv => whnf); first | refine ngo ?_ | refine VB.tt ?_ | refine VB.ff ?_ | refine VNew.keep ?_ | refine dgo ?_ | refine sgo ?_ | fail)
        conv => whnf
        rw [intE, intV, if_pos (by omega), decide_eq_true (by omega), decide_eq_true (by omega)]

end Go.Proofs.Ytoijfbdjlagooaa


/- Contracts: fractions. -/
namespace Go.Proofs.Ytoijfbdjlagooaa
open Go Go.RowKit
set_option linter.unusedVariables false
set_option linter.unusedSimpArgs false
set_option maxRecDepth 100000

theorem len_dg_zero {n : Nat} (h : ((dg n).length : Int) = 0) : n = 0 := dg_eq_nil.1 (List.length_eq_zero_iff.1 (by omega))
theorem len_dg_ne {n : Nat} (h : ((dg n).length : Int) ≠ 0) : n ≠ 0 := fun e => h (by rw [e, dg_zero]; rfl)
theorem order_n {a b : Nat} (la : (dg a).length < 1000000000) (lb : (dg b).length < 1000000000) : VCall EE 76 [natv a, natv b] [] fun v H => v = .int .i64 (cmpN a b) := by
  have h := order_c (canon_dg a) (canon_dg b) la lb
  rw [val_dg, val_dg] at h
  exact h
theorem ratV_zero' : ratV 0 = .agg [.bool false, .dsl [] 0, .dsl (limbs [1]) 1] := by
  rw [ratV_zero, natv_zero, ← one_nat]

theorem lowest_c {neg : Bool} {n d : Nat} (hd : d ≠ 0) (ln : (dg n).length < 8000000) (ld : (dg d).length < 8000000) : VCall EE 83 [.bool neg, natv n, natv d] [] fun v H => Fz H 0 [] v (ratV (mkQ neg n d)) := by
  refine VCall.of_body true Try.func83 rfl (by decide) rfl ?_
  repeat' ((conv => whnf); first | refine ngo ?_ | refine VB.tt ?_ | refine VB.ff ?_ | refine VNew.keep ?_ | refine dgo ?_ | refine sgo ?_ | fail)
  conv => whnf
  refine VB.eq (fun h => ?_) (fun h => ?_)
  · obtain rfl := len_dg_zero h
    repeat' ((conv => whnf); first | refine ngo ?_ | refine VB.tt ?_ | refine VB.ff ?_ | refine dgo ?_ | refine sgo ?_ | fail)
    conv => whnf
    refine VNew.dat (cs' := limbs [1]) rfl rfl ?_
    repeat' ((conv => whnf); first | refine ngo ?_ | refine VB.tt ?_ | refine VB.ff ?_ | refine VNew.keep ?_ | refine dgo ?_ | refine sgo ?_ | fail)
    conv => whnf
    rw [mkQ_zero, ratV_zero']
    exact .agg (.cons (.same rfl trivial) (.cons .nsl (.cons (.same rfl (low_limbs 0 [1])) .nil)))
  · have hn := len_dg_ne h
    have hg := gcd_pos_of (n := n) hd
    have lg : (dg (Nat.gcd n d)).length ≤ (dg d).length := dg_length_mono (Nat.le_of_dvd (Nat.pos_of_ne_zero hd) (Nat.gcd_dvd_right n d))
    repeat' ((conv => whnf); first | refine ngo ?_ | refine VB.tt ?_ | refine VB.ff ?_ | refine VNew.keep ?_ | refine dgo ?_ | refine sgo ?_ | fail)
    conv => whnf
    refine VCall.iq (common_n (by omega) (by omega)) ?_
    repeat' ((conv => whnf); first | refine ngo ?_ | refine VB.tt ?_ | refine VB.ff ?_ | refine VNew.keep ?_ | refine dgo ?_ | refine sgo ?_ | fail)
    conv => whnf
    refine VCall.iq (divide_n hg (by omega) (by omega)) ?_
    repeat' ((conv => whnf); first | refine ngo ?_ | refine VB.tt ?_ | refine VB.ff ?_ | refine VNew.keep ?_ | refine dgo ?_ | refine sgo ?_ | fail)
    conv => whnf
    refine VCall.iq (divide_n hg (by omega) (by omega)) ?_
    repeat' ((conv => whnf); first | refine ngo ?_ | refine VB.tt ?_ | refine VB.ff ?_ | refine VNew.keep ?_ | refine dgo ?_ | refine sgo ?_ | fail)
    conv => whnf
    rw [ratV_mkQ hd hn]
    exact .same rfl ⟨trivial, low_natv 0 _, low_natv 0 _, trivial⟩

theorem size_c (n : Int) (h1 : -9223372036854775808 ≤ n) (h2 : n < 9223372036854775808) : VCall EE 90 [.int .i64 n] [] fun v H => Fz H 0 [] v (natv n.natAbs) := by
  refine VCall.of_body false Try.func90 rfl (by decide) rfl ?_
  repeat' ((conv => whnf); first | refine VB.tt ?_ | refine VB.ff ?_ | refine VNew.keep ?_ | refine dgo ?_ | refine sgo ?_ | fail)
  conv => whnf
  refine VNext.go false ?_
  repeat' ((conv => whnf); first | refine VB.tt ?_ | refine VB.ff ?_ | refine VNew.keep ?_ | refine dgo ?_ | refine sgo ?_ | fail)
  conv => whnf
  refine VNext.go false ?_
  repeat' ((conv => whnf); first | refine VB.tt ?_ | refine VB.ff ?_ | refine VNew.keep ?_ | refine dgo ?_ | refine sgo ?_ | fail)
  conv => whnf
  refine VB.dec (fun h => ?_) (fun h => ?_)
  · repeat' ((conv => whnf); first | refine VB.tt ?_ | refine VB.ff ?_ | refine VNew.keep ?_ | refine dgo ?_ | refine sgo ?_ | fail)
    conv => whnf
    have e : IntKind.u64.wrap (0 - IntKind.u64.wrap n) = (n.natAbs : Int) := by
      simp only [IntKind.wrap, IntKind.bits, IntKind.signed, Bool.false_and, Bool.false_eq_true, if_false]
      omega
    rw [e]
    refine VCall.iq (of_c n.natAbs (by omega)) ?_
    repeat' ((conv => whnf); first | refine ngo ?_ | refine VB.tt ?_ | refine VB.ff ?_ | refine VNew.keep ?_ | refine dgo ?_ | refine sgo ?_ | fail)
    conv => whnf
    exact .same rfl (low_natv 0 _)
  · obtain ⟨k, rfl⟩ : ∃ k : Nat, n = k := ⟨n.toNat, by omega⟩
    repeat' ((conv => whnf); first | refine VB.tt ?_ | refine VB.ff ?_ | refine VNew.keep ?_ | refine dgo ?_ | refine sgo ?_ | fail)
    conv => whnf
    refine VNext.go false ?_
    repeat' ((conv => whnf); first | refine VB.tt ?_ | refine VB.ff ?_ | refine VNew.keep ?_ | refine dgo ?_ | refine sgo ?_ | fail)
    conv => whnf
    rw [(InR.u64 (n := (k : Int)) (by omega) (by omega)).eq]
    refine VCall.iq (of_c k (by omega)) ?_
    repeat' ((conv => whnf); first | refine ngo ?_ | refine VB.tt ?_ | refine VB.ff ?_ | refine VNew.keep ?_ | refine dgo ?_ | refine sgo ?_ | fail)
    conv => whnf
    rw [Int.natAbs_natCast]
    exact .same rfl (low_natv 0 _)

theorem len_natAbs {n : Int} (h1 : -9223372036854775808 ≤ n) (h2 : n < 9223372036854775808) : (dg n.natAbs).length ≤ 3 :=
  length_dg_lt (Nat.lt_of_lt_of_le (show n.natAbs < 9223372036854775809 by omega) (by decide))

theorem ratio_c {a b : Int} (a1 : -9223372036854775808 ≤ a) (a2 : a < 9223372036854775808) (b1 : -9223372036854775808 ≤ b) (b2 : b < 9223372036854775808) (hb : b ≠ 0) :
    VCall EE 49 [.int .i64 a, .int .i64 b] [] fun v H => Fz H 0 [] v (ratV (mkQ (decide (a < 0) != decide (b < 0)) a.natAbs b.natAbs)) := by
  refine VCall.of_body true Try.func49 rfl (by decide) rfl ?_
  have la := len_natAbs a1 a2
  have lb := len_natAbs b1 b2
  have hb0 : b.natAbs ≠ 0 := by omega
  repeat' ((conv => whnf); first | refine ngo ?_ | refine VB.tt ?_ | refine VB.ff ?_ | refine VNew.keep ?_ | refine dgo ?_ | refine sgo ?_ | refine ddo ?_ | refine And.intro (Nat.le_of_ble_eq_true rfl) ?_ | (with_reducible apply VB.id; rw [bneI]) | (with_reducible apply VB.id; rw [beqI]) | (with_reducible apply VB.dt; focus omega) | (with_reducible apply VB.df; focus omega) | (with_reducible apply VB.et; focus omega) | (with_reducible apply VB.ef; focus omega) | (with_reducible apply VB.nt; focus omega) | (with_reducible apply VB.nf; focus omega) | fail)
  conv => whnf
  refine VCall.iq (size_c a a1 a2) ?_
  repeat' ((conv => whnf); first | refine ngo ?_ | refine VB.tt ?_ | refine VB.ff ?_ | refine VNew.keep ?_ | refine dgo ?_ | refine sgo ?_ | refine ddo ?_ | refine And.intro (Nat.le_of_ble_eq_true rfl) ?_ | (with_reducible apply VB.id; rw [bneI]) | (with_reducible apply VB.id; rw [beqI]) | (with_reducible apply VB.dt; focus omega) | (with_reducible apply VB.df; focus omega) | (with_reducible apply VB.et; focus omega) | (with_reducible apply VB.ef; focus omega) | (with_reducible apply VB.nt; focus omega) | (with_reducible apply VB.nf; focus omega) | fail)
  conv => whnf
  refine VCall.iq (size_c b b1 b2) ?_
  repeat' ((conv => whnf); first | refine ngo ?_ | refine VB.tt ?_ | refine VB.ff ?_ | refine VNew.keep ?_ | refine dgo ?_ | refine sgo ?_ | refine ddo ?_ | refine And.intro (Nat.le_of_ble_eq_true rfl) ?_ | (with_reducible apply VB.id; rw [bneI]) | (with_reducible apply VB.id; rw [beqI]) | (with_reducible apply VB.dt; focus omega) | (with_reducible apply VB.df; focus omega) | (with_reducible apply VB.et; focus omega) | (with_reducible apply VB.ef; focus omega) | (with_reducible apply VB.nt; focus omega) | (with_reducible apply VB.nf; focus omega) | fail)
  conv => whnf
  generalize decide (a < 0) = x
  generalize decide (b < 0) = y
  cases x <;> cases y
  all_goals
    refine VCall.iq (lowest_c (neg := _) hb0 (by omega) (by omega)) ?_
    repeat' ((conv => whnf); first | refine ngo ?_ | refine VB.tt ?_ | refine VB.ff ?_ | refine VNew.keep ?_ | refine dgo ?_ | refine sgo ?_ | refine ddo ?_ | refine And.intro (Nat.le_of_ble_eq_true rfl) ?_ | (with_reducible apply VB.id; rw [bneI]) | (with_reducible apply VB.id; rw [beqI]) | (with_reducible apply VB.dt; focus omega) | (with_reducible apply VB.df; focus omega) | (with_reducible apply VB.et; focus omega) | (with_reducible apply VB.ef; focus omega) | (with_reducible apply VB.nt; focus omega) | (with_reducible apply VB.nf; focus omega) | fail)
    conv => whnf
    exact .same rfl (low_ratV 0 _)

theorem minus_raw {b : Bool} {n d : Nat} (ln : (dg n).length < 1000000000) (ld : (dg d).length < 1000000000) : VCall EE 53 [.agg [.bool b, natv n, natv d]] [] fun v H => Fz H 0 [] v (.agg [.bool (!b && decide (n ≠ 0)), natv n, natv d]) := by
  have h1 := clone_c (dg n) ln
  have h2 := clone_c (dg d) ld
  cases b
  · refine VCall.of_body true Try.func53 rfl (by decide) rfl ?_
    repeat' ((conv => whnf); first | refine ngo ?_ | refine VB.tt ?_ | refine VB.ff ?_ | refine VNew.keep ?_ | refine dgo ?_ | refine sgo ?_ | refine ddo ?_ | refine And.intro (Nat.le_of_ble_eq_true rfl) ?_ | (with_reducible apply VB.id; rw [bneI]) | (with_reducible apply VB.id; rw [beqI]) | (with_reducible apply VB.dt; focus omega) | (with_reducible apply VB.df; focus omega) | (with_reducible apply VB.et; focus omega) | (with_reducible apply VB.ef; focus omega) | (with_reducible apply VB.nt; focus omega) | (with_reducible apply VB.nf; focus omega) | fail)
    conv => whnf
    by_cases h : ((dg n).length : Int) > 0
    · rw [decide_eq_true h, decide_eq_true (show n ≠ 0 by rintro rfl; simp [dg_zero] at h)]
      repeat' ((conv => whnf); first | refine ngo ?_ | refine VB.tt ?_ | refine VB.ff ?_ | refine VNew.keep ?_ | refine dgo ?_ | refine sgo ?_ | refine ddo ?_ | refine And.intro (Nat.le_of_ble_eq_true rfl) ?_ | (with_reducible apply VB.id; rw [bneI]) | (with_reducible apply VB.id; rw [beqI]) | (with_reducible apply VB.dt; focus omega) | (with_reducible apply VB.df; focus omega) | (with_reducible apply VB.et; focus omega) | (with_reducible apply VB.ef; focus omega) | (with_reducible apply VB.nt; focus omega) | (with_reducible apply VB.nf; focus omega) | fail)
      conv => whnf
      refine VIso.iq (h1) ?_
      repeat' ((conv => whnf); first | refine ngo ?_ | refine VB.tt ?_ | refine VB.ff ?_ | refine VNew.keep ?_ | refine dgo ?_ | refine sgo ?_ | refine ddo ?_ | refine And.intro (Nat.le_of_ble_eq_true rfl) ?_ | (with_reducible apply VB.id; rw [bneI]) | (with_reducible apply VB.id; rw [beqI]) | (with_reducible apply VB.dt; focus omega) | (with_reducible apply VB.df; focus omega) | (with_reducible apply VB.et; focus omega) | (with_reducible apply VB.ef; focus omega) | (with_reducible apply VB.nt; focus omega) | (with_reducible apply VB.nf; focus omega) | fail)
      conv => whnf
      refine VIso.iq (h2) ?_
      repeat' ((conv => whnf); first | refine ngo ?_ | refine VB.tt ?_ | refine VB.ff ?_ | refine VNew.keep ?_ | refine dgo ?_ | refine sgo ?_ | refine ddo ?_ | refine And.intro (Nat.le_of_ble_eq_true rfl) ?_ | (with_reducible apply VB.id; rw [bneI]) | (with_reducible apply VB.id; rw [beqI]) | (with_reducible apply VB.dt; focus omega) | (with_reducible apply VB.df; focus omega) | (with_reducible apply VB.et; focus omega) | (with_reducible apply VB.ef; focus omega) | (with_reducible apply VB.nt; focus omega) | (with_reducible apply VB.nf; focus omega) | fail)
      conv => whnf
      exact .same rfl ⟨trivial, low_natv 0 _, low_natv 0 _, trivial⟩
    · rw [decide_eq_false h, decide_eq_false (show ¬ n ≠ 0 by intro hn; exact h (by have := List.length_pos_iff.2 (fun e => hn (dg_eq_nil.1 e)); omega))]
      repeat' ((conv => whnf); first | refine ngo ?_ | refine VB.tt ?_ | refine VB.ff ?_ | refine VNew.keep ?_ | refine dgo ?_ | refine sgo ?_ | refine ddo ?_ | refine And.intro (Nat.le_of_ble_eq_true rfl) ?_ | (with_reducible apply VB.id; rw [bneI]) | (with_reducible apply VB.id; rw [beqI]) | (with_reducible apply VB.dt; focus omega) | (with_reducible apply VB.df; focus omega) | (with_reducible apply VB.et; focus omega) | (with_reducible apply VB.ef; focus omega) | (with_reducible apply VB.nt; focus omega) | (with_reducible apply VB.nf; focus omega) | fail)
      conv => whnf
      refine VIso.iq (h1) ?_
      repeat' ((conv => whnf); first | refine ngo ?_ | refine VB.tt ?_ | refine VB.ff ?_ | refine VNew.keep ?_ | refine dgo ?_ | refine sgo ?_ | refine ddo ?_ | refine And.intro (Nat.le_of_ble_eq_true rfl) ?_ | (with_reducible apply VB.id; rw [bneI]) | (with_reducible apply VB.id; rw [beqI]) | (with_reducible apply VB.dt; focus omega) | (with_reducible apply VB.df; focus omega) | (with_reducible apply VB.et; focus omega) | (with_reducible apply VB.ef; focus omega) | (with_reducible apply VB.nt; focus omega) | (with_reducible apply VB.nf; focus omega) | fail)
      conv => whnf
      refine VIso.iq (h2) ?_
      repeat' ((conv => whnf); first | refine ngo ?_ | refine VB.tt ?_ | refine VB.ff ?_ | refine VNew.keep ?_ | refine dgo ?_ | refine sgo ?_ | refine ddo ?_ | refine And.intro (Nat.le_of_ble_eq_true rfl) ?_ | (with_reducible apply VB.id; rw [bneI]) | (with_reducible apply VB.id; rw [beqI]) | (with_reducible apply VB.dt; focus omega) | (with_reducible apply VB.df; focus omega) | (with_reducible apply VB.et; focus omega) | (with_reducible apply VB.ef; focus omega) | (with_reducible apply VB.nt; focus omega) | (with_reducible apply VB.nf; focus omega) | fail)
      conv => whnf
      exact .same rfl ⟨trivial, low_natv 0 _, low_natv 0 _, trivial⟩
  · refine VCall.of_body true Try.func53 rfl (by decide) rfl ?_
    repeat' ((conv => whnf); first | refine ngo ?_ | refine VB.tt ?_ | refine VB.ff ?_ | refine VNew.keep ?_ | refine dgo ?_ | refine sgo ?_ | refine ddo ?_ | refine And.intro (Nat.le_of_ble_eq_true rfl) ?_ | (with_reducible apply VB.id; rw [bneI]) | (with_reducible apply VB.id; rw [beqI]) | (with_reducible apply VB.dt; focus omega) | (with_reducible apply VB.df; focus omega) | (with_reducible apply VB.et; focus omega) | (with_reducible apply VB.ef; focus omega) | (with_reducible apply VB.nt; focus omega) | (with_reducible apply VB.nf; focus omega) | fail)
    conv => whnf
    refine VIso.iq (h1) ?_
    repeat' ((conv => whnf); first | refine ngo ?_ | refine VB.tt ?_ | refine VB.ff ?_ | refine VNew.keep ?_ | refine dgo ?_ | refine sgo ?_ | refine ddo ?_ | refine And.intro (Nat.le_of_ble_eq_true rfl) ?_ | (with_reducible apply VB.id; rw [bneI]) | (with_reducible apply VB.id; rw [beqI]) | (with_reducible apply VB.dt; focus omega) | (with_reducible apply VB.df; focus omega) | (with_reducible apply VB.et; focus omega) | (with_reducible apply VB.ef; focus omega) | (with_reducible apply VB.nt; focus omega) | (with_reducible apply VB.nf; focus omega) | fail)
    conv => whnf
    refine VIso.iq (h2) ?_
    repeat' ((conv => whnf); first | refine ngo ?_ | refine VB.tt ?_ | refine VB.ff ?_ | refine VNew.keep ?_ | refine dgo ?_ | refine sgo ?_ | refine ddo ?_ | refine And.intro (Nat.le_of_ble_eq_true rfl) ?_ | (with_reducible apply VB.id; rw [bneI]) | (with_reducible apply VB.id; rw [beqI]) | (with_reducible apply VB.dt; focus omega) | (with_reducible apply VB.df; focus omega) | (with_reducible apply VB.et; focus omega) | (with_reducible apply VB.ef; focus omega) | (with_reducible apply VB.nt; focus omega) | (with_reducible apply VB.nf; focus omega) | fail)
    conv => whnf
    exact .same rfl ⟨trivial, low_natv 0 _, low_natv 0 _, trivial⟩
theorem minus_c (q : Rat) (hl : rl q < 10000000) : VCall EE 53 [ratV q] [] fun v H => Fz H 0 [] v (ratV (-q)) := by
  have h1 := rl_num q
  have h2 := rl_den q
  rw [neg_ratV]
  exact minus_raw (by omega) (by omega)

theorem signed_c {x y : Bool} {a b : Nat} (la : (dg a).length < 5000000) (lb : (dg b).length < 5000000) : VCall EE 94 [.bool x, natv a, .bool y, natv b] [] fun v H => Fz H 0 [] v (.tup [.bool (addS x a y b).1, natv (addS x a y b).2]) := by
  refine VCall.of_body true Try.func94 rfl (by decide) rfl ?_
  by_cases hxy : x = y
  · subst hxy
    rw [addS, if_pos rfl]
    cases x
    all_goals
      repeat' ((conv => whnf); first | refine ngo ?_ | refine VB.tt ?_ | refine VB.ff ?_ | refine VNew.keep ?_ | refine dgo ?_ | refine sgo ?_ | refine ddo ?_ | refine And.intro (Nat.le_of_ble_eq_true rfl) ?_ | (with_reducible apply VB.id; rw [bneI]) | (with_reducible apply VB.id; rw [beqI]) | (with_reducible apply VB.dt; focus omega) | (with_reducible apply VB.df; focus omega) | (with_reducible apply VB.et; focus omega) | (with_reducible apply VB.ef; focus omega) | (with_reducible apply VB.nt; focus omega) | (with_reducible apply VB.nf; focus omega) | fail)
      conv => whnf
      refine VCall.iq (sum_n (by omega) (by omega)) ?_
      repeat' ((conv => whnf); first | refine ngo ?_ | refine VB.tt ?_ | refine VB.ff ?_ | refine VNew.keep ?_ | refine dgo ?_ | refine sgo ?_ | refine ddo ?_ | refine And.intro (Nat.le_of_ble_eq_true rfl) ?_ | (with_reducible apply VB.id; rw [bneI]) | (with_reducible apply VB.id; rw [beqI]) | (with_reducible apply VB.dt; focus omega) | (with_reducible apply VB.df; focus omega) | (with_reducible apply VB.et; focus omega) | (with_reducible apply VB.ef; focus omega) | (with_reducible apply VB.nt; focus omega) | (with_reducible apply VB.nf; focus omega) | fail)
      conv => whnf
      exact .same rfl ⟨trivial, low_natv 0 _, trivial⟩
  · rw [addS, if_neg hxy]
    cases x <;> cases y <;> first | exact absurd rfl hxy | skip
    all_goals
      repeat' ((conv => whnf); first | refine ngo ?_ | refine VB.tt ?_ | refine VB.ff ?_ | refine VNew.keep ?_ | refine dgo ?_ | refine sgo ?_ | refine ddo ?_ | refine And.intro (Nat.le_of_ble_eq_true rfl) ?_ | (with_reducible apply VB.id; rw [bneI]) | (with_reducible apply VB.id; rw [beqI]) | (with_reducible apply VB.dt; focus omega) | (with_reducible apply VB.df; focus omega) | (with_reducible apply VB.et; focus omega) | (with_reducible apply VB.ef; focus omega) | (with_reducible apply VB.nt; focus omega) | (with_reducible apply VB.nf; focus omega) | fail)
      conv => whnf
      refine VCall.sq (order_n (by omega) (by omega)) ?_
      repeat' ((conv => whnf); first | refine ngo ?_ | refine VB.tt ?_ | refine VB.ff ?_ | refine VNew.keep ?_ | refine dgo ?_ | refine sgo ?_ | refine ddo ?_ | refine And.intro (Nat.le_of_ble_eq_true rfl) ?_ | (with_reducible apply VB.id; rw [bneI]) | (with_reducible apply VB.id; rw [beqI]) | (with_reducible apply VB.dt; focus omega) | (with_reducible apply VB.df; focus omega) | (with_reducible apply VB.et; focus omega) | (with_reducible apply VB.ef; focus omega) | (with_reducible apply VB.nt; focus omega) | (with_reducible apply VB.nf; focus omega) | fail)
      conv => whnf
      refine VB.dec (fun h => ?_) (fun h => ?_)
      · have hle : b ≤ a := by have := cmpN_neg (a := a) (b := b); omega
        rw [if_pos hle]
        repeat' ((conv => whnf); first | refine ngo ?_ | refine VB.tt ?_ | refine VB.ff ?_ | refine VNew.keep ?_ | refine dgo ?_ | refine sgo ?_ | refine ddo ?_ | refine And.intro (Nat.le_of_ble_eq_true rfl) ?_ | (with_reducible apply VB.id; rw [bneI]) | (with_reducible apply VB.id; rw [beqI]) | (with_reducible apply VB.dt; focus omega) | (with_reducible apply VB.df; focus omega) | (with_reducible apply VB.et; focus omega) | (with_reducible apply VB.ef; focus omega) | (with_reducible apply VB.nt; focus omega) | (with_reducible apply VB.nf; focus omega) | fail)
        conv => whnf
        refine VCall.iq (less_n (by omega) hle) ?_
        repeat' ((conv => whnf); first | refine ngo ?_ | refine VB.tt ?_ | refine VB.ff ?_ | refine VNew.keep ?_ | refine dgo ?_ | refine sgo ?_ | refine ddo ?_ | refine And.intro (Nat.le_of_ble_eq_true rfl) ?_ | (with_reducible apply VB.id; rw [bneI]) | (with_reducible apply VB.id; rw [beqI]) | (with_reducible apply VB.dt; focus omega) | (with_reducible apply VB.df; focus omega) | (with_reducible apply VB.et; focus omega) | (with_reducible apply VB.ef; focus omega) | (with_reducible apply VB.nt; focus omega) | (with_reducible apply VB.nf; focus omega) | fail)
        conv => whnf
        exact .same rfl ⟨trivial, low_natv 0 _, trivial⟩
      · have hle : ¬ b ≤ a := by have := cmpN_neg (a := a) (b := b); omega
        rw [if_neg hle]
        repeat' ((conv => whnf); first | refine ngo ?_ | refine VB.tt ?_ | refine VB.ff ?_ | refine VNew.keep ?_ | refine dgo ?_ | refine sgo ?_ | refine ddo ?_ | refine And.intro (Nat.le_of_ble_eq_true rfl) ?_ | (with_reducible apply VB.id; rw [bneI]) | (with_reducible apply VB.id; rw [beqI]) | (with_reducible apply VB.dt; focus omega) | (with_reducible apply VB.df; focus omega) | (with_reducible apply VB.et; focus omega) | (with_reducible apply VB.ef; focus omega) | (with_reducible apply VB.nt; focus omega) | (with_reducible apply VB.nf; focus omega) | fail)
        conv => whnf
        refine VCall.iq (less_n (by omega) (by omega)) ?_
        repeat' ((conv => whnf); first | refine ngo ?_ | refine VB.tt ?_ | refine VB.ff ?_ | refine VNew.keep ?_ | refine dgo ?_ | refine sgo ?_ | refine ddo ?_ | refine And.intro (Nat.le_of_ble_eq_true rfl) ?_ | (with_reducible apply VB.id; rw [bneI]) | (with_reducible apply VB.id; rw [beqI]) | (with_reducible apply VB.dt; focus omega) | (with_reducible apply VB.df; focus omega) | (with_reducible apply VB.et; focus omega) | (with_reducible apply VB.ef; focus omega) | (with_reducible apply VB.nt; focus omega) | (with_reducible apply VB.nf; focus omega) | fail)
        conv => whnf
        exact .same rfl ⟨trivial, low_natv 0 _, trivial⟩

theorem times_c (a b : Rat) (hl : rl a + rl b < 5000000) : VCall EE 68 [ratV a, ratV b] [] fun v H => Fz H 0 [] v (ratV (a * b)) := by
  refine VCall.of_body true Try.func68 rfl (by decide) rfl ?_
  have ha := rl_num a; have ha' := rl_den a; have hb := rl_num b; have hb' := rl_den b
  have l1 := dg_mul_le a.num.natAbs b.num.natAbs
  have l2 := dg_mul_le a.den b.den
  have hd : a.den * b.den ≠ 0 := Nat.mul_ne_zero a.den_nz b.den_nz
  rw [mul_mkQ]
  repeat' ((conv => whnf); first | refine ngo ?_ | refine VB.tt ?_ | refine VB.ff ?_ | refine VNew.keep ?_ | refine dgo ?_ | refine sgo ?_ | refine ddo ?_ | refine And.intro (Nat.le_of_ble_eq_true rfl) ?_ | (with_reducible apply VB.id; rw [bneI]) | (with_reducible apply VB.id; rw [beqI]) | (with_reducible apply VB.dt; focus omega) | (with_reducible apply VB.df; focus omega) | (with_reducible apply VB.et; focus omega) | (with_reducible apply VB.ef; focus omega) | (with_reducible apply VB.nt; focus omega) | (with_reducible apply VB.nf; focus omega) | fail)
  conv => whnf
  refine VIso.iq (product_n (by omega) (by omega)) ?_
  repeat' ((conv => whnf); first | refine ngo ?_ | refine VB.tt ?_ | refine VB.ff ?_ | refine VNew.keep ?_ | refine dgo ?_ | refine sgo ?_ | refine ddo ?_ | refine And.intro (Nat.le_of_ble_eq_true rfl) ?_ | (with_reducible apply VB.id; rw [bneI]) | (with_reducible apply VB.id; rw [beqI]) | (with_reducible apply VB.dt; focus omega) | (with_reducible apply VB.df; focus omega) | (with_reducible apply VB.et; focus omega) | (with_reducible apply VB.ef; focus omega) | (with_reducible apply VB.nt; focus omega) | (with_reducible apply VB.nf; focus omega) | fail)
  conv => whnf
  refine VIso.iq (product_n (by omega) (by omega)) ?_
  repeat' ((conv => whnf); first | refine ngo ?_ | refine VB.tt ?_ | refine VB.ff ?_ | refine VNew.keep ?_ | refine dgo ?_ | refine sgo ?_ | refine ddo ?_ | refine And.intro (Nat.le_of_ble_eq_true rfl) ?_ | (with_reducible apply VB.id; rw [bneI]) | (with_reducible apply VB.id; rw [beqI]) | (with_reducible apply VB.dt; focus omega) | (with_reducible apply VB.df; focus omega) | (with_reducible apply VB.et; focus omega) | (with_reducible apply VB.ef; focus omega) | (with_reducible apply VB.nt; focus omega) | (with_reducible apply VB.nf; focus omega) | fail)
  conv => whnf
  refine VIso.iq (lowest_c (neg := decide (a.num < 0) != decide (b.num < 0)) hd (by omega) (by omega)) ?_
  repeat' ((conv => whnf); first | refine ngo ?_ | refine VB.tt ?_ | refine VB.ff ?_ | refine VNew.keep ?_ | refine dgo ?_ | refine sgo ?_ | refine ddo ?_ | refine And.intro (Nat.le_of_ble_eq_true rfl) ?_ | (with_reducible apply VB.id; rw [bneI]) | (with_reducible apply VB.id; rw [beqI]) | (with_reducible apply VB.dt; focus omega) | (with_reducible apply VB.df; focus omega) | (with_reducible apply VB.et; focus omega) | (with_reducible apply VB.ef; focus omega) | (with_reducible apply VB.nt; focus omega) | (with_reducible apply VB.nf; focus omega) | fail)
  conv => whnf
  exact .same rfl (low_ratV 0 _)

theorem overq_c (a b : Rat) (hb0 : b ≠ 0) (hl : rl a + rl b < 5000000) : VCall EE 72 [ratV a, ratV b] [] fun v H => Fz H 0 [] v (ratV (a / b)) := by
  refine VCall.of_body true Try.func72 rfl (by decide) rfl ?_
  have ha := rl_num a; have ha' := rl_den a; have hb := rl_num b; have hb' := rl_den b
  have l1 := dg_mul_le a.num.natAbs b.den
  have l2 := dg_mul_le a.den b.num.natAbs
  have hn : b.num.natAbs ≠ 0 := fun h => hb0 (Rat.num_eq_zero.1 (Int.natAbs_eq_zero.1 h))
  have hd : a.den * b.num.natAbs ≠ 0 := Nat.mul_ne_zero a.den_nz hn
  rw [over_mkQ a b hb0]
  repeat' ((conv => whnf); first | refine ngo ?_ | refine VB.tt ?_ | refine VB.ff ?_ | refine VNew.keep ?_ | refine dgo ?_ | refine sgo ?_ | refine ddo ?_ | refine And.intro (Nat.le_of_ble_eq_true rfl) ?_ | (with_reducible apply VB.id; rw [bneI]) | (with_reducible apply VB.id; rw [beqI]) | (with_reducible apply VB.dt; focus omega) | (with_reducible apply VB.df; focus omega) | (with_reducible apply VB.et; focus omega) | (with_reducible apply VB.ef; focus omega) | (with_reducible apply VB.nt; focus omega) | (with_reducible apply VB.nf; focus omega) | fail)
  conv => whnf
  refine VIso.iq (product_n (by omega) (by omega)) ?_
  repeat' ((conv => whnf); first | refine ngo ?_ | refine VB.tt ?_ | refine VB.ff ?_ | refine VNew.keep ?_ | refine dgo ?_ | refine sgo ?_ | refine ddo ?_ | refine And.intro (Nat.le_of_ble_eq_true rfl) ?_ | (with_reducible apply VB.id; rw [bneI]) | (with_reducible apply VB.id; rw [beqI]) | (with_reducible apply VB.dt; focus omega) | (with_reducible apply VB.df; focus omega) | (with_reducible apply VB.et; focus omega) | (with_reducible apply VB.ef; focus omega) | (with_reducible apply VB.nt; focus omega) | (with_reducible apply VB.nf; focus omega) | fail)
  conv => whnf
  refine VIso.iq (product_n (by omega) (by omega)) ?_
  repeat' ((conv => whnf); first | refine ngo ?_ | refine VB.tt ?_ | refine VB.ff ?_ | refine VNew.keep ?_ | refine dgo ?_ | refine sgo ?_ | refine ddo ?_ | refine And.intro (Nat.le_of_ble_eq_true rfl) ?_ | (with_reducible apply VB.id; rw [bneI]) | (with_reducible apply VB.id; rw [beqI]) | (with_reducible apply VB.dt; focus omega) | (with_reducible apply VB.df; focus omega) | (with_reducible apply VB.et; focus omega) | (with_reducible apply VB.ef; focus omega) | (with_reducible apply VB.nt; focus omega) | (with_reducible apply VB.nf; focus omega) | fail)
  conv => whnf
  refine VIso.iq (lowest_c (neg := decide (a.num < 0) != decide (b.num < 0)) hd (by omega) (by omega)) ?_
  repeat' ((conv => whnf); first | refine ngo ?_ | refine VB.tt ?_ | refine VB.ff ?_ | refine VNew.keep ?_ | refine dgo ?_ | refine sgo ?_ | refine ddo ?_ | refine And.intro (Nat.le_of_ble_eq_true rfl) ?_ | (with_reducible apply VB.id; rw [bneI]) | (with_reducible apply VB.id; rw [beqI]) | (with_reducible apply VB.dt; focus omega) | (with_reducible apply VB.df; focus omega) | (with_reducible apply VB.et; focus omega) | (with_reducible apply VB.ef; focus omega) | (with_reducible apply VB.nt; focus omega) | (with_reducible apply VB.nf; focus omega) | fail)
  conv => whnf
  exact .same rfl (low_ratV 0 _)

theorem plus_c (a b : Rat) (hl : rl a + rl b < 2000000) : VCall EE 63 [ratV a, ratV b] [] fun v H => Fz H 0 [] v (ratV (a + b)) := by
  refine VCall.of_body true Try.func63 rfl (by decide) rfl ?_
  have ha := rl_num a; have ha' := rl_den a; have hb := rl_num b; have hb' := rl_den b
  have l1 := dg_mul_le a.num.natAbs b.den
  have l2 := dg_mul_le b.num.natAbs a.den
  have l3 := dg_mul_le a.den b.den
  have l4 := addS_len (decide (a.num < 0)) (decide (b.num < 0)) (a.num.natAbs * b.den) (b.num.natAbs * a.den)
  have hd : a.den * b.den ≠ 0 := Nat.mul_ne_zero a.den_nz b.den_nz
  rw [add_mkQ]
  repeat' ((conv => whnf); first | refine ngo ?_ | refine VB.tt ?_ | refine VB.ff ?_ | refine VNew.keep ?_ | refine dgo ?_ | refine sgo ?_ | refine ddo ?_ | refine And.intro (Nat.le_of_ble_eq_true rfl) ?_ | (with_reducible apply VB.id; rw [bneI]) | (with_reducible apply VB.id; rw [beqI]) | (with_reducible apply VB.dt; focus omega) | (with_reducible apply VB.df; focus omega) | (with_reducible apply VB.et; focus omega) | (with_reducible apply VB.ef; focus omega) | (with_reducible apply VB.nt; focus omega) | (with_reducible apply VB.nf; focus omega) | fail)
  conv => whnf
  refine VIso.iq (product_n (by omega) (by omega)) ?_
  repeat' ((conv => whnf); first | refine ngo ?_ | refine VB.tt ?_ | refine VB.ff ?_ | refine VNew.keep ?_ | refine dgo ?_ | refine sgo ?_ | refine ddo ?_ | refine And.intro (Nat.le_of_ble_eq_true rfl) ?_ | (with_reducible apply VB.id; rw [bneI]) | (with_reducible apply VB.id; rw [beqI]) | (with_reducible apply VB.dt; focus omega) | (with_reducible apply VB.df; focus omega) | (with_reducible apply VB.et; focus omega) | (with_reducible apply VB.ef; focus omega) | (with_reducible apply VB.nt; focus omega) | (with_reducible apply VB.nf; focus omega) | fail)
  conv => whnf
  refine VIso.iq (product_n (by omega) (by omega)) ?_
  repeat' ((conv => whnf); first | refine ngo ?_ | refine VB.tt ?_ | refine VB.ff ?_ | refine VNew.keep ?_ | refine dgo ?_ | refine sgo ?_ | refine ddo ?_ | refine And.intro (Nat.le_of_ble_eq_true rfl) ?_ | (with_reducible apply VB.id; rw [bneI]) | (with_reducible apply VB.id; rw [beqI]) | (with_reducible apply VB.dt; focus omega) | (with_reducible apply VB.df; focus omega) | (with_reducible apply VB.et; focus omega) | (with_reducible apply VB.ef; focus omega) | (with_reducible apply VB.nt; focus omega) | (with_reducible apply VB.nf; focus omega) | fail)
  conv => whnf
  refine VIso.iq (signed_c (x := decide (a.num < 0)) (y := decide (b.num < 0)) (by omega) (by omega)) ?_
  repeat' ((conv => whnf); first | refine ngo ?_ | refine VB.tt ?_ | refine VB.ff ?_ | refine VNew.keep ?_ | refine dgo ?_ | refine sgo ?_ | refine ddo ?_ | refine And.intro (Nat.le_of_ble_eq_true rfl) ?_ | (with_reducible apply VB.id; rw [bneI]) | (with_reducible apply VB.id; rw [beqI]) | (with_reducible apply VB.dt; focus omega) | (with_reducible apply VB.df; focus omega) | (with_reducible apply VB.et; focus omega) | (with_reducible apply VB.ef; focus omega) | (with_reducible apply VB.nt; focus omega) | (with_reducible apply VB.nf; focus omega) | fail)
  conv => whnf
  refine VCall.iq (product_n (by omega) (by omega)) ?_
  repeat' ((conv => whnf); first | refine ngo ?_ | refine VB.tt ?_ | refine VB.ff ?_ | refine VNew.keep ?_ | refine dgo ?_ | refine sgo ?_ | refine ddo ?_ | refine And.intro (Nat.le_of_ble_eq_true rfl) ?_ | (with_reducible apply VB.id; rw [bneI]) | (with_reducible apply VB.id; rw [beqI]) | (with_reducible apply VB.dt; focus omega) | (with_reducible apply VB.df; focus omega) | (with_reducible apply VB.et; focus omega) | (with_reducible apply VB.ef; focus omega) | (with_reducible apply VB.nt; focus omega) | (with_reducible apply VB.nf; focus omega) | fail)
  conv => whnf
  refine VCall.iq (lowest_c hd (by omega) (by omega)) ?_
  repeat' ((conv => whnf); first | refine ngo ?_ | refine VB.tt ?_ | refine VB.ff ?_ | refine VNew.keep ?_ | refine dgo ?_ | refine sgo ?_ | refine ddo ?_ | refine And.intro (Nat.le_of_ble_eq_true rfl) ?_ | (with_reducible apply VB.id; rw [bneI]) | (with_reducible apply VB.id; rw [beqI]) | (with_reducible apply VB.dt; focus omega) | (with_reducible apply VB.df; focus omega) | (with_reducible apply VB.et; focus omega) | (with_reducible apply VB.ef; focus omega) | (with_reducible apply VB.nt; focus omega) | (with_reducible apply VB.nf; focus omega) | fail)
  conv => whnf
  exact .same rfl (low_ratV 0 _)

theorem compare_c (a b : Rat) (hl : rl a + rl b < 2000000) : VCall EE 50 [ratV a, ratV b] [] fun v H => v = .int .i64 (cmpQ a b) := by
  refine VCall.of_body true Try.func50 rfl (by decide) rfl ?_
  have hs := cmpQ_sub a b
  repeat' ((conv => whnf); first | refine ngo ?_ | refine VB.tt ?_ | refine VB.ff ?_ | refine VNew.keep ?_ | refine dgo ?_ | refine sgo ?_ | refine ddo ?_ | refine And.intro (Nat.le_of_ble_eq_true rfl) ?_ | (with_reducible apply VB.id; rw [bneI]) | (with_reducible apply VB.id; rw [beqI]) | (with_reducible apply VB.dt; focus omega) | (with_reducible apply VB.df; focus omega) | (with_reducible apply VB.et; focus omega) | (with_reducible apply VB.ef; focus omega) | (with_reducible apply VB.nt; focus omega) | (with_reducible apply VB.nf; focus omega) | fail)
  conv => whnf
  refine VIso.iq (minus_c b (by omega)) ?_
  repeat' ((conv => whnf); first | refine ngo ?_ | refine VB.tt ?_ | refine VB.ff ?_ | refine VNew.keep ?_ | refine dgo ?_ | refine sgo ?_ | refine ddo ?_ | refine And.intro (Nat.le_of_ble_eq_true rfl) ?_ | (with_reducible apply VB.id; rw [bneI]) | (with_reducible apply VB.id; rw [beqI]) | (with_reducible apply VB.dt; focus omega) | (with_reducible apply VB.df; focus omega) | (with_reducible apply VB.et; focus omega) | (with_reducible apply VB.ef; focus omega) | (with_reducible apply VB.nt; focus omega) | (with_reducible apply VB.nf; focus omega) | fail)
  conv => whnf
  refine VIso.iq (plus_c a (-b) (by rw [rl_neg]; omega)) ?_
  repeat' ((conv => whnf); first | refine ngo ?_ | refine VB.tt ?_ | refine VB.ff ?_ | refine VNew.keep ?_ | refine dgo ?_ | refine sgo ?_ | refine ddo ?_ | refine And.intro (Nat.le_of_ble_eq_true rfl) ?_ | (with_reducible apply VB.id; rw [bneI]) | (with_reducible apply VB.id; rw [beqI]) | (with_reducible apply VB.dt; focus omega) | (with_reducible apply VB.df; focus omega) | (with_reducible apply VB.et; focus omega) | (with_reducible apply VB.ef; focus omega) | (with_reducible apply VB.nt; focus omega) | (with_reducible apply VB.nf; focus omega) | fail)
  conv => whnf
  generalize a + -b = c at *
  refine VB.eq (fun h => ?_) (fun h => ?_)
  · have hc : c.num = 0 := Int.natAbs_eq_zero.1 (len_dg_zero h)
    repeat' ((conv => whnf); first | refine ngo ?_ | refine VB.tt ?_ | refine VB.ff ?_ | refine VNew.keep ?_ | refine dgo ?_ | refine sgo ?_ | refine ddo ?_ | refine And.intro (Nat.le_of_ble_eq_true rfl) ?_ | (with_reducible apply VB.id; rw [bneI]) | (with_reducible apply VB.id; rw [beqI]) | (with_reducible apply VB.dt; focus omega) | (with_reducible apply VB.df; focus omega) | (with_reducible apply VB.et; focus omega) | (with_reducible apply VB.ef; focus omega) | (with_reducible apply VB.nt; focus omega) | (with_reducible apply VB.nf; focus omega) | fail)
    conv => whnf
    rw [hs, if_pos hc]
  · have hc : ¬ c.num = 0 := fun e => len_dg_ne h (by rw [e]; rfl)
    rw [if_neg hc] at hs
    by_cases hn : c.num < 0
    · rw [decide_eq_true hn]
      repeat' ((conv => whnf); first | refine ngo ?_ | refine VB.tt ?_ | refine VB.ff ?_ | refine VNew.keep ?_ | refine dgo ?_ | refine sgo ?_ | refine ddo ?_ | refine And.intro (Nat.le_of_ble_eq_true rfl) ?_ | (with_reducible apply VB.id; rw [bneI]) | (with_reducible apply VB.id; rw [beqI]) | (with_reducible apply VB.dt; focus omega) | (with_reducible apply VB.df; focus omega) | (with_reducible apply VB.et; focus omega) | (with_reducible apply VB.ef; focus omega) | (with_reducible apply VB.nt; focus omega) | (with_reducible apply VB.nf; focus omega) | fail)
      conv => whnf
      rw [hs, if_pos hn]
    · rw [decide_eq_false hn]
      repeat' ((conv => whnf); first | refine ngo ?_ | refine VB.tt ?_ | refine VB.ff ?_ | refine VNew.keep ?_ | refine dgo ?_ | refine sgo ?_ | refine ddo ?_ | refine And.intro (Nat.le_of_ble_eq_true rfl) ?_ | (with_reducible apply VB.id; rw [bneI]) | (with_reducible apply VB.id; rw [beqI]) | (with_reducible apply VB.dt; focus omega) | (with_reducible apply VB.df; focus omega) | (with_reducible apply VB.et; focus omega) | (with_reducible apply VB.ef; focus omega) | (with_reducible apply VB.nt; focus omega) | (with_reducible apply VB.nf; focus omega) | fail)
      conv => whnf
      rw [hs, if_neg hn]

theorem zero_c (a : Rat) : VCall EE 71 [ratV a] [] fun v H => v = .bool (decide (a = 0)) := by
  refine VCall.of_body true Try.func71 rfl (by decide) rfl ?_
  repeat' ((conv => whnf); first | refine ngo ?_ | refine VB.tt ?_ | refine VB.ff ?_ | refine VNew.keep ?_ | refine dgo ?_ | refine sgo ?_ | refine ddo ?_ | refine And.intro (Nat.le_of_ble_eq_true rfl) ?_ | (with_reducible apply VB.id; rw [bneI]) | (with_reducible apply VB.id; rw [beqI]) | (with_reducible apply VB.dt; focus omega) | (with_reducible apply VB.df; focus omega) | (with_reducible apply VB.et; focus omega) | (with_reducible apply VB.ef; focus omega) | (with_reducible apply VB.nt; focus omega) | (with_reducible apply VB.nf; focus omega) | fail)
  conv => whnf
  congr 1
  rw [Bool.eq_iff_iff, beq_iff_eq, decide_eq_true_iff]
  constructor
  · intro h
    exact Rat.num_eq_zero.1 (Int.natAbs_eq_zero.1 (len_dg_zero h))
  · rintro rfl
    simp [dg_zero]

theorem down_raw {b : Bool} {n d : Nat} (hd : d ≠ 0) (ln : (dg n).length < 5000000) (ld : (dg d).length < 5000000) : VCall EE 81 [.agg [.bool b, natv n, natv d]] [] fun v H => Fz H 0 [] v (ratV (mkQ b (if b = true ∧ n % d ≠ 0 then n / d + 1 else n / d) 1)) := by
  have hq := dg_length_mono (Nat.div_le_self n d)
  have hr := dg_length_mono (Nat.mod_le n d)
  have hq1 := dg_add_le (n / d) 1
  have l1 := dg_len_one
  cases b
  · rw [if_neg (by simp)]
    refine VCall.of_body true Try.func81 rfl (by decide) rfl ?_
    repeat' ((conv => whnf); first | refine ngo ?_ | refine VB.tt ?_ | refine VB.ff ?_ | refine VNew.keep ?_ | refine dgo ?_ | refine sgo ?_ | refine ddo ?_ | refine And.intro (Nat.le_of_ble_eq_true rfl) ?_ | (with_reducible apply VB.id; rw [bneI]) | (with_reducible apply VB.id; rw [beqI]) | (with_reducible apply VB.dt; focus omega) | (with_reducible apply VB.df; focus omega) | (with_reducible apply VB.et; focus omega) | (with_reducible apply VB.ef; focus omega) | (with_reducible apply VB.nt; focus omega) | (with_reducible apply VB.nf; focus omega) | fail)
    conv => whnf
    refine VCall.iq (divide_n hd (by omega) (by omega)) ?_
    repeat' ((conv => whnf); first | refine ngo ?_ | refine VB.tt ?_ | refine VB.ff ?_ | refine dgo ?_ | refine sgo ?_ | refine ddo ?_ | refine And.intro (Nat.le_of_ble_eq_true rfl) ?_ | (with_reducible apply VB.id; rw [bneI]) | (with_reducible apply VB.id; rw [beqI]) | (with_reducible apply VB.dt; focus omega) | (with_reducible apply VB.df; focus omega) | (with_reducible apply VB.et; focus omega) | (with_reducible apply VB.ef; focus omega) | (with_reducible apply VB.nt; focus omega) | (with_reducible apply VB.nf; focus omega) | fail)
    conv => whnf
    refine VNew.dat (cs' := limbs [1]) rfl rfl ?_
    repeat' ((conv => whnf); first | refine ngo ?_ | refine VB.tt ?_ | refine VB.ff ?_ | refine VNew.keep ?_ | refine dgo ?_ | refine sgo ?_ | refine ddo ?_ | refine And.intro (Nat.le_of_ble_eq_true rfl) ?_ | (with_reducible apply VB.id; rw [bneI]) | (with_reducible apply VB.id; rw [beqI]) | (with_reducible apply VB.dt; focus omega) | (with_reducible apply VB.df; focus omega) | (with_reducible apply VB.et; focus omega) | (with_reducible apply VB.ef; focus omega) | (with_reducible apply VB.nt; focus omega) | (with_reducible apply VB.nf; focus omega) | fail)
    conv => whnf
    rw [one_nat]
    refine VCall.iq (lowest_c (neg := false) (by decide) (by omega) (by omega)) ?_
    repeat' ((conv => whnf); first | refine ngo ?_ | refine VB.tt ?_ | refine VB.ff ?_ | refine VNew.keep ?_ | refine dgo ?_ | refine sgo ?_ | refine ddo ?_ | refine And.intro (Nat.le_of_ble_eq_true rfl) ?_ | (with_reducible apply VB.id; rw [bneI]) | (with_reducible apply VB.id; rw [beqI]) | (with_reducible apply VB.dt; focus omega) | (with_reducible apply VB.df; focus omega) | (with_reducible apply VB.et; focus omega) | (with_reducible apply VB.ef; focus omega) | (with_reducible apply VB.nt; focus omega) | (with_reducible apply VB.nf; focus omega) | fail)
    conv => whnf
    exact .same rfl (low_ratV 0 _)
  · refine VCall.of_body true Try.func81 rfl (by decide) rfl ?_
    repeat' ((conv => whnf); first | refine ngo ?_ | refine VB.tt ?_ | refine VB.ff ?_ | refine VNew.keep ?_ | refine dgo ?_ | refine sgo ?_ | refine ddo ?_ | refine And.intro (Nat.le_of_ble_eq_true rfl) ?_ | (with_reducible apply VB.id; rw [bneI]) | (with_reducible apply VB.id; rw [beqI]) | (with_reducible apply VB.dt; focus omega) | (with_reducible apply VB.df; focus omega) | (with_reducible apply VB.et; focus omega) | (with_reducible apply VB.ef; focus omega) | (with_reducible apply VB.nt; focus omega) | (with_reducible apply VB.nf; focus omega) | fail)
    conv => whnf
    refine VCall.iq (divide_n hd (by omega) (by omega)) ?_
    repeat' ((conv => whnf); first | refine ngo ?_ | refine VB.tt ?_ | refine VB.ff ?_ | refine VNew.keep ?_ | refine dgo ?_ | refine sgo ?_ | refine ddo ?_ | refine And.intro (Nat.le_of_ble_eq_true rfl) ?_ | (with_reducible apply VB.id; rw [bneI]) | (with_reducible apply VB.id; rw [beqI]) | (with_reducible apply VB.dt; focus omega) | (with_reducible apply VB.df; focus omega) | (with_reducible apply VB.et; focus omega) | (with_reducible apply VB.ef; focus omega) | (with_reducible apply VB.nt; focus omega) | (with_reducible apply VB.nf; focus omega) | fail)
    conv => whnf
    refine VB.dec (fun h => ?_) (fun h => ?_)
    · rw [if_pos ⟨rfl, by intro e; rw [e, dg_zero] at h; simp at h⟩]
      repeat' ((conv => whnf); first | refine ngo ?_ | refine VB.tt ?_ | refine VB.ff ?_ | refine dgo ?_ | refine sgo ?_ | refine ddo ?_ | refine And.intro (Nat.le_of_ble_eq_true rfl) ?_ | (with_reducible apply VB.id; rw [bneI]) | (with_reducible apply VB.id; rw [beqI]) | (with_reducible apply VB.dt; focus omega) | (with_reducible apply VB.df; focus omega) | (with_reducible apply VB.et; focus omega) | (with_reducible apply VB.ef; focus omega) | (with_reducible apply VB.nt; focus omega) | (with_reducible apply VB.nf; focus omega) | fail)
      conv => whnf
      refine VNew.dat (cs' := limbs [1]) rfl rfl ?_
      repeat' ((conv => whnf); first | refine ngo ?_ | refine VB.tt ?_ | refine VB.ff ?_ | refine VNew.keep ?_ | refine dgo ?_ | refine sgo ?_ | refine ddo ?_ | refine And.intro (Nat.le_of_ble_eq_true rfl) ?_ | (with_reducible apply VB.id; rw [bneI]) | (with_reducible apply VB.id; rw [beqI]) | (with_reducible apply VB.dt; focus omega) | (with_reducible apply VB.df; focus omega) | (with_reducible apply VB.et; focus omega) | (with_reducible apply VB.ef; focus omega) | (with_reducible apply VB.nt; focus omega) | (with_reducible apply VB.nf; focus omega) | fail)
      conv => whnf
      rw [one_nat]
      refine VCall.iq (sum_n (by omega) (by omega)) ?_
      repeat' ((conv => whnf); first | refine ngo ?_ | refine VB.tt ?_ | refine VB.ff ?_ | refine dgo ?_ | refine sgo ?_ | refine ddo ?_ | refine And.intro (Nat.le_of_ble_eq_true rfl) ?_ | (with_reducible apply VB.id; rw [bneI]) | (with_reducible apply VB.id; rw [beqI]) | (with_reducible apply VB.dt; focus omega) | (with_reducible apply VB.df; focus omega) | (with_reducible apply VB.et; focus omega) | (with_reducible apply VB.ef; focus omega) | (with_reducible apply VB.nt; focus omega) | (with_reducible apply VB.nf; focus omega) | fail)
      conv => whnf
      refine VNew.dat (cs' := limbs [1]) rfl rfl ?_
      repeat' ((conv => whnf); first | refine ngo ?_ | refine VB.tt ?_ | refine VB.ff ?_ | refine VNew.keep ?_ | refine dgo ?_ | refine sgo ?_ | refine ddo ?_ | refine And.intro (Nat.le_of_ble_eq_true rfl) ?_ | (with_reducible apply VB.id; rw [bneI]) | (with_reducible apply VB.id; rw [beqI]) | (with_reducible apply VB.dt; focus omega) | (with_reducible apply VB.df; focus omega) | (with_reducible apply VB.et; focus omega) | (with_reducible apply VB.ef; focus omega) | (with_reducible apply VB.nt; focus omega) | (with_reducible apply VB.nf; focus omega) | fail)
      conv => whnf
      rw [one_nat]
      refine VCall.iq (lowest_c (neg := true) (by decide) (by omega) (by omega)) ?_
      repeat' ((conv => whnf); first | refine ngo ?_ | refine VB.tt ?_ | refine VB.ff ?_ | refine VNew.keep ?_ | refine dgo ?_ | refine sgo ?_ | refine ddo ?_ | refine And.intro (Nat.le_of_ble_eq_true rfl) ?_ | (with_reducible apply VB.id; rw [bneI]) | (with_reducible apply VB.id; rw [beqI]) | (with_reducible apply VB.dt; focus omega) | (with_reducible apply VB.df; focus omega) | (with_reducible apply VB.et; focus omega) | (with_reducible apply VB.ef; focus omega) | (with_reducible apply VB.nt; focus omega) | (with_reducible apply VB.nf; focus omega) | fail)
      conv => whnf
      exact .same rfl (low_ratV 0 _)
    · rw [if_neg (by rintro ⟨_, e⟩; exact h (by have := List.length_pos_iff.2 (fun e2 => e (dg_eq_nil.1 e2)); omega))]
      repeat' ((conv => whnf); first | refine ngo ?_ | refine VB.tt ?_ | refine VB.ff ?_ | refine dgo ?_ | refine sgo ?_ | refine ddo ?_ | refine And.intro (Nat.le_of_ble_eq_true rfl) ?_ | (with_reducible apply VB.id; rw [bneI]) | (with_reducible apply VB.id; rw [beqI]) | (with_reducible apply VB.dt; focus omega) | (with_reducible apply VB.df; focus omega) | (with_reducible apply VB.et; focus omega) | (with_reducible apply VB.ef; focus omega) | (with_reducible apply VB.nt; focus omega) | (with_reducible apply VB.nf; focus omega) | fail)
      conv => whnf
      refine VNew.dat (cs' := limbs [1]) rfl rfl ?_
      repeat' ((conv => whnf); first | refine ngo ?_ | refine VB.tt ?_ | refine VB.ff ?_ | refine VNew.keep ?_ | refine dgo ?_ | refine sgo ?_ | refine ddo ?_ | refine And.intro (Nat.le_of_ble_eq_true rfl) ?_ | (with_reducible apply VB.id; rw [bneI]) | (with_reducible apply VB.id; rw [beqI]) | (with_reducible apply VB.dt; focus omega) | (with_reducible apply VB.df; focus omega) | (with_reducible apply VB.et; focus omega) | (with_reducible apply VB.ef; focus omega) | (with_reducible apply VB.nt; focus omega) | (with_reducible apply VB.nf; focus omega) | fail)
      conv => whnf
      rw [one_nat]
      refine VCall.iq (lowest_c (neg := true) (by decide) (by omega) (by omega)) ?_
      repeat' ((conv => whnf); first | refine ngo ?_ | refine VB.tt ?_ | refine VB.ff ?_ | refine VNew.keep ?_ | refine dgo ?_ | refine sgo ?_ | refine ddo ?_ | refine And.intro (Nat.le_of_ble_eq_true rfl) ?_ | (with_reducible apply VB.id; rw [bneI]) | (with_reducible apply VB.id; rw [beqI]) | (with_reducible apply VB.dt; focus omega) | (with_reducible apply VB.df; focus omega) | (with_reducible apply VB.et; focus omega) | (with_reducible apply VB.ef; focus omega) | (with_reducible apply VB.nt; focus omega) | (with_reducible apply VB.nf; focus omega) | fail)
      conv => whnf
      exact .same rfl (low_ratV 0 _)
theorem down_c (a : Rat) (hl : rl a < 2000000) : VCall EE 81 [ratV a] [] fun v H => Fz H 0 [] v (ratV (a.floor : Rat)) := by
  have h1 := rl_num a; have h2 := rl_den a
  have h := down_raw (b := decide (a.num < 0)) (n := a.num.natAbs) a.den_nz (by omega) (by omega)
  rw [floor_mkQ]
  simp only [decide_eq_true_iff] at h
  exact h
end Go.Proofs.Ytoijfbdjlagooaa
