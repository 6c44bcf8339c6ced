/- The program logic and the contracts that a law leans on, part 4. -/
import Derived.Test.YtcdnonggajoghaaDoorA3
import Derived.Test.YtcdnonggajoghaaDoorA2

/- Contracts: how many digits. -/
namespace Go.Proofs.YtcdnonggajoghaaDoor
open Go Go.RowKit
set_option linter.unusedVariables false
set_option linter.unusedSimpArgs false
set_option maxRecDepth 100000

theorem digits_c {l : List Nat} (hc : canon l) (ll : l.length ≤ 1024) : VCall EE 41 [natL l] [] fun v H => v = .int .i64 (digN (val l)) := by
  refine VCall.of_body true Tryd.func41 rfl (by decide) rfl ?_
  repeat' ((conv => whnf); first | refine ngo ?_ | refine VB.tt ?_ | refine VB.ff ?_ | refine VNew.keep ?_ | refine dgo ?_ | refine sgo ?_ | fail)
  conv => whnf
  refine VB.eq (fun h => ?_) (fun h => ?_)
  · have : l = [] := List.length_eq_zero_iff.1 (by omega)
    subst this
    repeat' ((conv => whnf); first | refine ngo ?_ | refine VB.tt ?_ | refine VB.ff ?_ | refine VNew.keep ?_ | refine dgo ?_ | refine sgo ?_ | fail)
    conv => whnf
    rfl
  · obtain ⟨n, hn⟩ : ∃ n, l.length = n + 1 := ⟨l.length - 1, by omega⟩
    obtain ⟨x, hx⟩ : ∃ x, l.getD n 0 = x := ⟨_, rfl⟩
    obtain ⟨h0, h1, h2⟩ := digN_last hc hn hx
    have hpw : ∀ i, i < 9 → (10 ^ i ≤ x ↔ i < (Dec.dg x).length) := by
      intro i _
      constructor
      · intro h3
        rcases Nat.lt_or_ge i (Dec.dg x).length with h4 | h4
        · exact h4
        · have h5 : x < 10 ^ i := Nat.lt_of_lt_of_le (Dec.lt_of_length_dg x) (Nat.pow_le_pow_right (by decide) h4)
          omega
      · intro h3
        exact Nat.le_trans (Nat.pow_le_pow_right (by decide) (by omega)) (Dec.pow_le_of_dg h0)
    have hle : (Dec.dg x).length ≤ 9 := Dec.length_dg_lt (k := 9) h1
    repeat' ((conv => whnf); first | refine ngo ?_ | refine VB.tt ?_ | refine VB.ff ?_ | refine VNew.keep ?_ | refine dgo ?_ | refine sgo ?_ | fail)
    conv => whnf
    refine VLoop.ix true (fun i : Nat => ⟨[(0, natL l), (3, .int .i64 (9 * n + min i (Dec.dg x).length : Nat)), (13, .agg [.int .u32 1, .int .u32 10, .int .u32 100, .int .u32 1000, .int .u32 10000, .int .u32 100000, .int .u32 1000000, .int .u32 10000000, .int .u32 100000000]), (14, .int .i64 i)], [], []⟩) (fun i => i ≤ 9) (fun i => 9 - i) 0 (by omega) ⟨⟨rfl, by simp [lk, hn], rfl, rfl, trivial⟩, rfl, rfl⟩ ?_
    rintro i hi
    repeat' ((conv => whnf); first | refine ngo ?_ | refine VB.tt ?_ | refine VB.ff ?_ | refine VNew.keep ?_ | refine dgo ?_ | refine sgo ?_ | fail)
    conv => whnf
    refine VB.dec (fun h3 => ?_) (fun h3 => ?_)
    · have h4 := hpw i (by omega)
      have en : ((l.length : Int) - 1).toNat = n := by omega
      clear hpw
      rcases (by omega : i = 0 ∨ i = 1 ∨ i = 2 ∨ i = 3 ∨ i = 4 ∨ i = 5 ∨ i = 6 ∨ i = 7 ∨ i = 8) with rfl | rfl | rfl | rfl | rfl | rfl | rfl | rfl | rfl
      · generalize hp : (10 : Nat) ^ 0 = p at h4
        have hp : p = 1 := by rw [← hp]
        repeat' ((conv => whnf); first | refine ngo ?_ | refine VB.tt ?_ | refine VB.ff ?_ | refine VNew.keep ?_ | refine dgo ?_ | refine sgo ?_ | fail)
        conv => whnf
        rw [en, Nat.mul_one, getInt_limbs, hx]
        refine VB.dec (fun h5 => ?_) (fun h5 => ?_)
        · repeat' ((conv => whnf); first | refine ngo ?_ | refine VB.tt ?_ | refine VB.ff ?_ | refine VNew.keep ?_ | refine dgo ?_ | refine sgo ?_ | fail)
          conv => whnf
          refine ⟨1, by omega, by omega, ⟨⟨rfl, by simp only [lk]; exact congrArg (fun z => some (AV.int .i64 z)) (by omega), rfl, rfl, trivial⟩, rfl, rfl⟩⟩
        · repeat' ((conv => whnf); first | refine ngo ?_ | refine VB.tt ?_ | refine VB.ff ?_ | refine VNew.keep ?_ | refine dgo ?_ | refine sgo ?_ | fail)
          conv => whnf
          refine ⟨1, by omega, by omega, ⟨⟨rfl, by simp only [lk]; exact congrArg (fun z => some (AV.int .i64 z)) (by omega), rfl, rfl, trivial⟩, rfl, rfl⟩⟩
      · generalize hp : (10 : Nat) ^ 1 = p at h4
        have hp : p = 10 := by rw [← hp]
        repeat' ((conv => whnf); first | refine ngo ?_ | refine VB.tt ?_ | refine VB.ff ?_ | refine VNew.keep ?_ | refine dgo ?_ | refine sgo ?_ | fail)
        conv => whnf
        rw [en, Nat.mul_one, getInt_limbs, hx]
        refine VB.dec (fun h5 => ?_) (fun h5 => ?_)
        · repeat' ((conv => whnf); first | refine ngo ?_ | refine VB.tt ?_ | refine VB.ff ?_ | refine VNew.keep ?_ | refine dgo ?_ | refine sgo ?_ | fail)
          conv => whnf
          refine ⟨2, by omega, by omega, ⟨⟨rfl, by simp only [lk]; exact congrArg (fun z => some (AV.int .i64 z)) (by omega), rfl, rfl, trivial⟩, rfl, rfl⟩⟩
        · repeat' ((conv => whnf); first | refine ngo ?_ | refine VB.tt ?_ | refine VB.ff ?_ | refine VNew.keep ?_ | refine dgo ?_ | refine sgo ?_ | fail)
          conv => whnf
          refine ⟨2, by omega, by omega, ⟨⟨rfl, by simp only [lk]; exact congrArg (fun z => some (AV.int .i64 z)) (by omega), rfl, rfl, trivial⟩, rfl, rfl⟩⟩
      · generalize hp : (10 : Nat) ^ 2 = p at h4
        have hp : p = 100 := by rw [← hp]
        repeat' ((conv => whnf); first | refine ngo ?_ | refine VB.tt ?_ | refine VB.ff ?_ | refine VNew.keep ?_ | refine dgo ?_ | refine sgo ?_ | fail)
        conv => whnf
        rw [en, Nat.mul_one, getInt_limbs, hx]
        refine VB.dec (fun h5 => ?_) (fun h5 => ?_)
        · repeat' ((conv => whnf); first | refine ngo ?_ | refine VB.tt ?_ | refine VB.ff ?_ | refine VNew.keep ?_ | refine dgo ?_ | refine sgo ?_ | fail)
          conv => whnf
          refine ⟨3, by omega, by omega, ⟨⟨rfl, by simp only [lk]; exact congrArg (fun z => some (AV.int .i64 z)) (by omega), rfl, rfl, trivial⟩, rfl, rfl⟩⟩
        · repeat' ((conv => whnf); first | refine ngo ?_ | refine VB.tt ?_ | refine VB.ff ?_ | refine VNew.keep ?_ | refine dgo ?_ | refine sgo ?_ | fail)
          conv => whnf
          refine ⟨3, by omega, by omega, ⟨⟨rfl, by simp only [lk]; exact congrArg (fun z => some (AV.int .i64 z)) (by omega), rfl, rfl, trivial⟩, rfl, rfl⟩⟩
      · generalize hp : (10 : Nat) ^ 3 = p at h4
        have hp : p = 1000 := by rw [← hp]
        repeat' ((conv => whnf); first | refine ngo ?_ | refine VB.tt ?_ | refine VB.ff ?_ | refine VNew.keep ?_ | refine dgo ?_ | refine sgo ?_ | fail)
        conv => whnf
        rw [en, Nat.mul_one, getInt_limbs, hx]
        refine VB.dec (fun h5 => ?_) (fun h5 => ?_)
        · repeat' ((conv => whnf); first | refine ngo ?_ | refine VB.tt ?_ | refine VB.ff ?_ | refine VNew.keep ?_ | refine dgo ?_ | refine sgo ?_ | fail)
          conv => whnf
          refine ⟨4, by omega, by omega, ⟨⟨rfl, by simp only [lk]; exact congrArg (fun z => some (AV.int .i64 z)) (by omega), rfl, rfl, trivial⟩, rfl, rfl⟩⟩
        · repeat' ((conv => whnf); first | refine ngo ?_ | refine VB.tt ?_ | refine VB.ff ?_ | refine VNew.keep ?_ | refine dgo ?_ | refine sgo ?_ | fail)
          conv => whnf
          refine ⟨4, by omega, by omega, ⟨⟨rfl, by simp only [lk]; exact congrArg (fun z => some (AV.int .i64 z)) (by omega), rfl, rfl, trivial⟩, rfl, rfl⟩⟩
      · generalize hp : (10 : Nat) ^ 4 = p at h4
        have hp : p = 10000 := by rw [← hp]
        repeat' ((conv => whnf); first | refine ngo ?_ | refine VB.tt ?_ | refine VB.ff ?_ | refine VNew.keep ?_ | refine dgo ?_ | refine sgo ?_ | fail)
        conv => whnf
        rw [en, Nat.mul_one, getInt_limbs, hx]
        refine VB.dec (fun h5 => ?_) (fun h5 => ?_)
        · repeat' ((conv => whnf); first | refine ngo ?_ | refine VB.tt ?_ | refine VB.ff ?_ | refine VNew.keep ?_ | refine dgo ?_ | refine sgo ?_ | fail)
          conv => whnf
          refine ⟨5, by omega, by omega, ⟨⟨rfl, by simp only [lk]; exact congrArg (fun z => some (AV.int .i64 z)) (by omega), rfl, rfl, trivial⟩, rfl, rfl⟩⟩
        · repeat' ((conv => whnf); first | refine ngo ?_ | refine VB.tt ?_ | refine VB.ff ?_ | refine VNew.keep ?_ | refine dgo ?_ | refine sgo ?_ | fail)
          conv => whnf
          refine ⟨5, by omega, by omega, ⟨⟨rfl, by simp only [lk]; exact congrArg (fun z => some (AV.int .i64 z)) (by omega), rfl, rfl, trivial⟩, rfl, rfl⟩⟩
      · generalize hp : (10 : Nat) ^ 5 = p at h4
        have hp : p = 100000 := by rw [← hp]
        repeat' ((conv => whnf); first | refine ngo ?_ | refine VB.tt ?_ | refine VB.ff ?_ | refine VNew.keep ?_ | refine dgo ?_ | refine sgo ?_ | fail)
        conv => whnf
        rw [en, Nat.mul_one, getInt_limbs, hx]
        refine VB.dec (fun h5 => ?_) (fun h5 => ?_)
        · repeat' ((conv => whnf); first | refine ngo ?_ | refine VB.tt ?_ | refine VB.ff ?_ | refine VNew.keep ?_ | refine dgo ?_ | refine sgo ?_ | fail)
          conv => whnf
          refine ⟨6, by omega, by omega, ⟨⟨rfl, by simp only [lk]; exact congrArg (fun z => some (AV.int .i64 z)) (by omega), rfl, rfl, trivial⟩, rfl, rfl⟩⟩
        · repeat' ((conv => whnf); first | refine ngo ?_ | refine VB.tt ?_ | refine VB.ff ?_ | refine VNew.keep ?_ | refine dgo ?_ | refine sgo ?_ | fail)
          conv => whnf
          refine ⟨6, by omega, by omega, ⟨⟨rfl, by simp only [lk]; exact congrArg (fun z => some (AV.int .i64 z)) (by omega), rfl, rfl, trivial⟩, rfl, rfl⟩⟩
      · generalize hp : (10 : Nat) ^ 6 = p at h4
        have hp : p = 1000000 := by rw [← hp]
        repeat' ((conv => whnf); first | refine ngo ?_ | refine VB.tt ?_ | refine VB.ff ?_ | refine VNew.keep ?_ | refine dgo ?_ | refine sgo ?_ | fail)
        conv => whnf
        rw [en, Nat.mul_one, getInt_limbs, hx]
        refine VB.dec (fun h5 => ?_) (fun h5 => ?_)
        · repeat' ((conv => whnf); first | refine ngo ?_ | refine VB.tt ?_ | refine VB.ff ?_ | refine VNew.keep ?_ | refine dgo ?_ | refine sgo ?_ | fail)
          conv => whnf
          refine ⟨7, by omega, by omega, ⟨⟨rfl, by simp only [lk]; exact congrArg (fun z => some (AV.int .i64 z)) (by omega), rfl, rfl, trivial⟩, rfl, rfl⟩⟩
        · repeat' ((conv => whnf); first | refine ngo ?_ | refine VB.tt ?_ | refine VB.ff ?_ | refine VNew.keep ?_ | refine dgo ?_ | refine sgo ?_ | fail)
          conv => whnf
          refine ⟨7, by omega, by omega, ⟨⟨rfl, by simp only [lk]; exact congrArg (fun z => some (AV.int .i64 z)) (by omega), rfl, rfl, trivial⟩, rfl, rfl⟩⟩
      · generalize hp : (10 : Nat) ^ 7 = p at h4
        have hp : p = 10000000 := by rw [← hp]
        repeat' ((conv => whnf); first | refine ngo ?_ | refine VB.tt ?_ | refine VB.ff ?_ | refine VNew.keep ?_ | refine dgo ?_ | refine sgo ?_ | fail)
        conv => whnf
        rw [en, Nat.mul_one, getInt_limbs, hx]
        refine VB.dec (fun h5 => ?_) (fun h5 => ?_)
        · repeat' ((conv => whnf); first | refine ngo ?_ | refine VB.tt ?_ | refine VB.ff ?_ | refine VNew.keep ?_ | refine dgo ?_ | refine sgo ?_ | fail)
          conv => whnf
          refine ⟨8, by omega, by omega, ⟨⟨rfl, by simp only [lk]; exact congrArg (fun z => some (AV.int .i64 z)) (by omega), rfl, rfl, trivial⟩, rfl, rfl⟩⟩
        · repeat' ((conv => whnf); first | refine ngo ?_ | refine VB.tt ?_ | refine VB.ff ?_ | refine VNew.keep ?_ | refine dgo ?_ | refine sgo ?_ | fail)
          conv => whnf
          refine ⟨8, by omega, by omega, ⟨⟨rfl, by simp only [lk]; exact congrArg (fun z => some (AV.int .i64 z)) (by omega), rfl, rfl, trivial⟩, rfl, rfl⟩⟩
      · generalize hp : (10 : Nat) ^ 8 = p at h4
        have hp : p = 100000000 := by rw [← hp]
        repeat' ((conv => whnf); first | refine ngo ?_ | refine VB.tt ?_ | refine VB.ff ?_ | refine VNew.keep ?_ | refine dgo ?_ | refine sgo ?_ | fail)
        conv => whnf
        rw [en, Nat.mul_one, getInt_limbs, hx]
        refine VB.dec (fun h5 => ?_) (fun h5 => ?_)
        · repeat' ((conv => whnf); first | refine ngo ?_ | refine VB.tt ?_ | refine VB.ff ?_ | refine VNew.keep ?_ | refine dgo ?_ | refine sgo ?_ | fail)
          conv => whnf
          refine ⟨9, by omega, by omega, ⟨⟨rfl, by simp only [lk]; exact congrArg (fun z => some (AV.int .i64 z)) (by omega), rfl, rfl, trivial⟩, rfl, rfl⟩⟩
        · repeat' ((conv => whnf); first | refine ngo ?_ | refine VB.tt ?_ | refine VB.ff ?_ | refine VNew.keep ?_ | refine dgo ?_ | refine sgo ?_ | fail)
          conv => whnf
          refine ⟨9, by omega, by omega, ⟨⟨rfl, by simp only [lk]; exact congrArg (fun z => some (AV.int .i64 z)) (by omega), rfl, rfl, trivial⟩, rfl, rfl⟩⟩
    · repeat' ((conv => whnf); first | refine ngo ?_ | refine VB.tt ?_ | refine VB.ff ?_ | refine VNew.keep ?_ | refine dgo ?_ | refine sgo ?_ | fail)
      conv => whnf
      rw [h2]
      congr 2
      omega
end Go.Proofs.YtcdnonggajoghaaDoor


/- Contracts: the reference's products and differences. -/
namespace Go.Proofs.YtcdnonggajoghaaDoor
open Go Go.RowKit
set_option linter.unusedVariables false
set_option linter.unusedSimpArgs false
set_option maxRecDepth 100000

theorem rtrim_nil {H : Heap} : VCall EE 56 [.nsl] H fun v H' => H' = H ∧ v = .nsl := by
  refine VCall.of_body true Tryd.func56 rfl (by decide) rfl ?_
  repeat' ((conv => whnf); first | refine ngo ?_ | refine VB.tt ?_ | refine VB.ff ?_ | refine VNew.keep ?_ | refine dgo ?_ | refine sgo ?_ | fail)
  conv => whnf
  refine VLoop.ix true (fun k : Nat => ⟨[(0, .nsl)], H, []⟩) (fun k => True) id 0 trivial ⟨⟨rfl, trivial⟩, rfl, rfl⟩ ?_
  rintro k hk
  repeat' ((conv => whnf); first | refine ngo ?_ | refine VB.tt ?_ | refine VB.ff ?_ | refine VNew.keep ?_ | refine dgo ?_ | refine sgo ?_ | fail)
  conv => whnf
  exact to_forceH ⟨rfl, rfl⟩

/-- A number in a block of its own, or none. -/
def accR (l : List Nat) (k : Nat) : AV := match l with
  | [] => .nsl
  | x :: l => .osl 0 l.length 0 k 1

end Go.Proofs.YtcdnonggajoghaaDoor


/- Contracts: the reference's quotients, the estimate. -/
namespace Go.Proofs.YtcdnonggajoghaaDoor
open Go Go.RowKit
set_option linter.unusedVariables false
set_option linter.unusedSimpArgs false
set_option maxRecDepth 100000

structure OvC (f n lq A V top : Nat) : Prop where
  hf1 : 1 ≤ f
  hf2 : f < BB
  hn : 1 ≤ n
  hnn : n = (dg V).length
  hn2 : n < 9000000
  hlq2 : lq < 20000000
  hlq : lq + n = (dg A).length + 1
  htop : top < BB
  htop0 : top ≠ 0
  hV : top * BB ^ (n - 1) ≤ V
  hV0 : 0 < V
  hVpow : V < BB ^ n

def oFr (f n lq A V top : Nat) (i : Int) (r : AV) : Fr := [(0, natv A), (1, natv V), (4, .osl 0 0 0 lq 1), (5, r), (6, .dsl (limbs [f]) 1), (7, .int .u64 top), (8, .int .i64 n), (9, .int .i64 i)]

end Go.Proofs.YtcdnonggajoghaaDoor


/- Contracts: the reference's quotients, the digits. -/
namespace Go.Proofs.YtcdnonggajoghaaDoor
open Go Go.RowKit
set_option linter.unusedVariables false
set_option linter.unusedSimpArgs false
set_option maxRecDepth 100000

theorem over_est {V top P W : Nat} (hV : top * P ≤ V) (ht : 0 < top) (hP : 0 < P) : W / V ≤ W / P / top := by
  have hV0 : 0 < V := Nat.lt_of_lt_of_le (Nat.mul_pos ht hP) hV
  rw [Nat.le_div_iff_mul_le ht, Nat.le_div_iff_mul_le hP]
  have h1 := Nat.div_mul_le_self W V
  generalize W / V = q at *
  have h2 := Nat.mul_le_mul_left q hV
  rw [← Nat.mul_assoc] at h2
  omega

theorem over_step {A V Q R j aj W : Nat} (h : A / BB ^ (j + 1) = V * Q + R) (ha : aj = A / BB ^ j % BB) (hW : W = aj + BB * R) : A / BB ^ j = V * (W / V + BB * Q) + W % V := by
  have e1 : A / BB ^ j = BB * (A / BB ^ (j + 1)) + aj := by
    rw [ha, Nat.pow_succ, ← Nat.div_div_eq_div_mul]
    exact (Nat.div_add_mod _ _).symm
  have h2 := Nat.div_add_mod W V
  rw [e1, h, Nat.mul_add, Nat.mul_add]
  rw [hW] at h2 ⊢
  generalize (aj + BB * R) / V = w at *
  generalize (aj + BB * R) % V = r at *
  rw [Nat.mul_left_comm]
  omega

/-- The rest in the second block, or none. -/
def accR1 (l : List Nat) (k : Nat) : AV := match l with
  | [] => .nsl
  | x :: l => .osl 1 l.length 0 k 1
def oSt (f n lq A V top : Nat) (j : Nat) (q rl : List Nat) : St := match j with
  | 0 => ⟨oFr f n lq A V top (-1) (accR1 rl (dg (val rl)).length), .cells 0 30 (limbs q) :: accH 30 rl, []⟩
  | j + 1 => ⟨oFr f n lq A V top (j : Nat) (natL rl), [.cells 0 30 (limbs q)], []⟩

end Go.Proofs.YtcdnonggajoghaaDoor


/- Contracts: the reference's quotients, whole. -/
namespace Go.Proofs.YtcdnonggajoghaaDoor
open Go Go.RowKit
set_option linter.unusedVariables false
set_option linter.unusedSimpArgs false
set_option maxRecDepth 100000

theorem dg_one {f : Nat} (h1 : 1 ≤ f) (h2 : f < BB) : natv f = .dsl (limbs [f]) 1 := by
  rw [natv, dg_pos (by omega), Nat.mod_eq_of_lt h2, Nat.div_eq_of_lt h2, dg_zero]
  rfl

end Go.Proofs.YtcdnonggajoghaaDoor


/- Contracts: the document's calls for quotients, divisors and multiples. -/
namespace Go.Proofs.YtcdnonggajoghaaDoor
open Go Go.RowKit
set_option linter.unusedVariables false
set_option linter.unusedSimpArgs false
set_option maxRecDepth 100000

theorem dg_len_zero {n : Nat} (h : (dg n).length = 0) : n = 0 := dg_eq_nil.1 (List.length_eq_zero_iff.1 h)

/-- What a quotient and a remainder are, or which error. -/
def divR (a b : List Nat) : AV := if both2 a b = 0 then (if val b = 0 then .tup [natv 0, natv 0, .int .i64 6] else .tup [natv (val a / val b), natv (val a % val b), .int .i64 0]) else .tup [natv 0, natv 0, .int .i64 (both2 a b)]

theorem val_zero_nil {b : List Nat} (hb : canon b) : val b = 0 ↔ b = [] := by
  constructor
  · intro h; rw [← dg_val hb, h, dg_zero]
  · rintro rfl; rfl

theorem ndiv_c (a b : List Nat) (la : a.length < 1000000000000000000) (lb : b.length < 1000000000000000000) : VCall EE 32 [natL a, natL b] [] fun v H => Fz H 0 [] v (divR a b) := by
  refine VCall.of_body true Tryd.func32 rfl (by decide) rfl ?_
  repeat' ((conv => whnf); first | refine ngo ?_ | refine VB.tt ?_ | refine VB.ff ?_ | refine dgo ?_ | refine sgo ?_ | fail)
  conv => whnf
  refine VNew.dat (cs' := [natL a, natL b]) rfl rfl ?_
  repeat' ((conv => whnf); first | refine ngo ?_ | refine VB.tt ?_ | refine VB.ff ?_ | refine VNew.keep ?_ | refine dgo ?_ | refine sgo ?_ | fail)
  conv => whnf
  refine VCall.s (checked_c a b la lb) ?_
  repeat' ((conv => whnf); first | refine ngo ?_ | refine VB.tt ?_ | refine VB.ff ?_ | refine VNew.keep ?_ | refine dgo ?_ | refine sgo ?_ | fail)
  conv => whnf
  refine VB.ne (fun h => ?_) (fun h => ?_)
  · repeat' ((conv => whnf); first | refine ngo ?_ | refine VB.tt ?_ | refine VB.ff ?_ | refine VNew.keep ?_ | refine dgo ?_ | refine sgo ?_ | fail)
    conv => whnf
    rw [divR, if_neg h]
    repeat' (first | exact fz_nil0 | exact Fz.nsl | exact Fz.same rfl (by repeat' (first | exact trivial | exact low_natL 0 _ | exact low_limbs 0 _ | refine And.intro ?_ ?_ | fail)) | refine Fz.tup ?_ | refine FzL.cons ?_ ?_ | exact FzL.nil | fail)
  · obtain ⟨h1, h2⟩ := both2_zero h
    obtain ⟨ca, la⟩ := chk_zero h1
    obtain ⟨cb, lb⟩ := chk_zero h2
    repeat' ((conv => whnf); first | refine ngo ?_ | refine VB.tt ?_ | refine VB.ff ?_ | refine VNew.keep ?_ | refine dgo ?_ | refine sgo ?_ | fail)
    conv => whnf
    refine VB.eq (fun h3 => ?_) (fun h3 => ?_)
    · have h4 : b = [] := List.length_eq_zero_iff.1 (by omega)
      repeat' ((conv => whnf); first | refine ngo ?_ | refine VB.tt ?_ | refine VB.ff ?_ | refine VNew.keep ?_ | refine dgo ?_ | refine sgo ?_ | fail)
      conv => whnf
      rw [divR, if_pos h, if_pos ((val_zero_nil cb).2 h4)]
      repeat' (first | exact fz_nil0 | exact Fz.nsl | exact Fz.same rfl (by repeat' (first | exact trivial | exact low_natL 0 _ | exact low_limbs 0 _ | refine And.intro ?_ ?_ | fail)) | refine Fz.tup ?_ | refine FzL.cons ?_ ?_ | exact FzL.nil | fail)
    · have h4 : b ≠ [] := fun e => h3 (by rw [e]; rfl)
      repeat' ((conv => whnf); first | refine ngo ?_ | refine VB.tt ?_ | refine VB.ff ?_ | refine VNew.keep ?_ | refine dgo ?_ | refine sgo ?_ | fail)
      conv => whnf
      refine VCall.i (divide_c ca cb h4 (by omega) (by omega)) ?_
      repeat' ((conv => whnf); first | refine ngo ?_ | refine VB.tt ?_ | refine VB.ff ?_ | refine VNew.keep ?_ | refine dgo ?_ | refine sgo ?_ | fail)
      conv => whnf
      rw [divR, if_pos h, if_neg (fun e => h4 ((val_zero_nil cb).1 e))]
      repeat' (first | exact fz_nil0 | exact Fz.nsl | exact Fz.same rfl (by repeat' (first | exact trivial | exact low_natL 0 _ | exact low_limbs 0 _ | refine And.intro ?_ ?_ | fail)) | refine Fz.tup ?_ | refine FzL.cons ?_ ?_ | exact FzL.nil | fail)

theorem canon_natL {a : List Nat} (h : canon a) : natL a = natv (val a) := natv_of h

theorem ngcd1_c {a b : List Nat} (ca : canon a) (cb : canon b) (la : a.length ≤ 1024) (lb : b.length ≤ 1024) : VCall EE 48 [natL a, natL b] [] fun v H => Fz H 0 [] v (.tup [natv (Nat.gcd (val a) (val b)), .int .i64 0]) := by
  refine VCall.of_body true Tryd.func48 rfl (by decide) rfl ?_
  have hc := common_n (a := val a) (b := val b) (by rw [dg_val ca]; omega) (by rw [dg_val cb]; omega)
  rw [← canon_natL ca, ← canon_natL cb] at hc
  repeat' ((conv => whnf); first | refine ngo ?_ | refine VB.tt ?_ | refine VB.ff ?_ | refine VNew.keep ?_ | refine dgo ?_ | refine sgo ?_ | fail)
  conv => whnf
  refine VCall.i (hc) ?_
  repeat' ((conv => whnf); first | refine ngo ?_ | refine VB.tt ?_ | refine VB.ff ?_ | refine VNew.keep ?_ | refine dgo ?_ | refine sgo ?_ | fail)
  conv => whnf
  repeat' (first | exact fz_nil0 | exact Fz.nsl | exact Fz.same rfl (by repeat' (first | exact trivial | exact low_natL 0 _ | exact low_limbs 0 _ | refine And.intro ?_ ?_ | fail)) | refine Fz.tup ?_ | refine FzL.cons ?_ ?_ | exact FzL.nil | fail)

theorem ngcd_c (a b : List Nat) (la : a.length < 1000000000000000000) (lb : b.length < 1000000000000000000) : VCall EE 23 [natL a, natL b] [] fun v H => Fz H 0 [] v (res2 a b (Nat.gcd (val a) (val b)) 0) := by
  refine VCall.of_body true Tryd.func23 rfl (by decide) rfl ?_
  repeat' ((conv => whnf); first | refine ngo ?_ | refine VB.tt ?_ | refine VB.ff ?_ | refine VNew.keep ?_ | refine dgo ?_ | refine sgo ?_ | fail)
  conv => whnf
  refine VCall.i (with_c la lb (fun h => ngcd1_c (chk_zero (both2_zero h).1).1 (chk_zero (both2_zero h).2).1 (chk_zero (both2_zero h).1).2 (chk_zero (both2_zero h).2).2)) ?_
  repeat' ((conv => whnf); first | refine ngo ?_ | refine VB.tt ?_ | refine VB.ff ?_ | refine VNew.keep ?_ | refine dgo ?_ | refine sgo ?_ | fail)
  conv => whnf
  repeat' (first | exact fz_nil0 | exact Fz.nsl | exact Fz.same rfl (by repeat' (first | exact trivial | exact low_natL 0 _ | exact low_limbs 0 _ | refine And.intro ?_ ?_ | fail)) | refine Fz.tup ?_ | refine FzL.cons ?_ ?_ | exact FzL.nil | fail)

theorem gcd_len {a b : List Nat} (ca : canon a) (cb : canon b) (la : a.length ≤ 1024) (lb : b.length ≤ 1024) : (dg (Nat.gcd (val a) (val b))).length ≤ 1024 := by
  rcases Nat.eq_zero_or_pos (val a) with h | h
  · rw [h, Nat.gcd_zero_left, dg_val cb]; exact lb
  · have := dg_length_mono (Nat.gcd_le_left (val b) h)
    rw [dg_val ca] at this
    omega

/-- The least common multiple: the number, and which error. -/
def lcmN (a b : Nat) : Nat := if 1024 < (dg (Nat.lcm a b)).length then 0 else Nat.lcm a b
def lcmE (a b : Nat) : Int := if 1024 < (dg (Nat.lcm a b)).length then 5 else 0
theorem lcm_alt {a b : Nat} : Nat.lcm a b = a / Nat.gcd a b * b := by
  rw [Nat.lcm, Nat.div_mul_right_comm (Nat.gcd_dvd_left a b)]

theorem lcm_len {a b : List Nat} (ca : canon a) (cb : canon b) (la : a.length ≤ 1024) (lb : b.length ≤ 1024) : (dg (Nat.lcm (val a) (val b))).length ≤ 2048 := by
  have h1 := dg_length_mono (Nat.mul_le_mul_right (val b) (Nat.div_le_self (val a) (Nat.gcd (val a) (val b))))
  have h2 := dg_mul_le (val a) (val b)
  rw [dg_val ca, dg_val cb] at h2
  rw [lcm_alt]
  omega

theorem nlcm1_c {a b : List Nat} (ca : canon a) (cb : canon b) (la : a.length ≤ 1024) (lb : b.length ≤ 1024) : VCall EE 50 [natL a, natL b] [] fun v H => Fz H 0 [] v (.tup [natv (lcmN (val a) (val b)), .int .i64 (lcmE (val a) (val b))]) := by
  refine VCall.of_body true Tryd.func50 rfl (by decide) rfl ?_
  repeat' ((conv => whnf); first | refine ngo ?_ | refine VB.tt ?_ | refine VB.ff ?_ | refine VNew.keep ?_ | refine dgo ?_ | refine sgo ?_ | fail)
  conv => whnf
  by_cases h1 : a = []
  · subst h1
    repeat' ((conv => whnf); first | refine ngo ?_ | refine VB.tt ?_ | refine VB.ff ?_ | refine VNew.keep ?_ | refine dgo ?_ | refine sgo ?_ | fail)
    conv => whnf
    rw [lcmN, lcmE, show val ([] : List Nat) = 0 from rfl, Nat.lcm_zero_left, dg_zero, if_neg (by decide), if_neg (by decide)]
    repeat' (first | exact fz_nil0 | exact Fz.nsl | exact Fz.same rfl (by repeat' (first | exact trivial | exact low_natL 0 _ | exact low_limbs 0 _ | refine And.intro ?_ ?_ | fail)) | refine Fz.tup ?_ | refine FzL.cons ?_ ?_ | exact FzL.nil | fail)
  · have h1' : a.length ≠ 0 := fun e => h1 (List.length_eq_zero_iff.1 e)
    have ha0 : val a ≠ 0 := fun e => h1 ((val_zero_nil ca).1 e)
    rw [show ((a.length : Int) == 0) = false by simpa using h1']
    repeat' ((conv => whnf); first | refine ngo ?_ | refine VB.tt ?_ | refine VB.ff ?_ | refine VNew.keep ?_ | refine dgo ?_ | refine sgo ?_ | fail)
    conv => whnf
    refine VB.eq (fun h2 => ?_) (fun h2 => ?_)
    · have h2 : b = [] := List.length_eq_zero_iff.1 (by omega)
      subst h2
      repeat' ((conv => whnf); first | refine ngo ?_ | refine VB.tt ?_ | refine VB.ff ?_ | refine VNew.keep ?_ | refine dgo ?_ | refine sgo ?_ | fail)
      conv => whnf
      rw [lcmN, lcmE, show val ([] : List Nat) = 0 from rfl, Nat.lcm_zero_right, dg_zero, if_neg (by decide), if_neg (by decide)]
      repeat' (first | exact fz_nil0 | exact Fz.nsl | exact Fz.same rfl (by repeat' (first | exact trivial | exact low_natL 0 _ | exact low_limbs 0 _ | refine And.intro ?_ ?_ | fail)) | refine Fz.tup ?_ | refine FzL.cons ?_ ?_ | exact FzL.nil | fail)
    · have hc := common_n (a := val a) (b := val b) (by rw [dg_val ca]; omega) (by rw [dg_val cb]; omega)
      rw [← canon_natL ca, ← canon_natL cb] at hc
      have hl := gcd_len ca cb la lb
      have hll := lcm_len ca cb la lb
      have hf := fits_c (n := Nat.lcm (val a) (val b)) (by omega)
      have hql : (dg (val a / Nat.gcd (val a) (val b))).length ≤ 1024 := by
        have := dg_length_mono (Nat.div_le_self (val a) (Nat.gcd (val a) (val b)))
        rw [dg_val ca] at this
        omega
      rw [lcm_alt] at hf
      have hpr := product_n (a := val a / Nat.gcd (val a) (val b)) (b := val b) (by omega) (by rw [dg_val cb]; omega)
      rw [← canon_natL cb] at hpr
      have hdv := divide_n (a := val a) (b := Nat.gcd (val a) (val b)) (fun e => ha0 (Nat.gcd_eq_zero_iff.1 e).1) (by rw [dg_val ca]; omega) (by omega)
      rw [← canon_natL ca] at hdv
      repeat' ((conv => whnf); first | refine ngo ?_ | refine VB.tt ?_ | refine VB.ff ?_ | refine VNew.keep ?_ | refine dgo ?_ | refine sgo ?_ | fail)
      conv => whnf
      refine VCall.i (hc) ?_
      repeat' ((conv => whnf); first | refine ngo ?_ | refine VB.tt ?_ | refine VB.ff ?_ | refine VNew.keep ?_ | refine dgo ?_ | refine sgo ?_ | fail)
      conv => whnf
      refine VCall.i (hdv) ?_
      repeat' ((conv => whnf); first | refine ngo ?_ | refine VB.tt ?_ | refine VB.ff ?_ | refine VNew.keep ?_ | refine dgo ?_ | refine sgo ?_ | fail)
      conv => whnf
      refine VCall.i (hpr) ?_
      repeat' ((conv => whnf); first | refine ngo ?_ | refine VB.tt ?_ | refine VB.ff ?_ | refine VNew.keep ?_ | refine dgo ?_ | refine sgo ?_ | fail)
      conv => whnf
      refine VCall.i (hf) ?_
      repeat' ((conv => whnf); first | refine ngo ?_ | refine VB.tt ?_ | refine VB.ff ?_ | refine VNew.keep ?_ | refine dgo ?_ | refine sgo ?_ | fail)
      conv => whnf
      rw [lcmN, lcmE, lcm_alt]
      repeat' (first | exact fz_nil0 | exact Fz.nsl | exact Fz.same rfl (by repeat' (first | exact trivial | exact low_natL 0 _ | exact low_limbs 0 _ | refine And.intro ?_ ?_ | fail)) | refine Fz.tup ?_ | refine FzL.cons ?_ ?_ | exact FzL.nil | fail)

theorem nlcm_c (a b : List Nat) (la : a.length < 1000000000000000000) (lb : b.length < 1000000000000000000) : VCall EE 24 [natL a, natL b] [] fun v H => Fz H 0 [] v (res2 a b (lcmN (val a) (val b)) (lcmE (val a) (val b))) := by
  refine VCall.of_body true Tryd.func24 rfl (by decide) rfl ?_
  repeat' ((conv => whnf); first | refine ngo ?_ | refine VB.tt ?_ | refine VB.ff ?_ | refine VNew.keep ?_ | refine dgo ?_ | refine sgo ?_ | fail)
  conv => whnf
  refine VCall.i (with_c la lb (fun h => nlcm1_c (chk_zero (both2_zero h).1).1 (chk_zero (both2_zero h).2).1 (chk_zero (both2_zero h).1).2 (chk_zero (both2_zero h).2).2)) ?_
  repeat' ((conv => whnf); first | refine ngo ?_ | refine VB.tt ?_ | refine VB.ff ?_ | refine VNew.keep ?_ | refine dgo ?_ | refine sgo ?_ | fail)
  conv => whnf
  repeat' (first | exact fz_nil0 | exact Fz.nsl | exact Fz.same rfl (by repeat' (first | exact trivial | exact low_natL 0 _ | exact low_limbs 0 _ | refine And.intro ?_ ?_ | fail)) | refine Fz.tup ?_ | refine FzL.cons ?_ ?_ | exact FzL.nil | fail)

end Go.Proofs.YtcdnonggajoghaaDoor


/- Contracts: the law's own helpers. -/
namespace Go.Proofs.YtcdnonggajoghaaDoor
open Go Go.RowKit
set_option linter.unusedVariables false
set_option linter.unusedSimpArgs false
set_option maxRecDepth 100000

theorem long_c (a : List Nat) (most : Nat) : VCall EE 7 [natL a, .int .i64 most] [] fun v H => v = .bool (decide ((most < a.length ∧ a.length ≤ 1024) ∨ 1100 < a.length)) := by
  refine VCall.of_body true Tryd.func7 rfl (by decide) rfl ?_
  repeat' ((conv => whnf); first | refine ngo ?_ | refine VB.tt ?_ | refine VB.ff ?_ | refine VNew.keep ?_ | refine dgo ?_ | refine sgo ?_ | fail)
  conv => whnf
  by_cases h1 : (a.length : Int) > (most : Int)
  · rw [decide_eq_true h1]
    repeat' ((conv => whnf); first | refine ngo ?_ | refine VB.tt ?_ | refine VB.ff ?_ | refine VNew.keep ?_ | refine dgo ?_ | refine sgo ?_ | fail)
    conv => whnf
    by_cases h2 : (a.length : Int) ≤ 1024
    · rw [decide_eq_true h2]
      repeat' ((conv => whnf); first | refine ngo ?_ | refine VB.tt ?_ | refine VB.ff ?_ | refine VNew.keep ?_ | refine dgo ?_ | refine sgo ?_ | fail)
      conv => whnf
      rw [decide_eq_true (by omega)]
    · rw [decide_eq_false h2]
      repeat' ((conv => whnf); first | refine ngo ?_ | refine VB.tt ?_ | refine VB.ff ?_ | refine VNew.keep ?_ | refine dgo ?_ | refine sgo ?_ | fail)
      conv => whnf
      by_cases h3 : (a.length : Int) > 1100
      · rw [decide_eq_true h3, decide_eq_true (by omega)]
      · rw [decide_eq_false h3, decide_eq_false (by omega)]
  · rw [decide_eq_false h1]
    repeat' ((conv => whnf); first | refine ngo ?_ | refine VB.tt ?_ | refine VB.ff ?_ | refine VNew.keep ?_ | refine dgo ?_ | refine sgo ?_ | fail)
    conv => whnf
    by_cases h3 : (a.length : Int) > 1100
    · rw [decide_eq_true h3, decide_eq_true (by omega)]
    · rw [decide_eq_false h3, decide_eq_false (by omega)]

theorem nof_c (n : Int) (h1 : -9223372036854775808 ≤ n) (h2 : n < 9223372036854775808) : VCall EE 9 [.int .i64 n] [] fun v H => Fz H 0 [] v (.tup [natv n.toNat, .int .i64 (if n < 0 then 2 else 0)]) := by
  refine VCall.of_body true Tryd.func9 rfl (by decide) rfl ?_
  repeat' ((conv => whnf); first | refine ngo ?_ | refine VB.tt ?_ | refine VB.ff ?_ | refine VNew.keep ?_ | refine dgo ?_ | refine sgo ?_ | fail)
  conv => whnf
  refine VB.dec (fun h => ?_) (fun h => ?_)
  · repeat' ((conv => whnf); first | refine ngo ?_ | refine VB.tt ?_ | refine VB.ff ?_ | refine VNew.keep ?_ | refine dgo ?_ | refine sgo ?_ | fail)
    conv => whnf
    rw [if_pos h, show n.toNat = 0 by omega]
    repeat' (first | exact fz_nil0 | exact Fz.nsl | exact Fz.same rfl (by repeat' (first | exact trivial | exact low_natL 0 _ | exact low_limbs 0 _ | refine And.intro ?_ ?_ | fail)) | refine Fz.tup ?_ | refine FzL.cons ?_ ?_ | exact FzL.nil | fail)
  · obtain ⟨k, rfl⟩ : ∃ k : Nat, n = (k : Int) := ⟨n.toNat, by omega⟩
    repeat' ((conv => whnf); first | refine ngo ?_ | refine VB.tt ?_ | refine VB.ff ?_ | refine VNew.keep ?_ | refine dgo ?_ | refine sgo ?_ | fail)
    conv => whnf
    refine VCall.i (of_c k (by omega)) ?_
    repeat' ((conv => whnf); first | refine ngo ?_ | refine VB.tt ?_ | refine VB.ff ?_ | refine VNew.keep ?_ | refine dgo ?_ | refine sgo ?_ | fail)
    conv => whnf
    rw [if_neg h, Int.toNat_natCast]
    repeat' (first | exact fz_nil0 | exact Fz.nsl | exact Fz.same rfl (by repeat' (first | exact trivial | exact low_natL 0 _ | exact low_limbs 0 _ | refine And.intro ?_ ?_ | fail)) | refine Fz.tup ?_ | refine FzL.cons ?_ ?_ | exact FzL.nil | fail)

def mulN (a b : Nat) : Nat := if 1024 < (dg (a * b)).length then 0 else a * b
def mulE (a b : Nat) : Int := if 1024 < (dg (a * b)).length then 5 else 0
theorem mul_len {a b : List Nat} (ca : canon a) (cb : canon b) (la : a.length ≤ 1024) (lb : b.length ≤ 1024) : (dg (val a * val b)).length ≤ 2048 := by
  have h2 := dg_mul_le (val a) (val b)
  rw [dg_val ca, dg_val cb] at h2
  omega

theorem nmul1_c {a b : List Nat} (ca : canon a) (cb : canon b) (la : a.length ≤ 1024) (lb : b.length ≤ 1024) : VCall EE 57 [natL a, natL b] [] fun v H => Fz H 0 [] v (.tup [natv (mulN (val a) (val b)), .int .i64 (mulE (val a) (val b))]) := by
  refine VCall.of_body true Tryd.func57 rfl (by decide) rfl ?_
  have hp := product_n (a := val a) (b := val b) (by rw [dg_val ca]; omega) (by rw [dg_val cb]; omega)
  rw [← canon_natL ca, ← canon_natL cb] at hp
  have hl := mul_len ca cb la lb
  repeat' ((conv => whnf); first | refine ngo ?_ | refine VB.tt ?_ | refine VB.ff ?_ | refine VNew.keep ?_ | refine dgo ?_ | refine sgo ?_ | fail)
  conv => whnf
  refine VCall.i (hp) ?_
  repeat' ((conv => whnf); first | refine ngo ?_ | refine VB.tt ?_ | refine VB.ff ?_ | refine VNew.keep ?_ | refine dgo ?_ | refine sgo ?_ | fail)
  conv => whnf
  refine VCall.i (fits_c (by omega)) ?_
  repeat' ((conv => whnf); first | refine ngo ?_ | refine VB.tt ?_ | refine VB.ff ?_ | refine VNew.keep ?_ | refine dgo ?_ | refine sgo ?_ | fail)
  conv => whnf
  rw [mulN, mulE]
  repeat' (first | exact fz_nil0 | exact Fz.nsl | exact Fz.same rfl (by repeat' (first | exact trivial | exact low_natL 0 _ | exact low_limbs 0 _ | refine And.intro ?_ ?_ | fail)) | refine Fz.tup ?_ | refine FzL.cons ?_ ?_ | exact FzL.nil | fail)

theorem nmul_c (a b : List Nat) (la : a.length < 1000000000000000000) (lb : b.length < 1000000000000000000) : VCall EE 31 [natL a, natL b] [] fun v H => Fz H 0 [] v (res2 a b (mulN (val a) (val b)) (mulE (val a) (val b))) := by
  refine VCall.of_body true Tryd.func31 rfl (by decide) rfl ?_
  repeat' ((conv => whnf); first | refine ngo ?_ | refine VB.tt ?_ | refine VB.ff ?_ | refine VNew.keep ?_ | refine dgo ?_ | refine sgo ?_ | fail)
  conv => whnf
  refine VCall.i (with_c la lb (fun h => nmul1_c (chk_zero (both2_zero h).1).1 (chk_zero (both2_zero h).2).1 (chk_zero (both2_zero h).1).2 (chk_zero (both2_zero h).2).2)) ?_
  repeat' ((conv => whnf); first | refine ngo ?_ | refine VB.tt ?_ | refine VB.ff ?_ | refine VNew.keep ?_ | refine dgo ?_ | refine sgo ?_ | fail)
  conv => whnf
  repeat' (first | exact fz_nil0 | exact Fz.nsl | exact Fz.same rfl (by repeat' (first | exact trivial | exact low_natL 0 _ | exact low_limbs 0 _ | refine And.intro ?_ ?_ | fail)) | refine Fz.tup ?_ | refine FzL.cons ?_ ?_ | exact FzL.nil | fail)

theorem is_c {a w : List Nat} {e : Int} (la : a.length < 1000000000) (lw : w.length < 1000000000) : VCall EE 22 [natL a, .int .i64 e, natL w] [] fun v H => v = .bool (e == 0 && decide (a = w)) := by
  refine VCall.of_body true Tryd.func22 rfl (by decide) rfl ?_
  repeat' ((conv => whnf); first | refine ngo ?_ | refine VB.tt ?_ | refine VB.ff ?_ | refine VNew.keep ?_ | refine dgo ?_ | refine sgo ?_ | fail)
  conv => whnf
  cases h : (e == 0) with
  | true =>
    repeat' ((conv => whnf); first | refine ngo ?_ | refine VB.tt ?_ | refine VB.ff ?_ | refine VNew.keep ?_ | refine dgo ?_ | refine sgo ?_ | fail)
    conv => whnf
    refine VCall.s (alike_c la lw) ?_
    repeat' ((conv => whnf); first | refine ngo ?_ | refine VB.tt ?_ | refine VB.ff ?_ | refine VNew.keep ?_ | refine dgo ?_ | refine sgo ?_ | fail)
    conv => whnf
    rw [Bool.true_and]
  | false =>
    repeat' ((conv => whnf); first | refine ngo ?_ | refine VB.tt ?_ | refine VB.ff ?_ | refine VNew.keep ?_ | refine dgo ?_ | refine sgo ?_ | fail)
    conv => whnf
    rfl

theorem is_same {w : List Nat} (lw : w.length < 1000) : VCall EE 22 [natL w, .int .i64 0, natL w] [] fun v H => v = .bool true := by
  have h := is_c (a := w) (w := w) (e := 0) (by omega) (by omega)
  rwa [decide_eq_true rfl] at h

theorem alike_same (a : List Nat) (la : a.length < 1000000000) : VCall EE 11 [natL a, natL a] [] fun v H => v = .bool true := by
  have h := alike_c la la
  rwa [decide_eq_true rfl] at h

theorem natv_lit {w : List Nat} {n : Nat} (hw : canonB w = true) (hn : val w = n) : natv n = natL w := by
  rw [natv, ← hn, dg_val (canonB_iff.1 hw)]

theorem dg_len_of {n : Nat} {w : List Nat} (hw : canonB w = true) (hn : val w = n) : (dg n).length = w.length := by rw [← hn, dg_val (canonB_iff.1 hw)]

theorem awake_c : VCall EE 8 [] [] fun v H => v = .bool true := by
  refine VCall.of_body true Tryd.func8 rfl (by decide) rfl ?_
  repeat' ((conv => whnf); first | refine ngo ?_ | refine VB.tt ?_ | refine VB.ff ?_ | refine VNew.keep ?_ | refine dgo ?_ | refine sgo ?_ | fail)
  conv => whnf
  have h1 := nof_c 12345678901 (by decide) (by decide)
  rw [if_neg (by decide), show (12345678901 : Int).toNat = 12345678901 from rfl, natv_lit (w := [345678901, 12]) (by decide) (by decide)] at h1
  refine VCall.i (h1) ?_
  repeat' ((conv => whnf); first | refine ngo ?_ | refine VB.tt ?_ | refine VB.ff ?_ | refine dgo ?_ | refine sgo ?_ | fail)
  conv => whnf
  refine VNew.dat (cs' := limbs [999999999]) rfl rfl ?_
  repeat' ((conv => whnf); first | refine ngo ?_ | refine VB.tt ?_ | refine VB.ff ?_ | refine dgo ?_ | refine sgo ?_ | fail)
  conv => whnf
  refine VNew.dat (cs' := limbs [999999999]) rfl rfl ?_
  repeat' ((conv => whnf); first | refine ngo ?_ | refine VB.tt ?_ | refine VB.ff ?_ | refine VNew.keep ?_ | refine dgo ?_ | refine sgo ?_ | fail)
  conv => whnf
  have h2 := nmul_c [999999999] [999999999] (by decide) (by decide)
  rw [res2, show both2 [999999999] [999999999] = 0 by decide, if_pos rfl, if_pos rfl, mulN, mulE, show val [999999999] * val [999999999] = 999999998000000001 by decide, dg_len_of (w := [1, 999999998]) (by decide) (by decide), if_neg (by decide), if_neg (by decide), natv_lit (w := [1, 999999998]) (by decide) (by decide)] at h2
  show VCall EE _ [natL [999999999], natL [999999999]] [.gone, .gone] _
  refine VCall.i (h2) ?_
  repeat' ((conv => whnf); first | refine ngo ?_ | refine VB.tt ?_ | refine VB.ff ?_ | refine dgo ?_ | refine sgo ?_ | fail)
  conv => whnf
  refine VNew.dat (cs' := limbs [0, 0, 1]) rfl rfl ?_
  repeat' ((conv => whnf); first | refine ngo ?_ | refine VB.tt ?_ | refine VB.ff ?_ | refine dgo ?_ | refine sgo ?_ | fail)
  conv => whnf
  refine VNew.dat (cs' := limbs [7]) rfl rfl ?_
  repeat' ((conv => whnf); first | refine ngo ?_ | refine VB.tt ?_ | refine VB.ff ?_ | refine VNew.keep ?_ | refine dgo ?_ | refine sgo ?_ | fail)
  conv => whnf
  have h3 := ndiv_c [0, 0, 1] [7] (by decide) (by decide)
  rw [divR, show both2 [0, 0, 1] [7] = 0 by decide, if_pos rfl, if_neg (by decide), show val [0, 0, 1] / val [7] = 142857142857142857 by decide, show val [0, 0, 1] % val [7] = 1 by decide, natv_lit (n := 142857142857142857) (w := [857142857, 142857142]) (by decide) (by decide), natv_lit (n := 1) (w := [1]) (by decide) (by decide)] at h3
  show VCall EE _ [natL [0, 0, 1], natL [7]] [.gone, .gone, .gone, .gone] _
  refine VCall.i (h3) ?_
  repeat' ((conv => whnf); first | refine ngo ?_ | refine VB.tt ?_ | refine VB.ff ?_ | refine dgo ?_ | refine sgo ?_ | fail)
  conv => whnf
  refine VNew.dat (cs' := limbs [345678901, 12]) rfl rfl ?_
  repeat' ((conv => whnf); first | refine ngo ?_ | refine VB.tt ?_ | refine VB.ff ?_ | refine VNew.keep ?_ | refine dgo ?_ | refine sgo ?_ | fail)
  conv => whnf
  show VCall EE _ [natL [345678901, 12], .int .i64 0, natL [345678901, 12]] [.gone, .gone, .gone, .gone, .gone] _
  refine VCall.s (is_same (by decide)) ?_
  repeat' ((conv => whnf); first | refine ngo ?_ | refine VB.tt ?_ | refine VB.ff ?_ | refine dgo ?_ | refine sgo ?_ | fail)
  conv => whnf
  refine VNew.dat (cs' := limbs [1, 999999998]) rfl rfl ?_
  repeat' ((conv => whnf); first | refine ngo ?_ | refine VB.tt ?_ | refine VB.ff ?_ | refine VNew.keep ?_ | refine dgo ?_ | refine sgo ?_ | fail)
  conv => whnf
  show VCall EE _ [natL [1, 999999998], .int .i64 0, natL [1, 999999998]] [.gone, .gone, .gone, .gone, .gone, .gone] _
  refine VCall.s (is_same (by decide)) ?_
  repeat' ((conv => whnf); first | refine ngo ?_ | refine VB.tt ?_ | refine VB.ff ?_ | refine dgo ?_ | refine sgo ?_ | fail)
  conv => whnf
  refine VNew.dat (cs' := limbs [857142857, 142857142]) rfl rfl ?_
  repeat' ((conv => whnf); first | refine ngo ?_ | refine VB.tt ?_ | refine VB.ff ?_ | refine VNew.keep ?_ | refine dgo ?_ | refine sgo ?_ | fail)
  conv => whnf
  show VCall EE _ [natL [857142857, 142857142], .int .i64 0, natL [857142857, 142857142]] [.gone, .gone, .gone, .gone, .gone, .gone, .gone] _
  refine VCall.s (is_same (by decide)) ?_
  repeat' ((conv => whnf); first | refine ngo ?_ | refine VB.tt ?_ | refine VB.ff ?_ | refine dgo ?_ | refine sgo ?_ | fail)
  conv => whnf
  refine VNew.dat (cs' := limbs [1]) rfl rfl ?_
  repeat' ((conv => whnf); first | refine ngo ?_ | refine VB.tt ?_ | refine VB.ff ?_ | refine VNew.keep ?_ | refine dgo ?_ | refine sgo ?_ | fail)
  conv => whnf
  show VCall EE _ [natL [1], .int .i64 0, natL [1]] [.gone, .gone, .gone, .gone, .gone, .gone, .gone, .gone] _
  refine VCall.s (is_same (by decide)) ?_
  repeat' ((conv => whnf); first | refine ngo ?_ | refine VB.tt ?_ | refine VB.ff ?_ | refine VNew.keep ?_ | refine dgo ?_ | refine sgo ?_ | fail)
  conv => whnf

theorem divR_ex (a b : List Nat) (la : a.length < 10000) : ∃ q r : Nat, ∃ e : Int, divR a b = .tup [natv q, natv r, .int .i64 e] ∧ (dg q).length < 100000 ∧ (dg r).length < 100000 := by
  unfold divR
  split
  · rename_i h
    obtain ⟨h1, h2⟩ := both2_zero h
    obtain ⟨ca, la⟩ := chk_zero h1
    split
    · exact ⟨_, _, _, rfl, by rw [dg_zero]; decide, by rw [dg_zero]; decide⟩
    · refine ⟨_, _, _, rfl, ?_, ?_⟩
      · have := dg_length_mono (Nat.div_le_self (val a) (val b))
        rw [dg_val ca] at this
        omega
      · have := dg_length_mono (Nat.mod_le (val a) (val b))
        rw [dg_val ca] at this
        omega
  · exact ⟨_, _, _, rfl, by rw [dg_zero]; decide, by rw [dg_zero]; decide⟩

theorem lcmN_len (a b : Nat) : (dg (lcmN a b)).length ≤ 1024 := by
  unfold lcmN
  split
  · rw [dg_zero]; decide
  · omega
theorem res2_ex (a b : List Nat) (n : Nat) (hn : both2 a b = 0 → (dg n).length ≤ 1024) : ∃ g : Nat, (∀ e, res2 a b n e = .tup [natv g, .int .i64 (if both2 a b = 0 then e else both2 a b)]) ∧ (dg g).length ≤ 1024 := by
  refine ⟨_, fun e => rfl, ?_⟩
  split
  · exact hn (by assumption)
  · rw [dg_zero]; decide

end Go.Proofs.YtcdnonggajoghaaDoor


/- Contracts: sums and differences. -/
namespace Go.Proofs.YtcdnonggajoghaaDoor
open Go Go.RowKit
set_option linter.unusedVariables false
set_option linter.unusedSimpArgs false
set_option maxRecDepth 100000

theorem both_c {a b : List Nat} : VCall EE 59 [natL a, natL b] [] fun v H => Fz H 0 [] v (.fn (.func 69) [] [.dptr [natL a], .dptr [natL b]]) := by
  refine VCall.of_body true Tryd.func59 rfl (by decide) rfl ?_
  repeat' ((conv => whnf); first | refine ngo ?_ | refine VB.tt ?_ | refine VB.ff ?_ | refine VNew.keep ?_ | refine dgo ?_ | refine sgo ?_ | fail)
  conv => whnf
  exact .fn .nil (.cons (.ptr (Nat.zero_le _) (by simp) rfl (.cons (.same rfl (low_natL 0 a)) .nil)) (.cons (.ptr (Nat.zero_le _) (by simp) rfl (.cons (.same rfl (low_natL 0 b)) .nil)) .nil))

theorem both1_c {a b : List Nat} {H0 : Heap} {yb : Nat} (hyb : yb < H0.length) (la : a.length < 1000000000) (lb : b.length < 1000000000) (I : Nat → Heap → Prop) (h0 : I 0 H0)
    (hr : ∀ i H, i < max a.length b.length → I i H → VRound EE yb [.int .u64 ((a.getD i 0 : Nat) : Int), .int .u64 ((b.getD i 0 : Nat) : Int)] H fun v H' => v = .bool true ∧ ∃ H'', I (i + 1) H'' ∧ FzHp H' H0.length [] (List.range H0.length ++ []) H'')
    (ha : okL a) (hb : okL b) :
    VCall EE 69 [.yld yb, .dptr [natL a], .dptr [natL b]] H0 fun v H' => I (max a.length b.length) H' := by
  refine VCall.of_body true Tryd.func69 rfl (by decide) rfl ?_
  have hmx : (if (b.length : Int) > (a.length : Int) then (b.length : Int) else (a.length : Int)) = ((max a.length b.length : Nat) : Int) := by
    split <;> omega
  repeat' ((conv => whnf); first | refine ngo ?_ | refine VB.tt ?_ | refine VB.ff ?_ | refine VNew.keep ?_ | refine dgo ?_ | refine sgo ?_ | fail)
  conv => whnf
  refine VLoop.tr true (fun x : Nat × Heap => ⟨[(0, .yld yb), (1, .dptr [natL a]), (2, .dptr [natL b]), (11, .int .i64 ((max a.length b.length : Nat) : Int)), (12, .int .i64 x.1)], x.2, []⟩) (fun x => x.1 ≤ max a.length b.length ∧ I x.1 x.2) (fun x => max a.length b.length - x.1) (0, H0)
    ⟨Nat.zero_le _, h0⟩ ⟨⟨rfl, rfl, rfl, by simp only [lk]; rw [← hmx]; rfl, rfl, trivial⟩, rfl, rfl⟩ ?_
  rintro ⟨i, H⟩ ⟨hi, hI⟩
  dsimp only at hi hI ⊢
  repeat' ((conv => whnf); first | refine ngo ?_ | refine VB.tt ?_ | refine VB.ff ?_ | refine VNew.keep ?_ | refine dgo ?_ | refine sgo ?_ | fail)
  conv => whnf
  refine VB.dec (fun h => ?_) (fun h => ?_)
  · have hil : i < max a.length b.length := by omega
    have hx := getD_lt ha i
    have hy := getD_lt hb i
    have hBB : BB = 1000000000 := rfl
    have ga : getInt (List.drop ((i : Int).toNat * 1) (limbs a)) = ((a.getD i 0 : Nat) : Int) := by rw [Int.toNat_natCast, Nat.mul_one, getInt_limbs]
    have gb : getInt (List.drop ((i : Int).toNat * 1) (limbs b)) = ((b.getD i 0 : Nat) : Int) := by rw [Int.toNat_natCast, Nat.mul_one, getInt_limbs]
    have za : a.length ≤ i → (0 : Int) = ((a.getD i 0 : Nat) : Int) := fun h => by simp [List.getD_eq_getElem?_getD, h]
    have zb : b.length ≤ i → (0 : Int) = ((b.getD i 0 : Nat) : Int) := fun h => by simp [List.getD_eq_getElem?_getD, h]
    have hrr := hr i H hil hI
    generalize a.getD i 0 = x at *
    generalize b.getD i 0 = y at *
    repeat' ((conv => whnf); first | refine ngo ?_ | refine VB.tt ?_ | refine VB.ff ?_ | refine VNew.keep ?_ | refine dgo ?_ | refine sgo ?_ | fail)
    conv => whnf
    refine VB.dec (fun h1 => ?_) (fun h1 => ?_)
    · repeat' ((conv => whnf); first | refine ngo ?_ | refine VB.tt ?_ | refine VB.ff ?_ | refine VNew.keep ?_ | refine dgo ?_ | refine sgo ?_ | fail)
      conv => whnf
      rw [ga]
      repeat' ((conv => whnf); first | refine ngo ?_ | refine VB.tt ?_ | refine VB.ff ?_ | refine VNew.keep ?_ | refine dgo ?_ | refine sgo ?_ | fail)
      conv => whnf
      refine VB.dec (fun h2 => ?_) (fun h2 => ?_)
      · repeat' ((conv => whnf); first | refine ngo ?_ | refine VB.tt ?_ | refine VB.ff ?_ | refine VNew.keep ?_ | refine dgo ?_ | refine sgo ?_ | fail)
        conv => whnf
        rw [gb]
        repeat' ((conv => whnf); first | refine ngo ?_ | refine VB.tt ?_ | refine VB.ff ?_ | refine VNew.keep ?_ | refine dgo ?_ | refine sgo ?_ | fail)
        conv => whnf
        refine hrr.mono fun v H' hq => ?_
        obtain ⟨rfl, H'', hI2, hz⟩ := hq
        repeat' ((conv => whnf); first | refine ngo ?_ | refine VB.tt ?_ | refine VB.ff ?_ | refine VNew.keep ?_ | refine dgo ?_ | refine sgo ?_ | fail)
        conv => whnf
        exact ⟨(i + 1, H''), ⟨hil, hI2⟩, by dsimp only; omega, [], by simp, by simp, hz, FzFr.sub ⟨hyb, ⟨low_natL _ a, trivial⟩, ⟨low_natL _ b, trivial⟩, trivial, trivial, trivial⟩ ⟨rfl, rfl, rfl, rfl, by simp [lk], trivial⟩, rfl, by simp⟩
      · repeat' ((conv => whnf); first | refine ngo ?_ | refine VB.tt ?_ | refine VB.ff ?_ | refine VNew.keep ?_ | refine dgo ?_ | refine sgo ?_ | fail)
        conv => whnf
        rw [← zb (by omega)] at hrr
        refine hrr.mono fun v H' hq => ?_
        obtain ⟨rfl, H'', hI2, hz⟩ := hq
        repeat' ((conv => whnf); first | refine ngo ?_ | refine VB.tt ?_ | refine VB.ff ?_ | refine VNew.keep ?_ | refine dgo ?_ | refine sgo ?_ | fail)
        conv => whnf
        exact ⟨(i + 1, H''), ⟨hil, hI2⟩, by dsimp only; omega, [], by simp, by simp, hz, FzFr.sub ⟨hyb, ⟨low_natL _ a, trivial⟩, ⟨low_natL _ b, trivial⟩, trivial, trivial, trivial⟩ ⟨rfl, rfl, rfl, rfl, by simp [lk], trivial⟩, rfl, by simp⟩
    · repeat' ((conv => whnf); first | refine ngo ?_ | refine VB.tt ?_ | refine VB.ff ?_ | refine VNew.keep ?_ | refine dgo ?_ | refine sgo ?_ | fail)
      conv => whnf
      refine VB.dec (fun h2 => ?_) (fun h2 => ?_)
      · repeat' ((conv => whnf); first | refine ngo ?_ | refine VB.tt ?_ | refine VB.ff ?_ | refine VNew.keep ?_ | refine dgo ?_ | refine sgo ?_ | fail)
        conv => whnf
        rw [gb]
        repeat' ((conv => whnf); first | refine ngo ?_ | refine VB.tt ?_ | refine VB.ff ?_ | refine VNew.keep ?_ | refine dgo ?_ | refine sgo ?_ | fail)
        conv => whnf
        rw [← za (by omega)] at hrr
        refine hrr.mono fun v H' hq => ?_
        obtain ⟨rfl, H'', hI2, hz⟩ := hq
        repeat' ((conv => whnf); first | refine ngo ?_ | refine VB.tt ?_ | refine VB.ff ?_ | refine VNew.keep ?_ | refine dgo ?_ | refine sgo ?_ | fail)
        conv => whnf
        exact ⟨(i + 1, H''), ⟨hil, hI2⟩, by dsimp only; omega, [], by simp, by simp, hz, FzFr.sub ⟨hyb, ⟨low_natL _ a, trivial⟩, ⟨low_natL _ b, trivial⟩, trivial, trivial, trivial⟩ ⟨rfl, rfl, rfl, rfl, by simp [lk], trivial⟩, rfl, by simp⟩
      · exact absurd hil (by omega)
  · have : i = max a.length b.length := by omega
    subst this
    repeat' ((conv => whnf); first | refine ngo ?_ | refine VB.tt ?_ | refine VB.ff ?_ | refine VNew.keep ?_ | refine dgo ?_ | refine sgo ?_ | fail)
    conv => whnf
    exact to_forceH hI

def boxFr (a b : List Nat) (f : FuncId) (t : Tmp) : Fr := [(5, .ptr 1 0 0), (6, .ptr 2 0 0), (t, .fn (.func f) [] [.dptr [natL a], .dptr [natL b]])]
def sumH (l : List Nat) (ver c : Nat) (L : AObj) : Heap := [.cells ver 30 (limbs l), .cells 0 23 [.osl 0 ver 0 l.length 1], .cells 0 50 [.int .u64 c], .dfr, L]
theorem sum_own {a b : List Nat} (ha : okL a) (hb : okL b) (la : a.length < 10000000) (lb : b.length < 10000000) :
    VCall EE 45 [natL a, natL b] [] fun v H => Fz H 0 [] v (natv (val a + val b)) := by
  refine VCall.of_body true Tryd.func45 rfl (by decide) rfl ?_
  have hmx : (if (b.length : Int) > (a.length : Int) then (b.length : Int) else (a.length : Int)) = ((max a.length b.length : Nat) : Int) := by
    split <;> omega
  repeat' ((conv => whnf); first | refine ngo ?_ | refine VB.tt ?_ | refine VB.ff ?_ | refine VNew.keep ?_ | refine dgo ?_ | refine sgo ?_ | fail)
  conv => whnf
  rw [hmx]
  repeat' ((conv => whnf); first | refine ngo ?_ | refine VB.tt ?_ | refine VB.ff ?_ | refine VNew.keep ?_ | refine dgo ?_ | refine sgo ?_ | fail)
  conv => whnf
  refine VCall.i (both_c) ?_
  repeat' ((conv => whnf); first | refine VB.tt ?_ | refine VB.ff ?_ | refine VNew.keep ?_ | refine dgo ?_ | refine sgo ?_ | fail)
  conv => whnf
  refine VNext.at_ true ⟨boxFr a b 69 19, [.cells 0 30 [], .cells 0 23 [.osl 0 0 0 0 1], .cells 0 50 [.int .u64 (0 : Nat)]], []⟩ ⟨by (repeat' first | exact trivial | exact And.intro (by first | rfl | (simp [lk]; done)) trivial | refine And.intro (by first | rfl | (simp [lk]; done)) ?_), rfl, rfl⟩ ?_
  repeat' ((conv => whnf); first | refine ngo ?_ | refine VB.tt ?_ | refine VB.ff ?_ | refine VNew.keep ?_ | refine dgo ?_ | refine sgo ?_ | fail)
  conv => whnf
  refine VRange.out true (f := 69) (first := []) (cap := [.dptr [natL a], .dptr [natL b]]) rfl ?_
  obtain ⟨L, hL⟩ : ∃ L, L = rangeObj Tryd.f45 0 (boxFr a b 69 19) 3 := ⟨_, rfl⟩
  refine VCall.mono ?_ (both1_c (H0 := sumH [] 0 0 (rangeObj Tryd.f45 0 (boxFr a b 69 19) 3)) (yb := 4) (show 4 < 5 by decide) (by omega) (by omega) (fun i H => ∃ (l : List Nat) (c : Nat), l.length = i ∧ okL l ∧ c ≤ 1 ∧ val l + BB ^ i * c = val (a.take i) + val (b.take i) ∧ H = sumH l l.length c (rangeObj Tryd.f45 0 (boxFr a b 69 19) 3))
    ⟨[], 0, rfl, by intro x hx; simp at hx, Nat.zero_le _, by simp [val], rfl⟩ ?_ ha hb)
  · rintro v H ⟨l, c, hll, hok, hc, hv, rfl⟩
    rw [List.take_of_length_le (by omega), List.take_of_length_le (by omega), ← hll] at hv
    have hBB : BB = 1000000000 := rfl
    have gc : getInt (List.drop 0 [AV.int .u64 (c : Int)]) = (c : Int) := rfl
    have hnv : val (l ++ [c]) = val a + val b := by
      rw [val_append, ← hv]
      simp [val]
    have hnok : okL (l ++ [c]) := okL_append.2 ⟨hok, by intro z hz; rw [List.mem_singleton.1 hz]; omega⟩
    repeat' ((conv => whnf); first | refine ngo ?_ | refine VB.tt ?_ | refine VB.ff ?_ | refine VNew.keep ?_ | refine dgo ?_ | refine sgo ?_ | fail)
    conv => whnf
    rw [gc]
    repeat' ((conv => whnf); first | refine ngo ?_ | refine VB.tt ?_ | refine VB.ff ?_ | refine VNew.keep ?_ | refine dgo ?_ | refine sgo ?_ | fail)
    conv => whnf
    have e1 : List.take (l.length * 1) (limbs l) ++ [AV.int .u32 (c : Int)] = limbs (l ++ [c]) := by
      rw [Nat.mul_one, List.take_of_length_le (by simp [limbs]), limbs_append]; rfl
    have ht := trim_own0 (R := [.cells 0 23 [.osl 0 l.length 0 l.length 1], .cells 0 50 [.int .u64 c], .dfr, .gone, .cells 0 30 [.int .u32 (c : Int)]]) (ver := l.length + 1) (e := 30) hnok (by simp; omega)
    rw [← e1] at ht
    simp only [List.length_append, List.length_singleton] at ht
    refine ht.mono fun v H' hq => ?_
    obtain ⟨rfl, rfl⟩ := hq
    rw [hnv]
    repeat' ((conv => whnf); first | refine ngo ?_ | refine VB.tt ?_ | refine VB.ff ?_ | refine VNew.keep ?_ | refine dgo ?_ | refine sgo ?_ | fail)
    conv => whnf
    exact .nat (Nat.zero_le _) (by simp) rfl (by rw [Nat.mul_one, e1, limbs_take, ← hnv, take_dg hnok]) rfl
  · rintro i H hi ⟨l, c, hll, hok, hc, hv, rfl⟩
    refine VRound.of_body true (fr := boxFr a b 69 19) rfl rfl rfl ?_
    have hx := getD_lt ha i
    have hy := getD_lt hb i
    have hta := val_take_any a i
    have htb := val_take_any b i
    have hBB : BB = 1000000000 := rfl
    generalize a.getD i 0 = x at *
    generalize b.getD i 0 = y at *
    have gc : getInt (List.drop 0 [AV.int .u64 (c : Int)]) = (c : Int) := rfl
    obtain ⟨n, hn⟩ : ∃ n, n = x + y + c := ⟨_, rfl⟩
    have g0 : (x : Int) + (y : Int) + (c : Int) = (n : Int) := by omega
    have hmd := Nat.mod_add_div n BB
    have hmm := Nat.mod_lt n (show 0 < BB by decide)
    have hmq : n / BB ≤ 1 := Nat.le_of_lt_succ (Nat.div_lt_of_lt_mul (by omega))
    have g5 := tdiv_BB n
    have g6 := tmod_BB n
    generalize n / BB = q at *
    generalize n % BB = r at *
    have hnv : val (l ++ [r]) + BB ^ (i + 1) * q = val (a.take (i + 1)) + val (b.take (i + 1)) := by
      rw [val_append, hta, htb, hll, Nat.pow_succ, Nat.mul_assoc]
      simp only [val, Nat.mul_zero, Nat.add_zero]
      have e1 : BB ^ i * r + BB ^ i * (BB * q) = BB ^ i * x + BB ^ i * y + BB ^ i * c := by
        rw [← Nat.mul_add, hmd, hn, Nat.mul_add, Nat.mul_add]
      omega
    have hnok : okL (l ++ [r]) := okL_append.2 ⟨hok, by intro z hz; rw [List.mem_singleton.1 hz]; exact hmm⟩
    repeat' ((conv => whnf); first | refine ngo ?_ | refine VB.tt ?_ | refine VB.ff ?_ | refine VNew.keep ?_ | refine dgo ?_ | refine sgo ?_ | fail)
    conv => whnf
    rw [gc]
    repeat' ((conv => whnf); first | refine ngo ?_ | refine VB.tt ?_ | refine VB.ff ?_ | refine VNew.keep ?_ | refine dgo ?_ | refine sgo ?_ | fail)
    conv => whnf
    rw [g0]
    repeat' ((conv => whnf); first | refine ngo ?_ | refine VB.tt ?_ | refine VB.ff ?_ | refine VNew.keep ?_ | refine dgo ?_ | refine sgo ?_ | fail)
    conv => whnf
    rw [g6]
    repeat' ((conv => whnf); first | refine ngo ?_ | refine VB.tt ?_ | refine VB.ff ?_ | refine VNew.keep ?_ | refine dgo ?_ | refine sgo ?_ | fail)
    conv => whnf
    have e1 : List.take (l.length * 1) (limbs l) ++ [AV.int .u32 (r : Int)] = limbs (l ++ [r]) := by
      rw [Nat.mul_one, List.take_of_length_le (by simp [limbs]), limbs_append]; rfl
    have hl2 : (l ++ [r]).length = l.length + 1 := by simp
    refine ⟨sumH (l ++ [r]) (l ++ [r]).length q (rangeObj Tryd.f45 0 (boxFr a b 69 19) 3), ⟨l ++ [r], q, by omega, hnok, hmq, hnv, rfl⟩, ?_⟩
    rw [hl2]
    exact ⟨⟨_, rfl, .cells rfl (FzL.same e1 (low_limbs _ _))⟩, ⟨_, rfl, .cells rfl (.cons (.same (by rw [hl2]) (show 0 < 5 by decide)) .nil)⟩, ⟨_, rfl, .cells rfl (.cons (.same (by rw [g5]) trivial) .nil)⟩, ⟨_, rfl, .dfr⟩,
      ⟨_, rfl, .loop (FzFr.sub ⟨show 1 < 5 by decide, show 2 < 5 by decide, ⟨trivial, ⟨⟨low_natL _ a, trivial⟩, ⟨low_natL _ b, trivial⟩, trivial⟩⟩, trivial⟩ ⟨rfl, rfl, rfl, trivial⟩) (show 3 < 5 by decide)⟩, trivial⟩

theorem less_own {a b : List Nat} (ha : okL a) (hb : okL b) (la : a.length < 10000000) (lb : b.length ≤ a.length) (hle : val b ≤ val a) :
    VCall EE 47 [natL a, natL b] [] fun v H => Fz H 0 [] v (natv (val a - val b)) := by
  refine VCall.of_body true Tryd.func47 rfl (by decide) rfl ?_
  repeat' ((conv => whnf); first | refine ngo ?_ | refine VB.tt ?_ | refine VB.ff ?_ | refine VNew.keep ?_ | refine dgo ?_ | refine sgo ?_ | fail)
  conv => whnf
  refine VCall.i (both_c) ?_
  repeat' ((conv => whnf); first | refine VB.tt ?_ | refine VB.ff ?_ | refine VNew.keep ?_ | refine dgo ?_ | refine sgo ?_ | fail)
  conv => whnf
  refine VNext.at_ true ⟨boxFr a b 69 15, [.cells 0 30 [], .cells 0 23 [.osl 0 0 0 0 1], .cells 0 50 [.int .u64 (0 : Nat)]], []⟩ ⟨by (repeat' first | exact trivial | exact And.intro (by first | rfl | (simp [lk]; done)) trivial | refine And.intro (by first | rfl | (simp [lk]; done)) ?_), rfl, rfl⟩ ?_
  repeat' ((conv => whnf); first | refine ngo ?_ | refine VB.tt ?_ | refine VB.ff ?_ | refine VNew.keep ?_ | refine dgo ?_ | refine sgo ?_ | fail)
  conv => whnf
  refine VRange.out true (f := 69) (first := []) (cap := [.dptr [natL a], .dptr [natL b]]) rfl ?_
  refine VCall.mono ?_ (both1_c (H0 := sumH [] 0 0 (rangeObj Tryd.f47 0 (boxFr a b 69 15) 3)) (yb := 4) (show 4 < 5 by decide) (by omega) (by omega) (fun i H => ∃ (l : List Nat) (c : Nat), l.length = i ∧ okL l ∧ c ≤ 1 ∧ val l + val (b.take i) = val (a.take i) + BB ^ i * c ∧ H = sumH l l.length c (rangeObj Tryd.f47 0 (boxFr a b 69 15) 3))
    ⟨[], 0, rfl, by intro x hx; simp at hx, Nat.zero_le _, by simp [val], rfl⟩ ?_ ha hb)
  · rintro v H ⟨l, c, hll, hok, hc, hv, rfl⟩
    rw [List.take_of_length_le (by omega), List.take_of_length_le (by omega), ← hll] at hv
    have hvl := val_lt hok
    have hc0 : c = 0 := by
      rcases Nat.eq_zero_or_pos c with h0 | h0
      · exact h0
      · have h1 : c = 1 := by omega
        subst h1
        omega
    subst hc0
    have hnv : val l = val a - val b := by omega
    repeat' ((conv => whnf); first | refine ngo ?_ | refine VB.tt ?_ | refine VB.ff ?_ | refine VNew.keep ?_ | refine dgo ?_ | refine sgo ?_ | fail)
    conv => whnf
    refine (trim_own0 (R := [.cells 0 23 [.osl 0 l.length 0 l.length 1], .cells 0 50 [.int .u64 (0 : Nat)], .dfr, .gone]) (ver := l.length) (e := 30) hok (by omega)).mono fun v H' hq => ?_
    obtain ⟨rfl, rfl⟩ := hq
    rw [hnv]
    repeat' ((conv => whnf); first | refine ngo ?_ | refine VB.tt ?_ | refine VB.ff ?_ | refine VNew.keep ?_ | refine dgo ?_ | refine sgo ?_ | fail)
    conv => whnf
    exact .nat (Nat.zero_le _) (by simp) rfl (by rw [Nat.mul_one, limbs_take, ← hnv, take_dg hok]) rfl
  · rintro i H hi ⟨l, c, hll, hok, hc, hv, rfl⟩
    refine VRound.of_body true (fr := boxFr a b 69 15) rfl rfl rfl ?_
    have hx := getD_lt ha i
    have hy := getD_lt hb i
    have hta := val_take_any a i
    have htb := val_take_any b i
    have hBB : BB = 1000000000 := rfl
    generalize a.getD i 0 = x at *
    generalize b.getD i 0 = y at *
    have gc : getInt (List.drop 0 [AV.int .u64 (c : Int)]) = (c : Int) := rfl
    obtain ⟨n, hn⟩ : ∃ n, n = x + BB - y - c := ⟨_, rfl⟩
    have g0 : (x : Int) + 1000000000 - (y : Int) - (c : Int) = (n : Int) := by omega
    have hmd := Nat.mod_add_div n BB
    have hmm := Nat.mod_lt n (show 0 < BB by decide)
    have hmq : n / BB ≤ 1 := Nat.le_of_lt_succ (Nat.div_lt_of_lt_mul (by omega))
    have g5 := tdiv_BB n
    have g6 := tmod_BB n
    generalize n / BB = q at *
    generalize n % BB = r at *
    have hnv : val (l ++ [r]) + val (b.take (i + 1)) = val (a.take (i + 1)) + BB ^ (i + 1) * (1 - q) := by
      rw [val_append, hta, htb, hll, Nat.pow_succ, Nat.mul_assoc]
      simp only [val, Nat.mul_zero, Nat.add_zero]
      have e1 : BB ^ i * r + BB ^ i * y + BB ^ i * c = BB ^ i * x + BB ^ i * (BB * (1 - q)) := by
        rw [← Nat.mul_add, ← Nat.mul_add, ← Nat.mul_add]
        congr 1
        have h1 : BB * (1 - q) = BB - BB * q := by rw [Nat.mul_sub, Nat.mul_one]
        have h9 : BB * q ≤ BB := by have := Nat.mul_le_mul_left BB hmq; omega
        omega
      omega
    have hnok : okL (l ++ [r]) := okL_append.2 ⟨hok, by intro z hz; rw [List.mem_singleton.1 hz]; exact hmm⟩
    repeat' ((conv => whnf); first | refine ngo ?_ | refine VB.tt ?_ | refine VB.ff ?_ | refine VNew.keep ?_ | refine dgo ?_ | refine sgo ?_ | fail)
    conv => whnf
    rw [gc]
    repeat' ((conv => whnf); first | refine ngo ?_ | refine VB.tt ?_ | refine VB.ff ?_ | refine VNew.keep ?_ | refine dgo ?_ | refine sgo ?_ | fail)
    conv => whnf
    rw [g0]
    repeat' ((conv => whnf); first | refine ngo ?_ | refine VB.tt ?_ | refine VB.ff ?_ | refine VNew.keep ?_ | refine dgo ?_ | refine sgo ?_ | fail)
    conv => whnf
    rw [g5]
    repeat' ((conv => whnf); first | refine ngo ?_ | refine VB.tt ?_ | refine VB.ff ?_ | refine VNew.keep ?_ | refine dgo ?_ | refine sgo ?_ | fail)
    conv => whnf
    rw [g6]
    repeat' ((conv => whnf); first | refine ngo ?_ | refine VB.tt ?_ | refine VB.ff ?_ | refine VNew.keep ?_ | refine dgo ?_ | refine sgo ?_ | fail)
    conv => whnf
    have e1 : List.take (l.length * 1) (limbs l) ++ [AV.int .u32 (r : Int)] = limbs (l ++ [r]) := by
      rw [Nat.mul_one, List.take_of_length_le (by simp [limbs]), limbs_append]; rfl
    have hl2 : (l ++ [r]).length = l.length + 1 := by simp
    refine ⟨sumH (l ++ [r]) (l ++ [r]).length (1 - q) (rangeObj Tryd.f47 0 (boxFr a b 69 15) 3), ⟨l ++ [r], 1 - q, by omega, hnok, by omega, hnv, rfl⟩, ?_⟩
    rw [hl2]
    exact ⟨⟨_, rfl, .cells rfl (FzL.same e1 (low_limbs _ _))⟩, ⟨_, rfl, .cells rfl (.cons (.same (by rw [hl2]) (show 0 < 5 by decide)) .nil)⟩, ⟨_, rfl, .cells rfl (.cons (.same (by congr 1; omega) trivial) .nil)⟩, ⟨_, rfl, .dfr⟩,
      ⟨_, rfl, .loop (FzFr.sub ⟨show 1 < 5 by decide, show 2 < 5 by decide, ⟨trivial, ⟨⟨low_natL _ a, trivial⟩, ⟨low_natL _ b, trivial⟩, trivial⟩⟩, trivial⟩ ⟨rfl, rfl, rfl, trivial⟩) (show 3 < 5 by decide)⟩, trivial⟩
end Go.Proofs.YtcdnonggajoghaaDoor


/- Contracts: the document's calls for sums, differences and powers. -/
namespace Go.Proofs.YtcdnonggajoghaaDoor
open Go Go.RowKit
set_option linter.unusedVariables false
set_option linter.unusedSimpArgs false
set_option maxRecDepth 100000

theorem dg_add_le (a b : Nat) : (dg (a + b)).length ≤ max (dg a).length (dg b).length + 1 := by
  refine length_dg_lt ?_
  have h1 := lt_of_length_dg a
  have h2 := lt_of_length_dg b
  have h3 : BB ^ (dg a).length ≤ BB ^ max (dg a).length (dg b).length := Nat.pow_le_pow_right (by decide) (Nat.le_max_left _ _)
  have h4 : BB ^ (dg b).length ≤ BB ^ max (dg a).length (dg b).length := Nat.pow_le_pow_right (by decide) (Nat.le_max_right _ _)
  rw [Nat.pow_succ]
  have hBB : BB = 1000000000 := rfl
  have h5 : BB ^ max (dg a).length (dg b).length * 2 ≤ BB ^ max (dg a).length (dg b).length * BB := Nat.mul_le_mul_left _ (by decide)
  omega

def addN (n : Nat) : Nat := if 1024 < (dg n).length then 0 else n
def addE (n : Nat) : Int := if 1024 < (dg n).length then 5 else 0
theorem sum_n {a b : Nat} (la : (dg a).length < 10000000) (lb : (dg b).length < 10000000) : VCall EE 45 [natv a, natv b] [] fun v H => Fz H 0 [] v (natv (a + b)) := by
  have := sum_own (okL_dg a) (okL_dg b) la lb
  rwa [val_dg, val_dg] at this
theorem less_n {a b : Nat} (la : (dg a).length < 10000000) (h : b ≤ a) : VCall EE 47 [natv a, natv b] [] fun v H => Fz H 0 [] v (natv (a - b)) := by
  have := less_own (okL_dg a) (okL_dg b) la (dg_length_mono h) (by rwa [val_dg, val_dg])
  rwa [val_dg, val_dg] at this

theorem nadd1_c {a b : List Nat} (ca : canon a) (cb : canon b) (la : a.length ≤ 1024) (lb : b.length ≤ 1024) : VCall EE 43 [natL a, natL b] [] fun v H => Fz H 0 [] v (.tup [natv (addN (val a + val b)), .int .i64 (addE (val a + val b))]) := by
  refine VCall.of_body true Tryd.func43 rfl (by decide) rfl ?_
  have hp := sum_own (a := a) (b := b) ca.1 cb.1 (by omega) (by omega)
  have hl := dg_add_le (val a) (val b)
  rw [dg_val ca, dg_val cb] at hl
  repeat' ((conv => whnf); first | refine ngo ?_ | refine VB.tt ?_ | refine VB.ff ?_ | refine VNew.keep ?_ | refine dgo ?_ | refine sgo ?_ | fail)
  conv => whnf
  refine VCall.i (hp) ?_
  repeat' ((conv => whnf); first | refine ngo ?_ | refine VB.tt ?_ | refine VB.ff ?_ | refine VNew.keep ?_ | refine dgo ?_ | refine sgo ?_ | fail)
  conv => whnf
  refine VCall.i (fits_c (by omega)) ?_
  repeat' ((conv => whnf); first | refine ngo ?_ | refine VB.tt ?_ | refine VB.ff ?_ | refine VNew.keep ?_ | refine dgo ?_ | refine sgo ?_ | fail)
  conv => whnf
  rw [addN, addE]
  repeat' (first | exact fz_nil0 | exact Fz.nsl | exact Fz.same rfl (by repeat' (first | exact trivial | exact low_natL 0 _ | exact low_limbs 0 _ | refine And.intro ?_ ?_ | fail)) | refine Fz.tup ?_ | refine FzL.cons ?_ ?_ | exact FzL.nil | fail)

theorem nadd_c (a b : List Nat) (la : a.length < 1000000000000000000) (lb : b.length < 1000000000000000000) : VCall EE 20 [natL a, natL b] [] fun v H => Fz H 0 [] v (res2 a b (addN (val a + val b)) (addE (val a + val b))) := by
  refine VCall.of_body true Tryd.func20 rfl (by decide) rfl ?_
  repeat' ((conv => whnf); first | refine ngo ?_ | refine VB.tt ?_ | refine VB.ff ?_ | refine VNew.keep ?_ | refine dgo ?_ | refine sgo ?_ | fail)
  conv => whnf
  refine VCall.i (with_c la lb (fun h => nadd1_c (chk_zero (both2_zero h).1).1 (chk_zero (both2_zero h).2).1 (chk_zero (both2_zero h).1).2 (chk_zero (both2_zero h).2).2)) ?_
  repeat' ((conv => whnf); first | refine ngo ?_ | refine VB.tt ?_ | refine VB.ff ?_ | refine VNew.keep ?_ | refine dgo ?_ | refine sgo ?_ | fail)
  conv => whnf
  repeat' (first | exact fz_nil0 | exact Fz.nsl | exact Fz.same rfl (by repeat' (first | exact trivial | exact low_natL 0 _ | exact low_limbs 0 _ | refine And.intro ?_ ?_ | fail)) | refine Fz.tup ?_ | refine FzL.cons ?_ ?_ | exact FzL.nil | fail)

def subE (a b : Nat) : Int := if a < b then 2 else 0
theorem cmpN_neg {a b : Nat} : cmpN a b < 0 ↔ a < b := by
  unfold cmpN
  split
  · simp_all
  · split <;> simp_all

theorem nsub1_c {a b : List Nat} (ca : canon a) (cb : canon b) (la : a.length ≤ 1024) (lb : b.length ≤ 1024) : VCall EE 46 [natL a, natL b] [] fun v H => Fz H 0 [] v (.tup [natv (val a - val b), .int .i64 (subE (val a) (val b))]) := by
  refine VCall.of_body true Tryd.func46 rfl (by decide) rfl ?_
  repeat' ((conv => whnf); first | refine ngo ?_ | refine VB.tt ?_ | refine VB.ff ?_ | refine VNew.keep ?_ | refine dgo ?_ | refine sgo ?_ | fail)
  conv => whnf
  refine VCall.s (order_c ca cb (by omega) (by omega)) ?_
  repeat' ((conv => whnf); first | refine ngo ?_ | refine VB.tt ?_ | refine VB.ff ?_ | refine VNew.keep ?_ | refine dgo ?_ | refine sgo ?_ | fail)
  conv => whnf
  refine VB.dec (fun h => ?_) (fun h => ?_)
  · have h := cmpN_neg.1 h
    repeat' ((conv => whnf); first | refine ngo ?_ | refine VB.tt ?_ | refine VB.ff ?_ | refine VNew.keep ?_ | refine dgo ?_ | refine sgo ?_ | fail)
    conv => whnf
    rw [subE, if_pos h, Nat.sub_eq_zero_of_le (Nat.le_of_lt h)]
    repeat' (first | exact fz_nil0 | exact Fz.nsl | exact Fz.same rfl (by repeat' (first | exact trivial | exact low_natL 0 _ | exact low_limbs 0 _ | refine And.intro ?_ ?_ | fail)) | refine Fz.tup ?_ | refine FzL.cons ?_ ?_ | exact FzL.nil | fail)
  · have h : ¬ val a < val b := fun hh => h (cmpN_neg.2 hh)
    have hl := dg_length_mono (show val b ≤ val a by omega)
    rw [dg_val ca, dg_val cb] at hl
    repeat' ((conv => whnf); first | refine ngo ?_ | refine VB.tt ?_ | refine VB.ff ?_ | refine VNew.keep ?_ | refine dgo ?_ | refine sgo ?_ | fail)
    conv => whnf
    refine VCall.i (less_own ca.1 cb.1 (by omega) hl (by omega)) ?_
    repeat' ((conv => whnf); first | refine ngo ?_ | refine VB.tt ?_ | refine VB.ff ?_ | refine VNew.keep ?_ | refine dgo ?_ | refine sgo ?_ | fail)
    conv => whnf
    rw [subE, if_neg h]
    repeat' (first | exact fz_nil0 | exact Fz.nsl | exact Fz.same rfl (by repeat' (first | exact trivial | exact low_natL 0 _ | exact low_limbs 0 _ | refine And.intro ?_ ?_ | fail)) | refine Fz.tup ?_ | refine FzL.cons ?_ ?_ | exact FzL.nil | fail)

theorem nsub_c (a b : List Nat) (la : a.length < 1000000000000000000) (lb : b.length < 1000000000000000000) : VCall EE 21 [natL a, natL b] [] fun v H => Fz H 0 [] v (res2 a b (val a - val b) (subE (val a) (val b))) := by
  refine VCall.of_body true Tryd.func21 rfl (by decide) rfl ?_
  repeat' ((conv => whnf); first | refine ngo ?_ | refine VB.tt ?_ | refine VB.ff ?_ | refine VNew.keep ?_ | refine dgo ?_ | refine sgo ?_ | fail)
  conv => whnf
  refine VCall.i (with_c la lb (fun h => nsub1_c (chk_zero (both2_zero h).1).1 (chk_zero (both2_zero h).2).1 (chk_zero (both2_zero h).1).2 (chk_zero (both2_zero h).2).2)) ?_
  repeat' ((conv => whnf); first | refine ngo ?_ | refine VB.tt ?_ | refine VB.ff ?_ | refine VNew.keep ?_ | refine dgo ?_ | refine sgo ?_ | fail)
  conv => whnf
  repeat' (first | exact fz_nil0 | exact Fz.nsl | exact Fz.same rfl (by repeat' (first | exact trivial | exact low_natL 0 _ | exact low_limbs 0 _ | refine And.intro ?_ ?_ | fail)) | refine Fz.tup ?_ | refine FzL.cons ?_ ?_ | exact FzL.nil | fail)

theorem ncmp_c (a b : List Nat) (la : a.length < 1000000000000000000) (lb : b.length < 1000000000000000000) : VCall EE 16 [natL a, natL b] [] fun v H => v = .tup [.int .i64 (if both2 a b = 0 then cmpN (val a) (val b) else 0), .int .i64 (both2 a b)] := by
  refine VCall.of_body true Tryd.func16 rfl (by decide) rfl ?_
  repeat' ((conv => whnf); first | refine ngo ?_ | refine VB.tt ?_ | refine VB.ff ?_ | refine dgo ?_ | refine sgo ?_ | fail)
  conv => whnf
  refine VNew.dat (cs' := [natL a, natL b]) rfl rfl ?_
  repeat' ((conv => whnf); first | refine ngo ?_ | refine VB.tt ?_ | refine VB.ff ?_ | refine VNew.keep ?_ | refine dgo ?_ | refine sgo ?_ | fail)
  conv => whnf
  refine VCall.s (checked_c a b la lb) ?_
  repeat' ((conv => whnf); first | refine ngo ?_ | refine VB.tt ?_ | refine VB.ff ?_ | refine VNew.keep ?_ | refine dgo ?_ | refine sgo ?_ | fail)
  conv => whnf
  refine VB.ne (fun h => ?_) (fun h => ?_)
  · repeat' ((conv => whnf); first | refine ngo ?_ | refine VB.tt ?_ | refine VB.ff ?_ | refine VNew.keep ?_ | refine dgo ?_ | refine sgo ?_ | fail)
    conv => whnf
    rw [if_neg h]
  · obtain ⟨h1, h2⟩ := both2_zero h
    obtain ⟨ca, la⟩ := chk_zero h1
    obtain ⟨cb, lb⟩ := chk_zero h2
    repeat' ((conv => whnf); first | refine ngo ?_ | refine VB.tt ?_ | refine VB.ff ?_ | refine VNew.keep ?_ | refine dgo ?_ | refine sgo ?_ | fail)
    conv => whnf
    refine VCall.s (order_c ca cb (by omega) (by omega)) ?_
    repeat' ((conv => whnf); first | refine ngo ?_ | refine VB.tt ?_ | refine VB.ff ?_ | refine VNew.keep ?_ | refine dgo ?_ | refine sgo ?_ | fail)
    conv => whnf
    rw [if_pos h, h]

/-- What a power is, or which error. -/
def powN (a : List Nat) (n : Int) : Nat := if chk a = 0 ∧ 0 ≤ n ∧ n ≤ 10000 then addN (val a ^ n.toNat) else 0
def powE (a : List Nat) (n : Int) : Int := if chk a = 0 then (if 0 ≤ n ∧ n ≤ 10000 then addE (val a ^ n.toNat) else 2) else chk a

theorem and_one (n : Nat) (h : n < 9223372036854775808) : IntKind.wrap .i64 ((BitVec.ofInt (IntKind.bits .i64) (n : Int) &&& BitVec.ofInt (IntKind.bits .i64) 1).toNat : Nat) = ((n % 2 : Nat) : Int) := by
  have e : (BitVec.ofInt (IntKind.bits .i64) (n : Int) &&& BitVec.ofInt (IntKind.bits .i64) 1).toNat = n % 2 := by
    rw [BitVec.toNat_and]
    have h1 : (BitVec.ofInt (IntKind.bits .i64) (n : Int)).toNat = n := by
      rw [BitVec.toNat_ofInt]
      show ((n : Int) % ((2 ^ 64 : Nat) : Int)).toNat = n
      omega
    have h2 : (BitVec.ofInt (IntKind.bits .i64) 1).toNat = 1 := rfl
    rw [h1, h2, Nat.and_one_is_mod]
  rw [e]
  exact (InR.i64 (by omega) (by omega)).eq

theorem one_nat : AV.dsl (limbs [1]) 1 = natv 1 := by
  rw [natv, dg_pos (by decide), show 1 / BB = 0 from rfl, dg_zero]
  rfl
theorem dg_len_one : (dg 1).length = 1 := by
  rw [dg_pos (by decide), show 1 / BB = 0 from rfl, dg_zero]
  rfl

theorem pow_ge {o s m N : Nat} (h : o * s ^ m = N) (hm : 1 ≤ m) (ho : o ≠ 0) : s ≤ N := by
  rcases Nat.eq_zero_or_pos s with h0 | h0
  · omega
  · rw [← h]
    refine Nat.le_trans ?_ (Nat.le_mul_of_pos_left _ (Nat.pos_of_ne_zero ho))
    have := Nat.pow_le_pow_right h0 hm
    rwa [Nat.pow_one] at this
theorem npow_c (a : List Nat) (n : Int) (la : a.length < 1000000000000000000) (n1 : -9223372036854775808 ≤ n) (n2 : n < 9223372036854775808) : VCall EE 25 [natL a, .int .i64 n] [] fun v H => Fz H 0 [] v (.tup [natv (powN a n), .int .i64 (powE a n)]) := by
  refine VCall.of_body true Tryd.func25 rfl (by decide) rfl ?_
  repeat' ((conv => whnf); first | refine ngo ?_ | refine VB.tt ?_ | refine VB.ff ?_ | refine VNew.keep ?_ | refine dgo ?_ | refine sgo ?_ | fail)
  conv => whnf
  refine VCall.s (check_c a la) ?_
  repeat' ((conv => whnf); first | refine ngo ?_ | refine VB.tt ?_ | refine VB.ff ?_ | refine VNew.keep ?_ | refine dgo ?_ | refine sgo ?_ | fail)
  conv => whnf
  refine VB.ne (fun h => ?_) (fun h => ?_)
  · repeat' ((conv => whnf); first | refine ngo ?_ | refine VB.tt ?_ | refine VB.ff ?_ | refine VNew.keep ?_ | refine dgo ?_ | refine sgo ?_ | fail)
    conv => whnf
    rw [powN, powE, if_neg (fun hh => h hh.1), if_neg h]
    repeat' (first | exact fz_nil0 | exact Fz.nsl | exact Fz.same rfl (by repeat' (first | exact trivial | exact low_natL 0 _ | exact low_limbs 0 _ | refine And.intro ?_ ?_ | fail)) | refine Fz.tup ?_ | refine FzL.cons ?_ ?_ | exact FzL.nil | fail)
  obtain ⟨ca, la⟩ := chk_zero h
  repeat' ((conv => whnf); first | refine ngo ?_ | refine VB.tt ?_ | refine VB.ff ?_ | refine VNew.keep ?_ | refine dgo ?_ | refine sgo ?_ | fail)
  conv => whnf
  by_cases hn0 : n < 0
  · rw [decide_eq_true hn0]
    repeat' ((conv => whnf); first | refine ngo ?_ | refine VB.tt ?_ | refine VB.ff ?_ | refine VNew.keep ?_ | refine dgo ?_ | refine sgo ?_ | fail)
    conv => whnf
    rw [powN, powE, if_neg (by omega), if_pos h, if_neg (by omega)]
    repeat' (first | exact fz_nil0 | exact Fz.nsl | exact Fz.same rfl (by repeat' (first | exact trivial | exact low_natL 0 _ | exact low_limbs 0 _ | refine And.intro ?_ ?_ | fail)) | refine Fz.tup ?_ | refine FzL.cons ?_ ?_ | exact FzL.nil | fail)
  rw [decide_eq_false hn0]
  repeat' ((conv => whnf); first | refine ngo ?_ | refine VB.tt ?_ | refine VB.ff ?_ | refine VNew.keep ?_ | refine dgo ?_ | refine sgo ?_ | fail)
  conv => whnf
  refine VB.dec (fun hn1 => ?_) (fun hn1 => ?_)
  · repeat' ((conv => whnf); first | refine ngo ?_ | refine VB.tt ?_ | refine VB.ff ?_ | refine VNew.keep ?_ | refine dgo ?_ | refine sgo ?_ | fail)
    conv => whnf
    rw [powN, powE, if_neg (by omega), if_pos h, if_neg (by omega)]
    repeat' (first | exact fz_nil0 | exact Fz.nsl | exact Fz.same rfl (by repeat' (first | exact trivial | exact low_natL 0 _ | exact low_limbs 0 _ | refine And.intro ?_ ?_ | fail)) | refine Fz.tup ?_ | refine FzL.cons ?_ ?_ | exact FzL.nil | fail)
  obtain ⟨n, rfl⟩ : ∃ k : Nat, n = (k : Int) := ⟨n.toNat, by omega⟩
  rw [powN, powE, if_pos ⟨h, by omega, by omega⟩, if_pos h, if_pos ⟨by omega, by omega⟩, Int.toNat_natCast]
  repeat' ((conv => whnf); first | refine ngo ?_ | refine VB.tt ?_ | refine VB.ff ?_ | refine dgo ?_ | refine sgo ?_ | fail)
  conv => whnf
  refine VNew.dat (cs' := limbs [1]) rfl rfl ?_
  rw [one_nat]
  repeat' ((conv => whnf); first | refine VB.tt ?_ | refine VB.ff ?_ | refine VNew.keep ?_ | refine dgo ?_ | refine sgo ?_ | fail)
  conv => whnf
  refine VNext.at_ true ⟨[(1, .int .i64 n), (7, natv 1), (8, natv (val a))], [.gone], []⟩ ⟨⟨rfl, rfl, by rw [← canon_natL ca]; rfl, trivial⟩, rfl, rfl⟩ ?_
  repeat' ((conv => whnf); first | refine ngo ?_ | refine VB.tt ?_ | refine VB.ff ?_ | refine VNew.keep ?_ | refine dgo ?_ | refine sgo ?_ | fail)
  conv => whnf
  have hle : ∀ t : Nat, 2 ^ t ≤ n → t ≤ 13 := fun t ht => by
    apply Nat.le_of_not_lt
    intro hh
    have : 2 ^ 14 ≤ 2 ^ t := Nat.pow_le_pow_right (by decide) hh
    omega
  refine VLoop.tr true (fun x : Nat × Nat × Nat × Nat => ⟨[(1, .int .i64 x.1), (7, natv x.2.1), (8, natv x.2.2.1)], [.gone], []⟩)
    (fun x => x.1 ≤ n ∧ x.2.1 * x.2.2.1 ^ x.1 = val a ^ n ∧ (dg x.2.2.1).length ≤ 1024 ∧ (dg x.2.1).length ≤ 1 + 1024 * x.2.2.2 ∧ (x.2.2.2 = 0 ∨ 1 ≤ x.1) ∧ x.1 * 2 ^ x.2.2.2 ≤ n ∧ (x.2.1 = 0 → x.2.2.1 = 0)) (fun x => x.1 + (if x.2.2.2 = 0 then 1 else 0)) (n, 1, val a, 0)
    ⟨Nat.le_refl _, by simp, by rw [dg_val ca]; exact la, by rw [dg_len_one]; simp, .inl rfl, by simp, fun h => absurd h (show (1 : Nat) ≠ 0 by decide)⟩ ⟨⟨rfl, rfl, rfl, trivial⟩, rfl, rfl⟩ ?_
  rintro ⟨m, o, q, t⟩ ⟨hm, hp, hql, hol, ht, hmt, hoq⟩
  dsimp only at hm hp hql hol ht hmt hoq ⊢
  have ht13 : t ≤ 13 := by
    rcases ht with h0 | h0
    · omega
    · have := Nat.mul_le_mul_right (2 ^ t) h0
      exact hle t (by omega)
  have hfd : (m : Int).fdiv (2 ^ min (1 : Int).toNat (IntKind.bits .i64)) = ((m / 2 : Nat) : Int) := by
    rw [show (2 : Int) ^ min (1 : Int).toNat (IntKind.bits .i64) = ((2 : Nat) : Int) from rfl]
    rw [Int.fdiv_eq_ediv_of_nonneg _ (by omega)]; rfl
  have hqq := dg_mul_le q q
  have hoq2 := dg_mul_le o q
  have hm2 : m / 2 * 2 ^ (t + 1) ≤ n := by
    have h1 : m / 2 * 2 ≤ m := Nat.div_mul_le_self m 2
    have h2 := Nat.mul_le_mul_right (2 ^ t) h1
    rw [Nat.pow_succ, Nat.mul_comm (2 ^ t) 2, ← Nat.mul_assoc]
    omega
  have hdm : 2 * (m / 2) + m % 2 = m := Nat.div_add_mod m 2
  repeat' ((conv => whnf); first | refine ngo ?_ | refine VB.tt ?_ | refine VB.ff ?_ | refine VNew.keep ?_ | refine dgo ?_ | refine sgo ?_ | fail)
  conv => whnf
  rw [and_one _ (by omega)]
  refine VB.eq (fun hb => ?_) (fun hb => ?_)
  · have hb : m % 2 = 1 := by omega
    have hp' : o * q * (q * q) ^ (m / 2) = val a ^ n := by
      rw [← hp, Nat.mul_assoc, ← Nat.pow_two, ← Nat.pow_mul, ← Nat.pow_succ']
      congr 2
      omega
    have hoq' : o * q = 0 → q * q = 0 := fun h => by
      rcases Nat.mul_eq_zero.1 h with h1 | h1
      · rw [hoq h1]
      · rw [h1]
    have hol' : (dg (o * q)).length ≤ 1 + 1024 * (t + 1) := by omega
    have hpr := product_n (a := o) (b := q) (by omega) (by omega)
    generalize o * q = o' at *
    repeat' ((conv => whnf); first | refine ngo ?_ | refine VB.tt ?_ | refine VB.ff ?_ | refine VNew.keep ?_ | refine dgo ?_ | refine sgo ?_ | fail)
    conv => whnf
    refine VCall.i (hpr) ?_
    repeat' ((conv => whnf); first | refine ngo ?_ | refine VB.tt ?_ | refine VB.ff ?_ | refine VNew.keep ?_ | refine dgo ?_ | refine sgo ?_ | fail)
    conv => whnf
    rw [hfd]
    refine VB.eq (fun hz => ?_) (fun hz => ?_)
    · have hz : m / 2 = 0 := by omega
      rw [hz, Nat.pow_zero, Nat.mul_one] at hp'
      repeat' ((conv => whnf); first | refine ngo ?_ | refine VB.tt ?_ | refine VB.ff ?_ | refine VNew.keep ?_ | refine dgo ?_ | refine sgo ?_ | fail)
      conv => whnf
      refine VCall.i (fits_c (by omega)) ?_
      repeat' ((conv => whnf); first | refine ngo ?_ | refine VB.tt ?_ | refine VB.ff ?_ | refine VNew.keep ?_ | refine dgo ?_ | refine sgo ?_ | fail)
      conv => whnf
      rw [← hp', addN, addE]
      repeat' (first | exact fz_nil0 | exact Fz.nsl | exact Fz.same rfl (by repeat' (first | exact trivial | exact low_natL 0 _ | exact low_limbs 0 _ | refine And.intro ?_ ?_ | fail)) | refine Fz.tup ?_ | refine FzL.cons ?_ ?_ | exact FzL.nil | fail)
    · have hz : m / 2 ≠ 0 := by omega
      have hpq := product_n (a := q) (b := q) (by omega) (by omega)
      have hge : o' ≠ 0 → q * q ≤ val a ^ n := fun h => pow_ge hp' (by omega) h
      generalize q * q = s at *
      repeat' ((conv => whnf); first | refine ngo ?_ | refine VB.tt ?_ | refine VB.ff ?_ | refine VNew.keep ?_ | refine dgo ?_ | refine sgo ?_ | fail)
      conv => whnf
      refine VCall.i (hpq) ?_
      repeat' ((conv => whnf); first | refine ngo ?_ | refine VB.tt ?_ | refine VB.ff ?_ | refine VNew.keep ?_ | refine dgo ?_ | refine sgo ?_ | fail)
      conv => whnf
      refine VB.dec (fun hl => ?_) (fun hl => ?_)
      · have hs0 : s ≠ 0 := by rintro rfl; rw [dg_zero] at hl; exact absurd hl (by decide)
        have ho0 : o' ≠ 0 := fun e => hs0 (hoq' e)
        have := dg_length_mono (hge ho0)
        repeat' ((conv => whnf); first | refine ngo ?_ | refine VB.tt ?_ | refine VB.ff ?_ | refine VNew.keep ?_ | refine dgo ?_ | refine sgo ?_ | fail)
        conv => whnf
        rw [addN, addE, if_pos (by omega), if_pos (by omega)]
        repeat' (first | exact fz_nil0 | exact Fz.nsl | exact Fz.same rfl (by repeat' (first | exact trivial | exact low_natL 0 _ | exact low_limbs 0 _ | refine And.intro ?_ ?_ | fail)) | refine Fz.tup ?_ | refine FzL.cons ?_ ?_ | exact FzL.nil | fail)
      · repeat' ((conv => whnf); first | refine ngo ?_ | refine VB.tt ?_ | refine VB.ff ?_ | refine VNew.keep ?_ | refine dgo ?_ | refine sgo ?_ | fail)
        conv => whnf
        refine ⟨(m / 2, o', s, t + 1), ⟨by dsimp only; omega, hp', by dsimp only; omega, hol', .inr (by dsimp only; omega), hm2, hoq'⟩, by dsimp only; rw [if_neg (by omega)]; split <;> omega, [], by simp, by simp, ⟨⟨_, rfl, .gone⟩, trivial⟩, FzFr.sub ⟨trivial, low_natL _ _, low_natL _ _, trivial⟩ ⟨by simp only [lk]; rw [← hfd]; rfl, rfl, rfl, trivial⟩, rfl, by simp⟩
  · have hb : m % 2 = 0 := by omega
    have hp' : o * (q * q) ^ (m / 2) = val a ^ n := by
      rw [← hp, ← Nat.pow_two, ← Nat.pow_mul]
      congr 2
      omega
    have hoq' : o = 0 → q * q = 0 := fun h => by rw [hoq h]
    have hol' : (dg o).length ≤ 1 + 1024 * (t + 1) := by omega
    repeat' ((conv => whnf); first | refine ngo ?_ | refine VB.tt ?_ | refine VB.ff ?_ | refine VNew.keep ?_ | refine dgo ?_ | refine sgo ?_ | fail)
    conv => whnf
    rw [hfd]
    refine VB.eq (fun hz => ?_) (fun hz => ?_)
    · have hz : m / 2 = 0 := by omega
      rw [hz, Nat.pow_zero, Nat.mul_one] at hp'
      repeat' ((conv => whnf); first | refine ngo ?_ | refine VB.tt ?_ | refine VB.ff ?_ | refine VNew.keep ?_ | refine dgo ?_ | refine sgo ?_ | fail)
      conv => whnf
      refine VCall.i (fits_c (by omega)) ?_
      repeat' ((conv => whnf); first | refine ngo ?_ | refine VB.tt ?_ | refine VB.ff ?_ | refine VNew.keep ?_ | refine dgo ?_ | refine sgo ?_ | fail)
      conv => whnf
      rw [← hp', addN, addE]
      repeat' (first | exact fz_nil0 | exact Fz.nsl | exact Fz.same rfl (by repeat' (first | exact trivial | exact low_natL 0 _ | exact low_limbs 0 _ | refine And.intro ?_ ?_ | fail)) | refine Fz.tup ?_ | refine FzL.cons ?_ ?_ | exact FzL.nil | fail)
    · have hz : m / 2 ≠ 0 := by omega
      have hpq := product_n (a := q) (b := q) (by omega) (by omega)
      have hge : o ≠ 0 → q * q ≤ val a ^ n := fun h => pow_ge hp' (by omega) h
      generalize q * q = s at *
      repeat' ((conv => whnf); first | refine ngo ?_ | refine VB.tt ?_ | refine VB.ff ?_ | refine VNew.keep ?_ | refine dgo ?_ | refine sgo ?_ | fail)
      conv => whnf
      refine VCall.i (hpq) ?_
      repeat' ((conv => whnf); first | refine ngo ?_ | refine VB.tt ?_ | refine VB.ff ?_ | refine VNew.keep ?_ | refine dgo ?_ | refine sgo ?_ | fail)
      conv => whnf
      refine VB.dec (fun hl => ?_) (fun hl => ?_)
      · have hs0 : s ≠ 0 := by rintro rfl; rw [dg_zero] at hl; exact absurd hl (by decide)
        have ho0 : o ≠ 0 := fun e => hs0 (hoq' e)
        have := dg_length_mono (hge ho0)
        repeat' ((conv => whnf); first | refine ngo ?_ | refine VB.tt ?_ | refine VB.ff ?_ | refine VNew.keep ?_ | refine dgo ?_ | refine sgo ?_ | fail)
        conv => whnf
        rw [addN, addE, if_pos (by omega), if_pos (by omega)]
        repeat' (first | exact fz_nil0 | exact Fz.nsl | exact Fz.same rfl (by repeat' (first | exact trivial | exact low_natL 0 _ | exact low_limbs 0 _ | refine And.intro ?_ ?_ | fail)) | refine Fz.tup ?_ | refine FzL.cons ?_ ?_ | exact FzL.nil | fail)
      · repeat' ((conv => whnf); first | refine ngo ?_ | refine VB.tt ?_ | refine VB.ff ?_ | refine VNew.keep ?_ | refine dgo ?_ | refine sgo ?_ | fail)
        conv => whnf
        refine ⟨(m / 2, o, s, t + 1), ⟨by dsimp only; omega, hp', by dsimp only; omega, hol', .inr (by dsimp only; omega), hm2, hoq'⟩, by dsimp only; rw [if_neg (by omega)]; split <;> omega, [], by simp, by simp, ⟨⟨_, rfl, .gone⟩, trivial⟩, FzFr.sub ⟨trivial, low_natL _ _, low_natL _ _, trivial⟩ ⟨by simp only [lk]; rw [← hfd]; rfl, rfl, rfl, trivial⟩, rfl, by simp⟩
end Go.Proofs.YtcdnonggajoghaaDoor


/- Contracts: digits and order of the document. -/
namespace Go.Proofs.YtcdnonggajoghaaDoor
open Go Go.RowKit
set_option linter.unusedVariables false
set_option linter.unusedSimpArgs false
set_option maxRecDepth 100000

theorem ndigits_c (l : List Nat) (ll : l.length < 1000000000000000000) : VCall EE 18 [natL l] [] fun v H => v = digR l := by
  refine VCall.of_body true Tryd.func18 rfl (by decide) rfl ?_
  repeat' ((conv => whnf); first | refine ngo ?_ | refine VB.tt ?_ | refine VB.ff ?_ | refine VNew.keep ?_ | refine dgo ?_ | refine sgo ?_ | fail)
  conv => whnf
  refine VCall.s (check_c l ll) ?_
  repeat' ((conv => whnf); first | refine ngo ?_ | refine VB.tt ?_ | refine VB.ff ?_ | refine VNew.keep ?_ | refine dgo ?_ | refine sgo ?_ | fail)
  conv => whnf
  refine VB.ne (fun h => ?_) (fun h => ?_)
  · repeat' ((conv => whnf); first | refine ngo ?_ | refine VB.tt ?_ | refine VB.ff ?_ | refine VNew.keep ?_ | refine dgo ?_ | refine sgo ?_ | fail)
    conv => whnf
    rw [digR, if_neg h]
  · obtain ⟨hc, h1⟩ := chk_zero h
    repeat' ((conv => whnf); first | refine ngo ?_ | refine VB.tt ?_ | refine VB.ff ?_ | refine VNew.keep ?_ | refine dgo ?_ | refine sgo ?_ | fail)
    conv => whnf
    refine VCall.s (digits_c hc h1) ?_
    repeat' ((conv => whnf); first | refine ngo ?_ | refine VB.tt ?_ | refine VB.ff ?_ | refine VNew.keep ?_ | refine dgo ?_ | refine sgo ?_ | fail)
    conv => whnf
    rw [digR, if_pos h]

theorem rcmp_c (a b : List Nat) (la : a.length < 1000000000000000000) (lb : b.length < 1000000000000000000) : VCall EE 17 [natL a, natL b] [] fun v H => v = .tup [.int .i64 (if both2 a b = 0 then cmpN (val a) (val b) else 0), .int .i64 (both2 a b)] := by
  refine VCall.of_body true Tryd.func17 rfl (by decide) rfl ?_
  repeat' ((conv => whnf); first | refine ngo ?_ | refine VB.tt ?_ | refine VB.ff ?_ | refine VNew.keep ?_ | refine dgo ?_ | refine sgo ?_ | fail)
  conv => whnf
  refine VCall.s (rboth_c a b la lb) ?_
  repeat' ((conv => whnf); first | refine ngo ?_ | refine VB.tt ?_ | refine VB.ff ?_ | refine VNew.keep ?_ | refine dgo ?_ | refine sgo ?_ | fail)
  conv => whnf
  refine VB.ne (fun h => ?_) (fun h => ?_)
  · repeat' ((conv => whnf); first | refine ngo ?_ | refine VB.tt ?_ | refine VB.ff ?_ | refine VNew.keep ?_ | refine dgo ?_ | refine sgo ?_ | fail)
    conv => whnf
    rw [if_neg h]
  · obtain ⟨h1, h2⟩ := both2_zero h
    obtain ⟨ca, la⟩ := chk_zero h1
    obtain ⟨cb, lb⟩ := chk_zero h2
    repeat' ((conv => whnf); first | refine ngo ?_ | refine VB.tt ?_ | refine VB.ff ?_ | refine VNew.keep ?_ | refine dgo ?_ | refine sgo ?_ | fail)
    conv => whnf
    refine VCall.s (rorder_c ca cb (by omega) (by omega)) ?_
    repeat' ((conv => whnf); first | refine ngo ?_ | refine VB.tt ?_ | refine VB.ff ?_ | refine VNew.keep ?_ | refine dgo ?_ | refine sgo ?_ | fail)
    conv => whnf
    rw [if_pos h, h]
end Go.Proofs.YtcdnonggajoghaaDoor


/- What a walk does by itself, more of it. -/
namespace Go.Proofs.YtcdnonggajoghaaDoor
open Go Go.RowKit
set_option linter.unusedVariables false

theorem VB.self {i : Int} {A B : Prop} (h : A) : VB (i == i) A B := by rw [beq_self_eq_true]; exact VB.tt h
theorem VB.nself {i : Int} {A B : Prop} (h : B) : VB (i != i) A B := by rw [bne_self_eq_false]; exact VB.ff h
theorem VB.id {b : Bool} {A B : Prop} (h : VB b A B) : VB b A B := h
theorem bneI (a : Int) : (a != a) = false := bne_self_eq_false a
theorem beqI (a : Int) : (a == a) = true := beq_self_eq_true a
theorem VB.dt {p : Prop} [Decidable p] {A B : Prop} (hp : p) (h : A) : VB (decide p) A B := by rw [decide_eq_true hp]; exact VB.tt h
theorem VB.df {p : Prop} [Decidable p] {A B : Prop} (hp : ¬ p) (h : B) : VB (decide p) A B := by rw [decide_eq_false hp]; exact VB.ff h
theorem VB.et {a b : Int} {A B : Prop} (hp : a = b) (h : A) : VB (a == b) A B := by subst hp; exact VB.self h
theorem VB.ef {a b : Int} {A B : Prop} (hp : a ≠ b) (h : B) : VB (a == b) A B := by rw [beq_eq_false_iff_ne.2 hp]; exact VB.ff h
theorem VB.nt {a b : Int} {A B : Prop} (hp : a ≠ b) (h : A) : VB (a != b) A B := by rw [bne_iff_ne.2 hp]; exact VB.tt h
theorem VB.nf {a b : Int} {A B : Prop} (hp : a = b) (h : B) : VB (a != b) A B := by subst hp; exact VB.nself h
end Go.Proofs.YtcdnonggajoghaaDoor


/- Contracts: the law NatCalls. -/
namespace Go.Proofs.YtcdnonggajoghaaDoor
open Go Go.RowKit
set_option linter.unusedVariables false
set_option linter.unusedSimpArgs false
set_option maxRecDepth 100000

theorem intR_ex (l : List Nat) : ∃ i e : Int, intR l = .tup [.int .i64 i, .int .i64 e] := by
  unfold intR
  split
  · split
    · exact ⟨_, _, rfl⟩
    · exact ⟨_, _, rfl⟩
  · exact ⟨_, _, rfl⟩
theorem digR_ex (l : List Nat) : ∃ i e : Int, digR l = .tup [.int .i64 i, .int .i64 e] := by
  unfold digR
  split
  · exact ⟨_, _, rfl⟩
  · exact ⟨_, _, rfl⟩

set_option maxHeartbeats 2000000 in
theorem natcalls_c (a b : List Nat) (n : Int) (n1 : -9223372036854775808 ≤ n) (n2 : n < 9223372036854775808) : VCall EE 3 [natL a, natL b, .int .i64 n] [] fun v H => v = .bool true := by
  refine VCall.of_body true Tryd.func3 rfl (by decide) rfl ?_
  repeat' ((conv => whnf); first | refine ngo ?_ | refine VB.tt ?_ | refine VB.ff ?_ | refine VNew.keep ?_ | refine dgo ?_ | refine sgo ?_ | (with_reducible apply VB.id; rw [bneI]) | (with_reducible apply VB.id; rw [beqI]) | (with_reducible apply VB.dt; focus omega) | (with_reducible apply VB.df; focus omega) | (with_reducible apply VB.et; focus omega) | (with_reducible apply VB.ef; focus omega) | (with_reducible apply VB.nt; focus omega) | (with_reducible apply VB.nf; focus omega) | fail)
  conv => whnf
  refine VCall.s (long_c a 60) ?_
  repeat' ((conv => whnf); first | refine ngo ?_ | refine VB.tt ?_ | refine VB.ff ?_ | refine VNew.keep ?_ | refine dgo ?_ | refine sgo ?_ | (with_reducible apply VB.id; rw [bneI]) | (with_reducible apply VB.id; rw [beqI]) | (with_reducible apply VB.dt; focus omega) | (with_reducible apply VB.df; focus omega) | (with_reducible apply VB.et; focus omega) | (with_reducible apply VB.ef; focus omega) | (with_reducible apply VB.nt; focus omega) | (with_reducible apply VB.nf; focus omega) | fail)
  conv => whnf
  by_cases h1 : (60 < a.length ∧ a.length ≤ 1024) ∨ 1100 < a.length
  · rw [decide_eq_true h1]
    repeat' ((conv => whnf); first | refine ngo ?_ | refine VB.tt ?_ | refine VB.ff ?_ | refine VNew.keep ?_ | refine dgo ?_ | refine sgo ?_ | (with_reducible apply VB.id; rw [bneI]) | (with_reducible apply VB.id; rw [beqI]) | (with_reducible apply VB.dt; focus omega) | (with_reducible apply VB.df; focus omega) | (with_reducible apply VB.et; focus omega) | (with_reducible apply VB.ef; focus omega) | (with_reducible apply VB.nt; focus omega) | (with_reducible apply VB.nf; focus omega) | fail)
    conv => whnf
    refine VCall.s (awake_c) ?_
    repeat' ((conv => whnf); first | refine ngo ?_ | refine VB.tt ?_ | refine VB.ff ?_ | refine VNew.keep ?_ | refine dgo ?_ | refine sgo ?_ | (with_reducible apply VB.id; rw [bneI]) | (with_reducible apply VB.id; rw [beqI]) | (with_reducible apply VB.dt; focus omega) | (with_reducible apply VB.df; focus omega) | (with_reducible apply VB.et; focus omega) | (with_reducible apply VB.ef; focus omega) | (with_reducible apply VB.nt; focus omega) | (with_reducible apply VB.nf; focus omega) | fail)
    conv => whnf
  rw [decide_eq_false h1]
  repeat' ((conv => whnf); first | refine ngo ?_ | refine VB.tt ?_ | refine VB.ff ?_ | refine VNew.keep ?_ | refine dgo ?_ | refine sgo ?_ | (with_reducible apply VB.id; rw [bneI]) | (with_reducible apply VB.id; rw [beqI]) | (with_reducible apply VB.dt; focus omega) | (with_reducible apply VB.df; focus omega) | (with_reducible apply VB.et; focus omega) | (with_reducible apply VB.ef; focus omega) | (with_reducible apply VB.nt; focus omega) | (with_reducible apply VB.nf; focus omega) | fail)
  conv => whnf
  refine VCall.s (long_c b 60) ?_
  repeat' ((conv => whnf); first | refine ngo ?_ | refine VB.tt ?_ | refine VB.ff ?_ | refine VNew.keep ?_ | refine dgo ?_ | refine sgo ?_ | (with_reducible apply VB.id; rw [bneI]) | (with_reducible apply VB.id; rw [beqI]) | (with_reducible apply VB.dt; focus omega) | (with_reducible apply VB.df; focus omega) | (with_reducible apply VB.et; focus omega) | (with_reducible apply VB.ef; focus omega) | (with_reducible apply VB.nt; focus omega) | (with_reducible apply VB.nf; focus omega) | fail)
  conv => whnf
  refine VB.dec (fun h2 => ?_) (fun h2 => ?_)
  · repeat' ((conv => whnf); first | refine ngo ?_ | refine VB.tt ?_ | refine VB.ff ?_ | refine VNew.keep ?_ | refine dgo ?_ | refine sgo ?_ | (with_reducible apply VB.id; rw [bneI]) | (with_reducible apply VB.id; rw [beqI]) | (with_reducible apply VB.dt; focus omega) | (with_reducible apply VB.df; focus omega) | (with_reducible apply VB.et; focus omega) | (with_reducible apply VB.ef; focus omega) | (with_reducible apply VB.nt; focus omega) | (with_reducible apply VB.nf; focus omega) | fail)
    conv => whnf
    refine VCall.s (awake_c) ?_
    repeat' ((conv => whnf); first | refine ngo ?_ | refine VB.tt ?_ | refine VB.ff ?_ | refine VNew.keep ?_ | refine dgo ?_ | refine sgo ?_ | (with_reducible apply VB.id; rw [bneI]) | (with_reducible apply VB.id; rw [beqI]) | (with_reducible apply VB.dt; focus omega) | (with_reducible apply VB.df; focus omega) | (with_reducible apply VB.et; focus omega) | (with_reducible apply VB.ef; focus omega) | (with_reducible apply VB.nt; focus omega) | (with_reducible apply VB.nf; focus omega) | fail)
    conv => whnf
  have la : a.length ≤ 1100 := by omega
  have lb : b.length ≤ 1100 := by omega
  have hl : (dg n.toNat).length < 1000000 := by
    have : (dg n.toNat).length ≤ 3 := length_dg_lt (Nat.lt_of_lt_of_le (show n.toNat < 9223372036854775808 by omega) (by decide))
    omega
  repeat' ((conv => whnf); first | refine ngo ?_ | refine VB.tt ?_ | refine VB.ff ?_ | refine VNew.keep ?_ | refine dgo ?_ | refine sgo ?_ | (with_reducible apply VB.id; rw [bneI]) | (with_reducible apply VB.id; rw [beqI]) | (with_reducible apply VB.dt; focus omega) | (with_reducible apply VB.df; focus omega) | (with_reducible apply VB.et; focus omega) | (with_reducible apply VB.ef; focus omega) | (with_reducible apply VB.nt; focus omega) | (with_reducible apply VB.nf; focus omega) | fail)
  conv => whnf
  refine VCall.i (nof_c n n1 n2) ?_
  repeat' ((conv => whnf); first | refine ngo ?_ | refine VB.tt ?_ | refine VB.ff ?_ | refine VNew.keep ?_ | refine dgo ?_ | refine sgo ?_ | (with_reducible apply VB.id; rw [bneI]) | (with_reducible apply VB.id; rw [beqI]) | (with_reducible apply VB.dt; focus omega) | (with_reducible apply VB.df; focus omega) | (with_reducible apply VB.et; focus omega) | (with_reducible apply VB.ef; focus omega) | (with_reducible apply VB.nt; focus omega) | (with_reducible apply VB.nf; focus omega) | fail)
  conv => whnf
  refine VCall.i (rof_c n n1 n2) ?_
  repeat' ((conv => whnf); first | refine ngo ?_ | refine VB.tt ?_ | refine VB.ff ?_ | refine VNew.keep ?_ | refine dgo ?_ | refine sgo ?_ | (with_reducible apply VB.id; rw [bneI]) | (with_reducible apply VB.id; rw [beqI]) | (with_reducible apply VB.dt; focus omega) | (with_reducible apply VB.df; focus omega) | (with_reducible apply VB.et; focus omega) | (with_reducible apply VB.ef; focus omega) | (with_reducible apply VB.nt; focus omega) | (with_reducible apply VB.nf; focus omega) | fail)
  conv => whnf
  refine VCall.s (alike_same (dg n.toNat) (by omega)) ?_
  repeat' ((conv => whnf); first | refine ngo ?_ | refine VB.tt ?_ | refine VB.ff ?_ | refine VNew.keep ?_ | refine dgo ?_ | refine sgo ?_ | (with_reducible apply VB.id; rw [bneI]) | (with_reducible apply VB.id; rw [beqI]) | (with_reducible apply VB.dt; focus omega) | (with_reducible apply VB.df; focus omega) | (with_reducible apply VB.et; focus omega) | (with_reducible apply VB.ef; focus omega) | (with_reducible apply VB.nt; focus omega) | (with_reducible apply VB.nf; focus omega) | fail)
  conv => whnf
  refine VCall.s (check_c a (by omega)) ?_
  repeat' ((conv => whnf); first | refine ngo ?_ | refine VB.tt ?_ | refine VB.ff ?_ | refine VNew.keep ?_ | refine dgo ?_ | refine sgo ?_ | (with_reducible apply VB.id; rw [bneI]) | (with_reducible apply VB.id; rw [beqI]) | (with_reducible apply VB.dt; focus omega) | (with_reducible apply VB.df; focus omega) | (with_reducible apply VB.et; focus omega) | (with_reducible apply VB.ef; focus omega) | (with_reducible apply VB.nt; focus omega) | (with_reducible apply VB.nf; focus omega) | fail)
  conv => whnf
  refine VCall.s (rcheck_c a (by omega)) ?_
  repeat' ((conv => whnf); first | refine ngo ?_ | refine VB.tt ?_ | refine VB.ff ?_ | refine VNew.keep ?_ | refine dgo ?_ | refine sgo ?_ | (with_reducible apply VB.id; rw [bneI]) | (with_reducible apply VB.id; rw [beqI]) | (with_reducible apply VB.dt; focus omega) | (with_reducible apply VB.df; focus omega) | (with_reducible apply VB.et; focus omega) | (with_reducible apply VB.ef; focus omega) | (with_reducible apply VB.nt; focus omega) | (with_reducible apply VB.nf; focus omega) | fail)
  conv => whnf
  obtain ⟨i, e, hi⟩ := intR_ex a
  obtain ⟨d, g, hd⟩ := digR_ex a
  have g1 := nint_c a (by omega)
  have g2 := rint_c a (by omega)
  have g3 := ndigits_c a (by omega)
  have g4 := rdigits_c a (by omega)
  rw [hi] at g1 g2
  rw [hd] at g3 g4
  repeat' ((conv => whnf); first | refine ngo ?_ | refine VB.tt ?_ | refine VB.ff ?_ | refine VNew.keep ?_ | refine dgo ?_ | refine sgo ?_ | (with_reducible apply VB.id; rw [bneI]) | (with_reducible apply VB.id; rw [beqI]) | (with_reducible apply VB.dt; focus omega) | (with_reducible apply VB.df; focus omega) | (with_reducible apply VB.et; focus omega) | (with_reducible apply VB.ef; focus omega) | (with_reducible apply VB.nt; focus omega) | (with_reducible apply VB.nf; focus omega) | fail)
  conv => whnf
  refine VCall.s (g1) ?_
  repeat' ((conv => whnf); first | refine ngo ?_ | refine VB.tt ?_ | refine VB.ff ?_ | refine VNew.keep ?_ | refine dgo ?_ | refine sgo ?_ | (with_reducible apply VB.id; rw [bneI]) | (with_reducible apply VB.id; rw [beqI]) | (with_reducible apply VB.dt; focus omega) | (with_reducible apply VB.df; focus omega) | (with_reducible apply VB.et; focus omega) | (with_reducible apply VB.ef; focus omega) | (with_reducible apply VB.nt; focus omega) | (with_reducible apply VB.nf; focus omega) | fail)
  conv => whnf
  refine VCall.s (g2) ?_
  repeat' ((conv => whnf); first | refine ngo ?_ | refine VB.tt ?_ | refine VB.ff ?_ | refine VNew.keep ?_ | refine dgo ?_ | refine sgo ?_ | (with_reducible apply VB.id; rw [bneI]) | (with_reducible apply VB.id; rw [beqI]) | (with_reducible apply VB.dt; focus omega) | (with_reducible apply VB.df; focus omega) | (with_reducible apply VB.et; focus omega) | (with_reducible apply VB.ef; focus omega) | (with_reducible apply VB.nt; focus omega) | (with_reducible apply VB.nf; focus omega) | fail)
  conv => whnf
  refine VCall.s (ncmp_c a b (by omega) (by omega)) ?_
  repeat' ((conv => whnf); first | refine ngo ?_ | refine VB.tt ?_ | refine VB.ff ?_ | refine VNew.keep ?_ | refine dgo ?_ | refine sgo ?_ | (with_reducible apply VB.id; rw [bneI]) | (with_reducible apply VB.id; rw [beqI]) | (with_reducible apply VB.dt; focus omega) | (with_reducible apply VB.df; focus omega) | (with_reducible apply VB.et; focus omega) | (with_reducible apply VB.ef; focus omega) | (with_reducible apply VB.nt; focus omega) | (with_reducible apply VB.nf; focus omega) | fail)
  conv => whnf
  refine VCall.s (rcmp_c a b (by omega) (by omega)) ?_
  repeat' ((conv => whnf); first | refine ngo ?_ | refine VB.tt ?_ | refine VB.ff ?_ | refine VNew.keep ?_ | refine dgo ?_ | refine sgo ?_ | (with_reducible apply VB.id; rw [bneI]) | (with_reducible apply VB.id; rw [beqI]) | (with_reducible apply VB.dt; focus omega) | (with_reducible apply VB.df; focus omega) | (with_reducible apply VB.et; focus omega) | (with_reducible apply VB.ef; focus omega) | (with_reducible apply VB.nt; focus omega) | (with_reducible apply VB.nf; focus omega) | fail)
  conv => whnf
  refine VCall.s (g3) ?_
  repeat' ((conv => whnf); first | refine ngo ?_ | refine VB.tt ?_ | refine VB.ff ?_ | refine VNew.keep ?_ | refine dgo ?_ | refine sgo ?_ | (with_reducible apply VB.id; rw [bneI]) | (with_reducible apply VB.id; rw [beqI]) | (with_reducible apply VB.dt; focus omega) | (with_reducible apply VB.df; focus omega) | (with_reducible apply VB.et; focus omega) | (with_reducible apply VB.ef; focus omega) | (with_reducible apply VB.nt; focus omega) | (with_reducible apply VB.nf; focus omega) | fail)
  conv => whnf
  refine VCall.s (g4) ?_
  repeat' ((conv => whnf); first | refine VB.tt ?_ | refine VB.ff ?_ | refine VNew.keep ?_ | refine dgo ?_ | refine sgo ?_ | fail)
  conv => whnf
  generalize (if both2 a b = 0 then cmpN (val a) (val b) else 0) = c at *
  generalize (if n < 0 then (2 : Int) else 0) = f at *
  generalize both2 a b = j at *
  refine VNext.at_ true ⟨[(8, .int .i64 e), (10, .int .i64 e), (11, .int .i64 i), (12, .int .i64 i), (13, .int .i64 c), (14, .int .i64 j), (15, .int .i64 c), (16, .int .i64 j), (17, .int .i64 d), (18, .int .i64 g), (19, .int .i64 d), (20, .int .i64 g)], [], []⟩ ⟨by (repeat' first | exact trivial | exact And.intro (by first | rfl | (simp [lk]; done)) trivial | refine And.intro (by first | rfl | (simp [lk]; done)) ?_), rfl, rfl⟩ ?_
  repeat' ((conv => whnf); first | refine ngo ?_ | refine VB.tt ?_ | refine VB.ff ?_ | refine VNew.keep ?_ | refine dgo ?_ | refine sgo ?_ | (with_reducible apply VB.id; rw [bneI]) | (with_reducible apply VB.id; rw [beqI]) | (with_reducible apply VB.dt; focus omega) | (with_reducible apply VB.df; focus omega) | (with_reducible apply VB.et; focus omega) | (with_reducible apply VB.ef; focus omega) | (with_reducible apply VB.nt; focus omega) | (with_reducible apply VB.nf; focus omega) | fail)
  conv => whnf
  refine VCall.s (awake_c) ?_
  repeat' ((conv => whnf); first | refine ngo ?_ | refine VB.tt ?_ | refine VB.ff ?_ | refine VNew.keep ?_ | refine dgo ?_ | refine sgo ?_ | (with_reducible apply VB.id; rw [bneI]) | (with_reducible apply VB.id; rw [beqI]) | (with_reducible apply VB.dt; focus omega) | (with_reducible apply VB.df; focus omega) | (with_reducible apply VB.et; focus omega) | (with_reducible apply VB.ef; focus omega) | (with_reducible apply VB.nt; focus omega) | (with_reducible apply VB.nf; focus omega) | fail)
  conv => whnf
end Go.Proofs.YtcdnonggajoghaaDoor

/- From a law's contract to the machine's call. -/
namespace Go.Proofs.YtcdnonggajoghaaDoor
open Go Go.RowKit
set_option linter.unusedVariables false
set_option linter.unusedSimpArgs false

/-- The view ahead of a law: all that lies in memory is data. -/
def Conc.start (W : World) : Conc := Conc.alone (fun c o => W.cell? ⟨c, o, none⟩) W

theorem HR.start {E : Env} {W : World} (hG : ∀ g cs, E.G g = some cs → CR (Conc.start W) cs g 0) : HR E (Conc.start W) [] W :=
  ⟨rfl, fun b o i e => by simp at e, fun b i e => by simp [Conc.start, Conc.alone] at e, fun b b' i i' e => by simp [Conc.start, Conc.alone] at e, fun b i o ob eo ek e => by simp [Conc.start, Conc.alone] at e,
    fun _ _ _ h => h, Below.refl _ _, Nat.le_refl _, hG⟩

theorem law_walk {E : Env} {f : FuncId} {args : List AV} {cargs : List Value} {W : World} (hG : ∀ g cs, E.G g = some cs → CR (Conc.start W) cs g 0) (h : VCall E f args [] fun v H => v = .bool true) (hv : VRL (Conc.start W) args cargs) :
    Calls E.P f cargs.toArray W fun e W' => e = .returned (.bool true) ∧ Below W.heap.size W W' := by
  have h1 := callsIn_wide.1 (h.call _ cargs W (HR.start hG) hv)
  refine h1.mono fun e W' q => ?_
  obtain ⟨v, cv, K', H', rfl, hx, hH, hr, rfl⟩ := q
  simp only [VR] at hr
  subst hr
  refine ⟨rfl, ?_⟩
  have h2 := hH.below
  rw [hx.hB, hx.hw] at h2
  exact h2

/-- A slice of whole numbers, as it lies ahead of a law. -/
def IsRow (k : IntKind) (w : World) (a : Option Addr) (len cap : Nat) (zs : List Int) : Prop :=
  (a = none ∧ len = 0 ∧ cap = 0 ∧ zs = []) ∨
  ∃ x, a = some x ∧ len ≤ cap ∧ cap ≤ maxLen ∧ zs.length = cap ∧ (∀ i, i < zs.length → w.cell? (x.add i) = some (.int k (zs.getD i 0))) ∧ ∀ n ∈ zs, (Lit.int k n).wf = true

def ints (k : IntKind) (l : List Int) : List AV := l.map (.int k)
theorem VRL.ints {K : Conc} {k : IntKind} : ∀ (l : List Int), VRL K (Go.Proofs.YtcdnonggajoghaaDoor.ints k l) (l.map (.int k))
  | [] => rfl
  | n :: l => ⟨_, _, rfl, rfl, VRL.ints l⟩

theorem IsRow.vr {k : IntKind} {w : World} {a : Option Addr} {len cap : Nat} {zs : List Int} (h : IsRow k w a len cap zs) : VR (Conc.start w) (.dsl (ints k (zs.take len)) len) (.slice a len cap) ∧ len ≤ maxLen ∧ (zs.take len).length = len := by
  rcases h with ⟨rfl, rfl, rfl, rfl⟩ | ⟨x, rfl, hl, hm, hz, hc, hw⟩
  · exact ⟨⟨none, 0, rfl, Nat.le_refl _, fun hne => absurd rfl hne⟩, Nat.zero_le _, rfl⟩
  · refine ⟨?_, by omega, by rw [List.length_take]; omega⟩
    simp only [VR]
    refine ⟨some x, cap, rfl, hl, fun hne => ?_⟩
    have hlen : 0 < len := by
      rcases Nat.eq_zero_or_pos len with h0 | h0
      · subst h0; exact absurd rfl hne
      · exact h0
    have hx : x = ⟨x.block, x.off, none⟩ := by
      have h0 := hc 0 (by omega)
      rw [show x.add 0 = x from rfl] at h0
      unfold World.cell? at h0
      split at h0
      · split at h0
        · cases h0
        · rename_i hs
          obtain ⟨b, o, s⟩ := x
          cases s with
          | none => rfl
          | some y => exact absurd rfl hs
      · cases h0
    refine ⟨x.block, x.off, by rw [← hx], CR.of (VRL.ints _) (fun j u hj => ?_) (List.all_eq_true.2 fun y hy => by obtain ⟨n, _, rfl⟩ := List.mem_map.1 hy; rfl)⟩
    rw [List.getElem?_map, List.getElem?_take] at hj
    split at hj
    · obtain ⟨n, hn, rfl⟩ := Option.map_eq_some_iff.1 hj
      have hjz := (List.getElem?_eq_some_iff.1 hn).1
      have h1 := hc j hjz
      rw [hx, add_off, List.getD_eq_getElem?_getD, hn] at h1
      exact h1
    · cases hj

theorem wf_u32 {n : Int} (h : (Lit.int .u32 n).wf = true) : 0 ≤ n ∧ n < 4294967296 := by
  simp only [Lit.wf, Bool.and_eq_true, decide_eq_true_eq] at h
  have h1 : IntKind.min .u32 = 0 := rfl
  have h2 : IntKind.max .u32 = 4294967295 := rfl
  omega
theorem wf_i64 {n : Int} (h : (Lit.int .i64 n).wf = true) : -9223372036854775808 ≤ n ∧ n < 9223372036854775808 := by
  simp only [Lit.wf, Bool.and_eq_true, decide_eq_true_eq] at h
  have h1 : IntKind.min .i64 = -9223372036854775808 := rfl
  have h2 : IntKind.max .i64 = 9223372036854775807 := rfl
  omega

theorem IsRow.nat {w : World} {a : Option Addr} {len cap : Nat} {zs : List Int} (h : IsRow .u32 w a len cap zs) :
    ∃ l : List Nat, VR (Conc.start w) (natL l) (.slice a len cap) ∧ l.length < 9223372036854775808 ∧ ∀ x ∈ l, x < 4294967296 := by
  obtain ⟨h1, h2, h3⟩ := h.vr
  have hw : ∀ n ∈ zs.take len, 0 ≤ n ∧ n < 4294967296 := by
    rcases h with ⟨rfl, rfl, rfl, rfl⟩ | ⟨x, rfl, hl, hm, hz, hc, hw⟩
    · intro n hn; simp at hn
    · exact fun n hn => wf_u32 (hw n (List.mem_of_mem_take hn))
  have e : ints .u32 (zs.take len) = limbs ((zs.take len).map Int.toNat) := by
    simp only [ints, limbs, List.map_map]
    refine List.map_congr_left fun n hn => ?_
    simp [Int.toNat_of_nonneg (hw n hn).1]
  refine ⟨(zs.take len).map Int.toNat, ?_, ?_, ?_⟩
  · rw [natL, ← e, List.length_map, h3]; exact h1
  · rw [List.length_map, h3]; simp only [maxLen] at h2; omega
  · intro x hx
    obtain ⟨n, hn, rfl⟩ := List.mem_map.1 hx
    have := hw n hn
    omega

end Go.Proofs.YtcdnonggajoghaaDoor
