/- Numbers in limbs as values; ranges of ints. -/
import Derived.Test.YtcdnonggajoghaaM0
namespace Go.Proofs.Ytcdnonggajoghaa
open Go Go.RowKit
set_option linter.unusedVariables false
set_option linter.unusedSimpArgs false

theorem InR.i64 {n : Int} (h1 : -9223372036854775808 ≤ n) (h2 : n < 9223372036854775808) : InR .i64 n := by
  constructor
  simp only [IntKind.wrap, IntKind.bits, IntKind.signed, Bool.true_and, decide_eq_true_eq, ge_iff_le]
  split <;> omega
theorem InR.u64 {n : Int} (h1 : 0 ≤ n) (h2 : n < 18446744073709551616) : InR .u64 n := by
  constructor
  simp only [IntKind.wrap, IntKind.bits, IntKind.signed, Bool.false_and, Bool.false_eq_true, if_false]
  omega
theorem InR.u32 {n : Int} (h1 : 0 ≤ n) (h2 : n < 4294967296) : InR .u32 n := by
  constructor
  simp only [IntKind.wrap, IntKind.bits, IntKind.signed, Bool.false_and, Bool.false_eq_true, if_false]
  omega
theorem InR.u8 {n : Int} (h1 : 0 ≤ n) (h2 : n < 256) : InR .u8 n := by
  constructor
  simp only [IntKind.wrap, IntKind.bits, IntKind.signed, Bool.false_and, Bool.false_eq_true, if_false]
  omega

def limbs (l : List Nat) : List AV := l.map fun (n : Nat) => .int .u32 (n : Int)
def natL (l : List Nat) : AV := .dsl (limbs l) l.length
def natv (n : Nat) : AV := natL (dg n)

theorem length_limbs (l : List Nat) : (limbs l).length = l.length := by simp [limbs]
theorem limbs_append (l m : List Nat) : limbs (l ++ m) = limbs l ++ limbs m := by simp [limbs]
theorem limbs_take (l : List Nat) (n : Nat) : (limbs l).take n = limbs (l.take n) := by simp [limbs, List.map_take]
theorem limbs_drop (l : List Nat) (n : Nat) : (limbs l).drop n = limbs (l.drop n) := by simp [limbs, List.map_drop]
theorem head_limbs_drop {l : List Nat} {i : Nat} (h : i < l.length) : ((limbs l).drop i).head? = some (.int .u32 ((l.getD i 0 : Nat) : Int)) := by
  simp [limbs, List.head?_drop, h]
theorem IntAt.limbs {l : List Nat} {i : Nat} (h : i < l.length) : IntAt .u32 ((limbs l).drop i) := ⟨_, head_limbs_drop h⟩
theorem getInt_eq {k : IntKind} {cs : List AV} {n : Int} (h : cs.head? = some (.int k n)) : getInt cs = n := by
  cases cs with
  | nil => cases h
  | cons c cs => simp at h; subst h; rfl
theorem getInt_limbs (l : List Nat) (i : Nat) : getInt ((limbs l).drop i) = ((l.getD i 0 : Nat) : Int) := by
  rcases Nat.lt_or_ge i l.length with h | h
  · exact getInt_eq (head_limbs_drop h)
  · rw [List.drop_eq_nil_of_le (by simpa [Go.Proofs.Ytcdnonggajoghaa.limbs] using h)]
    simp [getInt, List.getD_eq_getElem?_getD, h]
theorem low_limbs (n : Nat) : ∀ (l : List Nat), lowL n (limbs l)
  | [] => trivial
  | _ :: l => ⟨trivial, low_limbs n l⟩
theorem low_natL (n : Nat) (l : List Nat) : (natL l).low n := low_limbs n l
theorem splice_limbs {l : List Nat} {i : Nat} (h : i < l.length) (n : Nat) : splice (limbs l) i [.int .u32 (n : Int)] = limbs (l.set i n) := by
  simp only [splice, List.length_singleton, limbs_take, limbs_drop]
  rw [show [AV.int .u32 (n : Int)] = limbs [n] from rfl, ← limbs_append, ← limbs_append]
  rw [List.set_eq_take_append_cons_drop, if_pos h]
  simp
theorem limbs_zeros (n : Nat) : reps n [.int .u32 0] = limbs (List.replicate n 0) := by
  simp [reps, limbs]

theorem Fz.nat {H : Heap} {n b ver len : Nat} {σ : List Nat} {e : TypeId} {cs : List AV} {l : List Nat} (hn : n ≤ b) (hs : b ∉ σ) (h : H[b]? = some (.cells ver e cs)) (hc : cs.take (len * 1) = Go.Proofs.Ytcdnonggajoghaa.limbs l) (hl : len = l.length) :
    Fz H n σ (.osl b ver 0 len 1) (natL l) := by
  subst hl
  exact .osl hn hs h (by rw [List.drop_zero, hc]; exact FzL.refl (low_limbs n l))

theorem tmod_BB (n : Nat) : ((n : Int)).tmod 1000000000 = ((n % BB : Nat) : Int) := rfl
theorem tdiv_BB (n : Nat) : ((n : Int)).tdiv 1000000000 = ((n / BB : Nat) : Int) := rfl
theorem tdiv_nat (a b : Nat) : (a : Int).tdiv (b : Int) = ((a / b : Nat) : Int) := rfl
theorem tmod_nat (a b : Nat) : (a : Int).tmod (b : Int) = ((a % b : Nat) : Int) := rfl

end Go.Proofs.Ytcdnonggajoghaa
