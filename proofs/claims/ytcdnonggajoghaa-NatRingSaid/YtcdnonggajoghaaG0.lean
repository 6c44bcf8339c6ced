/- What a walk does by itself, said once. -/
import Derived.Test.YtcdnonggajoghaaN0
import Derived.Test.YtcdnonggajoghaaV9
namespace Go.Proofs.Ytcdnonggajoghaa
open Go Go.RowKit
set_option linter.unusedVariables false

theorem InR.i64' {n : Int} (h1 : -9223372036854775808 ≤ n := by omega) (h2 : n < 9223372036854775808 := by omega) : InR .i64 n := InR.i64 h1 h2
theorem InR.u64' {n : Int} (h1 : 0 ≤ n := by omega) (h2 : n < 18446744073709551616 := by omega) : InR .u64 n := InR.u64 h1 h2
theorem InR.u32' {n : Int} (h1 : 0 ≤ n := by omega) (h2 : n < 4294967296 := by omega) : InR .u32 n := InR.u32 h1 h2
theorem InR.u8' {n : Int} (h1 : 0 ≤ n := by omega) (h2 : n < 256 := by omega) : InR .u8 n := InR.u8 h1 h2

/-- A side condition that falls by itself, and what comes behind it. -/
theorem sgo {A B : Prop} (h : B) (a : A := by
    first
    | rfl
    | exact live_of rfl
    | exact live_of (by assumption)
    | exact InR.i64'
    | exact InR.u64'
    | exact InR.u32'
    | exact InR.u8'
    | exact ⟨by omega, by omega⟩
    | omega
    | exact ⟨_, rfl⟩
    | exact IntAt.limbs (by omega)
    | (simp only [length_limbs, getInt_limbs, Nat.mul_one, Nat.zero_add, Nat.zero_mul, Nat.sub_zero, tdiv_BB, tmod_BB, tdiv_nat, tmod_nat, List.length_cons, List.length_nil]; done)
    | ((try simp only [length_limbs, getInt_limbs, Nat.mul_one, Nat.zero_add, Nat.zero_mul, Nat.sub_zero, tdiv_BB, tmod_BB, tdiv_nat, tmod_nat, List.length_cons, List.length_nil]); first | exact InR.i64' | exact InR.u64' | exact InR.u32' | exact ⟨by omega, by omega, by omega⟩ | exact ⟨by omega, by omega⟩ | omega | exact IntAt.limbs (by omega) | fail)
    | (refine ⟨?_, ?_, ?_, ?_⟩ <;> first | rfl | omega | ((try simp only [length_limbs, getInt_limbs, Nat.mul_one, Nat.zero_add, Nat.zero_mul, Nat.sub_zero, tdiv_BB, tmod_BB, tdiv_nat, tmod_nat, List.length_cons, List.length_nil]); first | done | rfl | omega | fail) | fail)
    | fail) : A ∧ B := ⟨a, h⟩

theorem dgo {N : Nat} {rd : Option Nat} {id : Nat} {ops : Array Oper} {Q : Exit → St → Prop} {s : St} (h : vq EE true N s.H ops.toList ops.toList s.fr fun fr => Q .normal ⟨fr, s.H, s.df⟩)
    (h1 : quietOps ops = true := by rfl) (h2 : Region.lexB .any ops = true := by kernel_rfl) (h3 : noDefer ops = true := by kernel_rfl) : VDraw EE N rd id ops Q s := VDraw.q true h1 mixed h2 h3 h
theorem ngo {N : Nat} {rd : Option Nat} {c : Code} {Q : Exit → St → Prop} {s : St} (h : vcode EE true N rd c Q s) : VNext EE N rd c Q s := VNext.go true h

/-- A call by itself. -/
theorem VCall.i {E : Env} {g : FuncId} {args : List AV} {H : Heap} {r : AV} {Q : AV → Heap → Prop} (h : VCall E g args [] fun v H => Fz H 0 [] v r) (k : Q r H)
    (hl : lowL 0 args := by (repeat' (first | exact trivial | exact low_natL 0 _ | exact low_limbs 0 _ | refine And.intro ?_ ?_ | fail))) : VCall E g args H Q := VCall.iso h hl k
theorem VCall.s {E : Env} {g : FuncId} {args : List AV} {H : Heap} {r : AV} {Q : AV → Heap → Prop} (h : VCall E g args [] fun v H => v = r) (k : Q r H)
    (hl : lowL 0 args := by (repeat' (first | exact trivial | exact low_natL 0 _ | exact low_limbs 0 _ | refine And.intro ?_ ?_ | fail)))
    (hr : r.low 0 := by (repeat' (first | exact trivial | exact low_natL 0 _ | exact low_limbs 0 _ | refine And.intro ?_ ?_ | fail))) : VCall E g args H Q := VCall.isoS h hr hl k

end Go.Proofs.Ytcdnonggajoghaa
