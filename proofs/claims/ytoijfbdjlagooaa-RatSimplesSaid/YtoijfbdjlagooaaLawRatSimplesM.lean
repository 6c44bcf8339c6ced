/- The law RatSimples holds: for every input it answers true, and its arguments stand as they stood. No condition. -/
import Derived.Test.YtoijfbdjlagooaaRows
import Derived.Test.YtoijfbdjlagooaaA7
import Derived.Test.YtoijfbdjlagooaaA8
import Derived.WalkKit
import Derived.ProofKit
import Derived.OpenShut
import Derived.ShutString
import Derived.ChangeOld
import Derived.Below
import Derived.SizedLaws
import Derived.ChangeSlices
namespace Go.Proofs.Ytoijfbdjlagooaa.ratSimples
open Go Go.ChangeShapes Go.WideShapes Go.ChangeAt Go.RowKit
open Go.ChangeMaps (open_string shut_string)
set_option linter.unusedVariables false

theorem own : ownKnob Try.prog.godebug = none := by kernel_rfl
theorem laidOut : laidOutB Try.prog = true := by kernel_rfl

theorem walk (W : World) (hG : ∀ g cs, EE.G g = some cs → CR (Conc.start W) cs g 0) (a0 : Array Value) (z0 : RawQ) (w0 : VRL (Conc.start W) (rawC z0) a0.toList) (m0 : lenQ z0 9223372036854775808) (a1 : Array Value) (z1 : RawQ) (w1 : VRL (Conc.start W) (rawC z1) a1.toList) (m1 : lenQ z1 9223372036854775808) :
    Calls Try.prog 3 #[.agg a0, .agg a1] W fun e W' => e = .returned (.bool true) ∧ Below W.heap.size W W' := by
  exact law_walk (E := EE) (f := 3) (args := [rawV z0, rawV z1]) (cargs := [.agg a0, .agg a1]) hG (ratsimples_c z0 z1) ⟨_, _, rfl, ⟨rfl, _, rfl, w0⟩, ⟨_, _, rfl, ⟨rfl, _, rfl, w1⟩, rfl⟩⟩

set_option maxRecDepth 100000 in
theorem lifted (os : Os) (started : os.Started) (H : Type) (enc : TypeId × Value → H) :
    ReturnsInHanded {} Try.checked os 3 .any (Rows.ratSimplesSpec.pre6 enc Try.prog Try.f3 Rows.ratSimplesRow.domain false) (Rows.ratSimplesSpec.post enc Try.prog Try.f3 false true false false) := by
  refine returnsInHanded_of_change_sized (C := Try.checked) own started (by kernel_rfl) Try.func3
    (ChangeSpec.witness6 (enc := enc) (C := Try.checked) false ⟨#[], #[.agg #[.bool false, .slice none 0 0, .slice none 0 0], .agg #[.bool false, .slice none 0 0, .slice none 0 0]], []⟩ 8 (by kernel_rfl) (by kernel_rfl) (by kernel_rfl) (by kernel_rfl)) ?_
  intro W base args ds gs before hval0 hW hcnd hsz0 _
  have hsz : (DataW.weightsEach Try.prog (Try.f3.params.toList ++ Rows.ratSimplesSpec.plain.varTypes Try.prog) (ds ++ gs)).all (· ≤ reachBytes) = true := hsz0
  have hval : ∀ (j : Nat) t v, Try.f3.params[j]? = some t → args[j]? = some v → Value.okWide Try.prog W .any base t v := hval0
  have hW' := hW
  obtain ⟨p, q, hA0, hV, rfl, hfz, hnd⟩ := hW
  have hA : DataW.TrodAll enc Try.prog W 0 (fun _ => true) true Try.f3.params.toList args.toList ds p := hA0
  rw [Try.params3] at hA hval hsz
  obtain ⟨v0, vs0, d0, ds0, p0, q0, hargs, rfl, rfl, h0, r0⟩ := trodAll_cons hA
  obtain ⟨v1, vs1, d1, ds1, p1, q1, rfl, rfl, rfl, h1, r1⟩ := trodAll_cons r0
  obtain ⟨rfl, rfl, rfl⟩ := trodAll_nil r1
  obtain rfl : args = #[v0, v1] := by cases args; simp_all
  obtain ⟨rfl, rfl⟩ := trodVars_none hV
  obtain ⟨a0, rfl, _⟩ := okWide_struct Try.underlying25 (hval 0 25 v0 rfl rfl)
  have k0 := h0
  have lt0 : ∀ x ∈ p0, x.block < W.heap.size := by obtain ⟨m, hm⟩ := k0; exact DataW.trod_lt m _ _ _ hm
  obtain ⟨z0, w0, m0⟩ : ∃ r : RawQ, VRL (Conc.start W) (rawC r) a0.toList ∧ lenQ r 9223372036854775808 := by
    obtain ⟨fuel, hf⟩ := h0
    exact rat_open Try.underlying25 Try.underlying4 Try.underlying23 Try.underlying23 Try.underlying41 (by kernel_rfl) ⟨⟨by kernel_rfl, by kernel_rfl, by kernel_rfl, by kernel_rfl⟩, rfl, rfl, rfl⟩ hf
  obtain ⟨a1, rfl, _⟩ := okWide_struct Try.underlying25 (hval 1 25 v1 rfl rfl)
  have k1 := h1
  have lt1 : ∀ x ∈ p1, x.block < W.heap.size := by obtain ⟨m, hm⟩ := k1; exact DataW.trod_lt m _ _ _ hm
  obtain ⟨z1, w1, m1⟩ : ∃ r : RawQ, VRL (Conc.start W) (rawC r) a1.toList ∧ lenQ r 9223372036854775808 := by
    obtain ⟨fuel, hf⟩ := h1
    exact rat_open Try.underlying25 Try.underlying4 Try.underlying23 Try.underlying23 Try.underlying41 (by kernel_rfl) ⟨⟨by kernel_rfl, by kernel_rfl, by kernel_rfl, by kernel_rfl⟩, rfl, rfl, rfl⟩ hf
  clear hA0 hval0 hsz0 hsz
  refine (walk W (fun g cs e => nomatch e) a0 z0 w0 m0 a1 z1 w1 m1).mono fun e W' ⟨he, bel⟩ => ?_
  subst he
  exact ⟨_, rfl, _, _, _, [], _, [], hW', trodAll_mk1 (shut_bool Try.underlying4 _), (trodAll_cons_mk (Below.trod laidOut (by kernel_rfl) (of_decide_eq_true (by kernel_rfl)) k0 bel lt0) (trodAll_cons_mk (Below.trod laidOut (by kernel_rfl) (of_decide_eq_true (by kernel_rfl)) k1 bel lt1) trodAll_mk0)), rfl, bel.frame _, fun h => by cases h⟩

theorem over : Rows.ratSimplesRow.holds Try.pinned (OpenSpec.ofChange Rows.ratSimplesSpec) :=
  OpenClaim.holds_of_wide 3 Try.f3 rfl rfl rfl rfl rfl rfl rfl ⟨rfl, rfl, rfl, rfl, rfl⟩ rfl rfl rfl rfl rfl (by kernel_rfl) Try.func3 (by kernel_rfl)
    (of_decide_eq_true (by kernel_rfl)) (by unfold Func.isWrapper; first | (rw [if_pos (by decide +kernel)]; kernel_rfl) | (rw [if_neg (by decide +kernel)]; exact ⟨rfl, rfl⟩))
    (fun os started H enc _ => lifted os started H enc)
end Go.Proofs.Ytoijfbdjlagooaa.ratSimples
namespace Go.Proofs.Ytoijfbdjlagooaa
/-- RatSimples: for every input the law answers true, and its arguments stand as they stood. -/
theorem ratSimples_holds : Rows.RatSimplesSaid := ratSimples.over
#print axioms ratSimples_holds
end Go.Proofs.Ytoijfbdjlagooaa

