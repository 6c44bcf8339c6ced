/- The law NatKnown holds: for every input it answers true, and its arguments stand as they stood. No condition. -/
import Derived.Test.YtcdnonggajoghaaDoorRows
import Derived.Test.YtcdnonggajoghaaDoorTie
import Derived.Test.YtcdnonggajoghaaDoorCards
import Derived.Test.YtcdnonggajoghaaDoorA5
import Derived.WalkKit
import Derived.ProofKit
import Derived.OpenShut
import Derived.ShutString
import Derived.ChangeOld
import Derived.Below
import Derived.SizedLaws
import Derived.ChangeSlices
import Derived.LaidMore
import Derived.LaidSub
import Derived.Lib.LaidTab
import Derived.MakeChecks
import Derived.SevenTiedAt
import Derived.Stop.Joined
namespace Go.Proofs.YtcdnonggajoghaaDoor.natKnown
open Go Go.ChangeShapes Go.WideShapes Go.ChangeAt Go.RowKit
open Go.ChangeMaps (open_string shut_string)
set_option linter.unusedVariables false

theorem own : ownKnob Tryd.prog.godebug = none := by kernel_rfl
theorem laidOut : laidOutB Tryd.prog = true := by kernel_rfl

def laidL : List (String × DataW Unit) := [("parlour/nat.powers", Rows.laid_parlour_nat_powers)]
theorem door_met (os : Os) (args : Array Value) : laidMetH Tryd.prog laidL ((World.doorLaid Tryd.prog 400 os).forCall (fun _ _ => 0) ⟨#[], args, []⟩).memory :=
  laidMetH_of_parts3 (fuel := 8) (laidMet_of_run' 8 (by kernel_rfl) (by kernel_rfl)) (by kernel_rfl) (by kernel_rfl)

theorem tab0 {W : World} (h : laidMetH Tryd.prog laidL W) : Lib.TabIs Tryd.prog W "parlour/nat.powers" .u32 [1,10,100,1000,10000,100000,1000000,10000000,100000000] := by
  rw [MakeChecks.laidMetH_plain _ _ _ (by kernel_rfl)] at h
  have h2 := h.filter (fun x => x.1 == "parlour/nat.powers")
  exact Lib.tabIs_of_head (rest := []) (show Tryd.prog.globalNamed "parlour/nat.powers" = some 0 by kernel_rfl) (show (Tryd.prog.globals[0]?).map (·.type) = some 65 by kernel_rfl) Tryd.underlying65 Tryd.underlying30 (by kernel_rfl) (by kernel_rfl) h2

theorem globs {W : World} (h : laidMetH Tryd.prog laidL W) : ∀ g cs, EE.G g = some cs → CR (Conc.start W) cs g 0 := by
  intro g cs e
  have e : gtab g = some cs := e
  unfold gtab at e
  split at e
  · cases e
    have ht := tab0 h
    refine CR.of (us := [.int .u32 1, .int .u32 10, .int .u32 100, .int .u32 1000, .int .u32 10000, .int .u32 100000, .int .u32 1000000, .int .u32 10000000, .int .u32 100000000]) (VRL.ints (k := .u32) [1,10,100,1000,10000,100000,1000000,10000000,100000000]) (fun j u hj => ?_) rfl
    have hj2 : j < 9 := (List.getElem?_eq_some_iff.1 hj).1
    have hc := ht.cell (show Tryd.prog.globalNamed "parlour/nat.powers" = some 0 by kernel_rfl) j hj2
    show W.cell? ⟨0, 0 + j, none⟩ = some u
    rw [Nat.zero_add, hc]
    rcases (by omega : j = 0 ∨ j = 1 ∨ j = 2 ∨ j = 3 ∨ j = 4 ∨ j = 5 ∨ j = 6 ∨ j = 7 ∨ j = 8) with rfl | rfl | rfl | rfl | rfl | rfl | rfl | rfl | rfl <;> exact hj
  · cases e

theorem walk (W : World) (hG : ∀ g cs, EE.G g = some cs → CR (Conc.start W) cs g 0)  :
    Calls Tryd.prog 4 #[] W fun e W' => e = .returned (.bool true) ∧ Below W.heap.size W W' := by
  exact law_walk (E := EE) (f := 4) (args := []) (cargs := []) hG (natknown_c ) rfl

set_option maxRecDepth 100000 in
theorem lifted (os : Os) (started : os.Started) (H : Type) (enc : TypeId × Value → H) :
    ReturnsInHanded {} Tryd.checked os 4 .any (fun w args => (Rows.natKnownSpec.pre enc Tryd.prog Tryd.f4 [] false w args ∧ laidMetH Tryd.prog laidL w) ∧ sizedMet enc Tryd.prog Tryd.f4 (OpenSpec.ofChange Rows.natKnownSpec) false w args) (Rows.natKnownSpec.post enc Tryd.prog Tryd.f4 false true false false) := by
  refine returnsInHanded_of_change_and (C := Tryd.checked) (X := fun w _ => laidMetH Tryd.prog laidL w) (fun _ _ _ hh h => h.of_heap hh) own started (by kernel_rfl) Tryd.func4
    (ChangeSpec.witness_shaped (enc := enc) (C := Tryd.checked) (os := os) (X := fun w _ => laidMetH Tryd.prog laidL w) false (World.doorLaid Tryd.prog 400 os) #[] 8 rfl (World.shaped_of_RefB (by kernel_rfl) (by kernel_rfl)) (by kernel_rfl) (by kernel_rfl) (by kernel_rfl) (door_met os _)) ?_
  intro W base args ds gs before hval0 hW hcnd hsz0 hL _
  have hsz : (DataW.weightsEach Tryd.prog (Tryd.f4.params.toList ++ Rows.natKnownSpec.plain.varTypes Tryd.prog) (ds ++ gs)).all (· ≤ reachBytes) = true := hsz0
  have hval : ∀ (j : Nat) t v, Tryd.f4.params[j]? = some t → args[j]? = some v → Value.okWide Tryd.prog W .any base t v := hval0
  have hW' := hW
  obtain ⟨p, q, hA0, hV, rfl, hfz, hnd⟩ := hW
  have hA : DataW.TrodAll enc Tryd.prog W 0 (fun _ => true) true Tryd.f4.params.toList args.toList ds p := hA0
  rw [Tryd.params4] at hA hval hsz
  obtain ⟨rfl, rfl, rfl⟩ := trodAll_none hA
  obtain ⟨rfl, rfl⟩ := trodVars_none hV
  clear hA0 hval0 hsz0 hsz
  refine (walk W (globs hL) ).mono fun e W' ⟨he, bel⟩ => ?_
  subst he
  exact ⟨_, rfl, _, _, _, [], _, [], hW', trodAll_mk1 (shut_bool Tryd.underlying4 _), trodAll_mk0, rfl, bel.frame _, fun h => by cases h⟩

theorem over : Rows.natKnownRow.holds Tryd.pinned (OpenSpec.ofChange Rows.natKnownSpec) :=
  OpenClaim.holds_of_wide 4 Tryd.f4 rfl rfl rfl rfl rfl rfl rfl ⟨rfl, rfl, rfl, rfl, rfl⟩ rfl rfl rfl rfl rfl (by kernel_rfl) Tryd.func4 (by kernel_rfl)
    (of_decide_eq_true (by kernel_rfl)) (by unfold Func.isWrapper; first | (rw [if_pos (by decide +kernel)]; kernel_rfl) | (rw [if_neg (by decide +kernel)]; exact ⟨rfl, rfl⟩))
    (fun os started H enc _ => lifted os started H enc)
end Go.Proofs.YtcdnonggajoghaaDoor.natKnown
namespace Go.Proofs.YtcdnonggajoghaaDoor
open Go Go.RowKit
theorem natKnown_row : Rows.NatKnownSaid := natKnown.over
/-- NatKnown: for every input the law answers true, and its arguments stand as they stood; the tables are as the program lays them. -/
theorem natKnown_holds : Rows.NatKnownCardSaid :=
  Claim7.holds_tied_plain_at .later [] [.data] true (true, "21b5c27c4c3a47a1a7c06e579ba3f21a0c8b75841bf56b43c6f9213850155b11") false
    natKnown_row (fun _ h => by cases h) (by kernel_rfl) (fun _ h => by cases h) natKnown_row_tie rfl ⟨rfl, rfl⟩ (by kernel_rfl) rfl
    (fun f fn hf hfn => by
      obtain rfl : f = 4 := Option.some.inj ((show Tryd.prog.funcNamed "parlour/parlourlaw01.NatKnown" = some 4 by kernel_rfl).symm.trans hf) |>.symm
      obtain rfl : fn = Tryd.f4 := (Option.some.inj (Tryd.func4.symm.trans hfn)).symm
      exact ⟨by kernel_rfl, fun j t ht => by
        rw [Tryd.params4] at ht
        have hm : t ∈ ([] : List Nat) := by simpa using Array.mem_of_getElem? ht
        have hall : (([] : List Nat).all fun u => !Tryd.prog.wantsStandIn u) = true := by kernel_rfl
        exact (show Tryd.prog.wantsStandIn t = false by simpa using List.all_eq_true.1 hall t hm)⟩)
    (by kernel_rfl)
#print axioms natKnown_holds
end Go.Proofs.YtcdnonggajoghaaDoor

