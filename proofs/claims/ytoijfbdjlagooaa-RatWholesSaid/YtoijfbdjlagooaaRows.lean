/-
  No cell of these rows narrows 'for every input' (looked for: loops, veiled, ifaces, maps, wideKeys, modest, calm, conditions, laid).
  DERIVED. THE GIVEN ROWS OF THIS SEAT. 6 by the template 'for every input the law returns true; each argument reads behind the call as it read before'; 0 by the template 'total and deterministic' (their statements: YtoijfbdjlagooaaTotals.lean).
  GIVEN WITH THE SEED: the statements are not yours to turn. If you find one false, say at which input.
  Laid BY PROGRAM, IN A SANDBOX (cutbox-rows.mjs): the forced cells as the released guide's own fill.sh prints them over the translation fe3eafb5da97a2fa… (all of the seat's roots in one cut). By AI agents, Wed Nov 11 2026. No macro, syntax, notation, axiom, sorry.
-/
import Derived.Test.YtoijfbdjlagooaaChecked
import GoSem.Claim
import GoSem.ClaimJoined
import GoSem.ClaimMapViews
import Derived.JoinedTies
import Derived.KernelRfl
namespace Go.Proofs.Ytoijfbdjlagooaa
/- THE CELL 'sum', in the pinned program and in every row, IS THE sha256 OF THE DUMP (.gsa) THAT YtoijfbdjlagooaaProg.lean LOADS. Nothing in Lean hashes anything: it is a label: what it is worth is what the hold of that sum in a sandbox is worth. -/
noncomputable def Try.pinned : Pinned := { name := "ytoijfbdjlagooaa", sum := "fe3eafb5da97a2fa2b4cb3fdf50e3d4778f7eebd0979bfc8cfc854e5dcfa368f", checked := Try.checked }
namespace Rows
def none {H : Type} : Left H := { results := [], args := [] }

/-- 'parlourlaw02.RatSimples': WHATEVER THE INPUT: true; the input reads as it did. -/
def ratSimplesSpec : ChangeSpec := { name := "ratSimples", fn := fun _ => fun
  | [d1, d2] => { results := [.lit (.bool true)], args := [d1, d2] }
  | _ => none }
def ratSimplesRow : OpenClaim := { program := "ytoijfbdjlagooaa", sum := "fe3eafb5da97a2fa2b4cb3fdf50e3d4778f7eebd0979bfc8cfc854e5dcfa368f", func := "parlour/parlourlaw02.RatSimples", spec := "ratSimples", unfollowed := true, recurses := true, apart := false }
def RatSimplesSaid : Prop := ratSimplesRow.holds Try.pinned (OpenSpec.ofChange ratSimplesSpec)

/-- ITS FALSE NEIGHBOUR: 'it returns false'. Refute it at one input. -/
def ratSimplesWrong : ChangeSpec := { name := "ratSimples", fn := fun _ => fun
  | [d1, d2] => { results := [.lit (.bool false)], args := [d1, d2] }
  | _ => none }
def RatSimplesWrongFalsely : Prop := ratSimplesRow.holds Try.pinned (OpenSpec.ofChange ratSimplesWrong)

/-- 'parlourlaw02.RatSimplest': WHATEVER THE INPUT: true; the input reads as it did. -/
def ratSimplestSpec : ChangeSpec := { name := "ratSimplest", fn := fun _ => fun
  | [d] => { results := [.lit (.bool true)], args := [d] }
  | _ => none }
def ratSimplestRow : OpenClaim := { program := "ytoijfbdjlagooaa", sum := "fe3eafb5da97a2fa2b4cb3fdf50e3d4778f7eebd0979bfc8cfc854e5dcfa368f", func := "parlour/parlourlaw02.RatSimplest", spec := "ratSimplest", unfollowed := true, recurses := true, apart := false }
def RatSimplestSaid : Prop := ratSimplestRow.holds Try.pinned (OpenSpec.ofChange ratSimplestSpec)

/-- ITS FALSE NEIGHBOUR: 'it returns false'. Refute it at one input. -/
def ratSimplestWrong : ChangeSpec := { name := "ratSimplest", fn := fun _ => fun
  | [d] => { results := [.lit (.bool false)], args := [d] }
  | _ => none }
def RatSimplestWrongFalsely : Prop := ratSimplestRow.holds Try.pinned (OpenSpec.ofChange ratSimplestWrong)

/-- 'parlourlaw02.RatSums': WHATEVER THE INPUT: true; the input reads as it did. -/
def ratSumsSpec : ChangeSpec := { name := "ratSums", fn := fun _ => fun
  | [d1, d2] => { results := [.lit (.bool true)], args := [d1, d2] }
  | _ => none }
def ratSumsRow : OpenClaim := { program := "ytoijfbdjlagooaa", sum := "fe3eafb5da97a2fa2b4cb3fdf50e3d4778f7eebd0979bfc8cfc854e5dcfa368f", func := "parlour/parlourlaw02.RatSums", spec := "ratSums", unfollowed := true, recurses := true, apart := false }
def RatSumsSaid : Prop := ratSumsRow.holds Try.pinned (OpenSpec.ofChange ratSumsSpec)

/-- ITS FALSE NEIGHBOUR: 'it returns false'. Refute it at one input. -/
def ratSumsWrong : ChangeSpec := { name := "ratSums", fn := fun _ => fun
  | [d1, d2] => { results := [.lit (.bool false)], args := [d1, d2] }
  | _ => none }
def RatSumsWrongFalsely : Prop := ratSumsRow.holds Try.pinned (OpenSpec.ofChange ratSumsWrong)

/-- 'parlourlaw02.RatField': WHATEVER THE INPUT: true; the input reads as it did. -/
def ratFieldSpec : ChangeSpec := { name := "ratField", fn := fun _ => fun
  | [d1, d2, d3, d4] => { results := [.lit (.bool true)], args := [d1, d2, d3, d4] }
  | _ => none }
def ratFieldRow : OpenClaim := { program := "ytoijfbdjlagooaa", sum := "fe3eafb5da97a2fa2b4cb3fdf50e3d4778f7eebd0979bfc8cfc854e5dcfa368f", func := "parlour/parlourlaw02.RatField", spec := "ratField", unfollowed := true, recurses := true, apart := false }
def RatFieldSaid : Prop := ratFieldRow.holds Try.pinned (OpenSpec.ofChange ratFieldSpec)

/-- ITS FALSE NEIGHBOUR: 'it returns false'. Refute it at one input. -/
def ratFieldWrong : ChangeSpec := { name := "ratField", fn := fun _ => fun
  | [d1, d2, d3, d4] => { results := [.lit (.bool false)], args := [d1, d2, d3, d4] }
  | _ => none }
def RatFieldWrongFalsely : Prop := ratFieldRow.holds Try.pinned (OpenSpec.ofChange ratFieldWrong)

/-- 'parlourlaw02.RatOrder': WHATEVER THE INPUT: true; the input reads as it did. -/
def ratOrderSpec : ChangeSpec := { name := "ratOrder", fn := fun _ => fun
  | [d1, d2, d3, d4] => { results := [.lit (.bool true)], args := [d1, d2, d3, d4] }
  | _ => none }
def ratOrderRow : OpenClaim := { program := "ytoijfbdjlagooaa", sum := "fe3eafb5da97a2fa2b4cb3fdf50e3d4778f7eebd0979bfc8cfc854e5dcfa368f", func := "parlour/parlourlaw02.RatOrder", spec := "ratOrder", unfollowed := true, recurses := true, apart := false }
def RatOrderSaid : Prop := ratOrderRow.holds Try.pinned (OpenSpec.ofChange ratOrderSpec)

/-- ITS FALSE NEIGHBOUR: 'it returns false'. Refute it at one input. -/
def ratOrderWrong : ChangeSpec := { name := "ratOrder", fn := fun _ => fun
  | [d1, d2, d3, d4] => { results := [.lit (.bool false)], args := [d1, d2, d3, d4] }
  | _ => none }
def RatOrderWrongFalsely : Prop := ratOrderRow.holds Try.pinned (OpenSpec.ofChange ratOrderWrong)

/-- 'parlourlaw02.RatWholes': WHATEVER THE INPUT: true; the input reads as it did. -/
def ratWholesSpec : ChangeSpec := { name := "ratWholes", fn := fun _ => fun
  | [d1, d2, d3] => { results := [.lit (.bool true)], args := [d1, d2, d3] }
  | _ => none }
def ratWholesRow : OpenClaim := { program := "ytoijfbdjlagooaa", sum := "fe3eafb5da97a2fa2b4cb3fdf50e3d4778f7eebd0979bfc8cfc854e5dcfa368f", func := "parlour/parlourlaw02.RatWholes", spec := "ratWholes", unfollowed := true, recurses := true, apart := false }
def RatWholesSaid : Prop := ratWholesRow.holds Try.pinned (OpenSpec.ofChange ratWholesSpec)

/-- ITS FALSE NEIGHBOUR: 'it returns false'. Refute it at one input. -/
def ratWholesWrong : ChangeSpec := { name := "ratWholes", fn := fun _ => fun
  | [d1, d2, d3] => { results := [.lit (.bool false)], args := [d1, d2, d3] }
  | _ => none }
def RatWholesWrongFalsely : Prop := ratWholesRow.holds Try.pinned (OpenSpec.ofChange ratWholesWrong)

/- THE SECOND FORM. 'bulk': how many values and letters a reading holds, each counted each time it is reached (what is shared counts as often as it is met; a slice's spare places count too). A statement '..UptoSaid' is the law's where the arguments, and the package variables that the reading takes, are together of bulk at most 1048576: NARROWER than '..Said'. Prove '..Said' where nothing that the law and all that it calls make is longer than what came in: it says more and counts as full. Else prove '..UptoSaid'. A law counts once. -/
mutual
def uptoBulk {H : Type} : DataW H → Nat
  | .lit (.string bytes) => bytes.length + 1
  | .lit _ => 1
  | .nil => 1
  | .ptr d => uptoBulk d + 1
  | .slice elems spare => uptoBulkAll elems + uptoBulkAll spare + 1
  | .agg parts => uptoBulkAll parts + 1
  | .iface _ d => uptoBulk d + 1
  | .map entries => uptoBulkEntries entries + 1
  | .held _ => 1
def uptoBulkAll {H : Type} : List (DataW H) → Nat
  | [] => 0
  | d :: r => uptoBulk d + uptoBulkAll r
def uptoBulkEntries {H : Type} : List (Lit × DataW H) → Nat
  | [] => 0
  | x :: r => uptoBulkEntry x + uptoBulkEntries r
def uptoBulkEntry {H : Type} : Lit × DataW H → Nat
  | (.string bytes, d) => bytes.length + uptoBulk d + 1
  | (_, d) => uptoBulk d + 1
 end
def uptoSmall : (H : Type) → List (DataW H) → Bool := fun _ ds => decide (uptoBulkAll ds ≤ 1048576)
def OpenSpec.upto (s : _root_.Go.ChangeSpec) : _root_.Go.OpenSpec := { _root_.Go.OpenSpec.ofChange s with cond := some uptoSmall }

/-- 'parlourlaw02.RatSimples', WHERE WHAT IT READS IS OF BULK AT MOST 1048576: true; the input reads as it did. -/
def ratSimplesUptoRow : OpenClaim := { program := "ytoijfbdjlagooaa", sum := "fe3eafb5da97a2fa2b4cb3fdf50e3d4778f7eebd0979bfc8cfc854e5dcfa368f", func := "parlour/parlourlaw02.RatSimples", spec := "ratSimples", unfollowed := true, recurses := true, apart := false, narrowed := true }
def RatSimplesUptoSaid : Prop := ratSimplesUptoRow.holds Try.pinned (OpenSpec.upto ratSimplesSpec)

/-- 'parlourlaw02.RatSimplest', WHERE WHAT IT READS IS OF BULK AT MOST 1048576: true; the input reads as it did. -/
def ratSimplestUptoRow : OpenClaim := { program := "ytoijfbdjlagooaa", sum := "fe3eafb5da97a2fa2b4cb3fdf50e3d4778f7eebd0979bfc8cfc854e5dcfa368f", func := "parlour/parlourlaw02.RatSimplest", spec := "ratSimplest", unfollowed := true, recurses := true, apart := false, narrowed := true }
def RatSimplestUptoSaid : Prop := ratSimplestUptoRow.holds Try.pinned (OpenSpec.upto ratSimplestSpec)

/-- 'parlourlaw02.RatSums', WHERE WHAT IT READS IS OF BULK AT MOST 1048576: true; the input reads as it did. -/
def ratSumsUptoRow : OpenClaim := { program := "ytoijfbdjlagooaa", sum := "fe3eafb5da97a2fa2b4cb3fdf50e3d4778f7eebd0979bfc8cfc854e5dcfa368f", func := "parlour/parlourlaw02.RatSums", spec := "ratSums", unfollowed := true, recurses := true, apart := false, narrowed := true }
def RatSumsUptoSaid : Prop := ratSumsUptoRow.holds Try.pinned (OpenSpec.upto ratSumsSpec)

/-- 'parlourlaw02.RatField', WHERE WHAT IT READS IS OF BULK AT MOST 1048576: true; the input reads as it did. -/
def ratFieldUptoRow : OpenClaim := { program := "ytoijfbdjlagooaa", sum := "fe3eafb5da97a2fa2b4cb3fdf50e3d4778f7eebd0979bfc8cfc854e5dcfa368f", func := "parlour/parlourlaw02.RatField", spec := "ratField", unfollowed := true, recurses := true, apart := false, narrowed := true }
def RatFieldUptoSaid : Prop := ratFieldUptoRow.holds Try.pinned (OpenSpec.upto ratFieldSpec)

/-- 'parlourlaw02.RatOrder', WHERE WHAT IT READS IS OF BULK AT MOST 1048576: true; the input reads as it did. -/
def ratOrderUptoRow : OpenClaim := { program := "ytoijfbdjlagooaa", sum := "fe3eafb5da97a2fa2b4cb3fdf50e3d4778f7eebd0979bfc8cfc854e5dcfa368f", func := "parlour/parlourlaw02.RatOrder", spec := "ratOrder", unfollowed := true, recurses := true, apart := false, narrowed := true }
def RatOrderUptoSaid : Prop := ratOrderUptoRow.holds Try.pinned (OpenSpec.upto ratOrderSpec)

/-- 'parlourlaw02.RatWholes', WHERE WHAT IT READS IS OF BULK AT MOST 1048576: true; the input reads as it did. -/
def ratWholesUptoRow : OpenClaim := { program := "ytoijfbdjlagooaa", sum := "fe3eafb5da97a2fa2b4cb3fdf50e3d4778f7eebd0979bfc8cfc854e5dcfa368f", func := "parlour/parlourlaw02.RatWholes", spec := "ratWholes", unfollowed := true, recurses := true, apart := false, narrowed := true }
def RatWholesUptoSaid : Prop := ratWholesUptoRow.holds Try.pinned (OpenSpec.upto ratWholesSpec)

end Rows
end Go.Proofs.Ytoijfbdjlagooaa
