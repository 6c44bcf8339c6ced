/- The names of this program, and what is known of its types. -/
import Derived.Test.YtcdnonggajoghaaV3
import Derived.Test.YtcdnonggajoghaaProg
namespace Go.Proofs.Ytcdnonggajoghaa
open Go Go.RowKit
set_option linter.unusedVariables false
set_option maxRecDepth 100000

def tab : List (Option TI) := [
  none,
  (some (.mk 1 8 [.nfn] (.func #[] #[] false))),
  (some (.mk 1 8 [(.int .i64 (0))] (.int .i64))),
  (some (.mk 1 8 [(.int .i64 (0))] (.int .i64))),
  (some (.mk 1 1 [(.bool false)] .bool)),
  (some (.mk 1 1 [(.int .u8 (0))] (.int .u8))),
  (some (.mk 1 1 [(.int .u8 (0))] (.int .u8))),
  (some (.mk 4 24 [(.int .i64 (0)), (.int .i64 (0)), (.bool false), (.int .u8 (0))] (.struct #[(.mk "x" 2 0 false "" "runtime" 0), (.mk "y" 3 1 false "" "runtime" 8), (.mk "signed" 4 2 false "" "runtime" 16), (.mk "code" 6 3 false "" "runtime" 17)]))),
  (some (.mk 4 24 [(.int .i64 (0)), (.int .i64 (0)), (.bool false), (.int .u8 (0))] (.struct #[(.mk "x" 2 0 false "" "runtime" 0), (.mk "y" 3 1 false "" "runtime" 8), (.mk "signed" 4 2 false "" "runtime" 16), (.mk "code" 6 3 false "" "runtime" 17)]))),
  (some (.mk 1 16 [(.str (ByteArray.mk #[]))] .string)),
  (some (.mk 1 16 [(.str (ByteArray.mk #[]))] .string)),
  (some (.mk 1 16 [(.str (ByteArray.mk #[]))] .string)),
  (some (.mk 1 8 [(.int .u64 (0))] (.int .u64))),
  (some (.mk 2 24 [(.str (ByteArray.mk #[])), (.int .u64 (0))] (.struct #[(.mk "msg" 9 0 false "" "runtime" 0), (.mk "addr" 12 1 false "" "runtime" 16)]))),
  (some (.mk 2 24 [(.str (ByteArray.mk #[])), (.int .u64 (0))] (.struct #[(.mk "msg" 9 0 false "" "runtime" 0), (.mk "addr" 12 1 false "" "runtime" 16)]))),
  (some (.mk 1 8 [.nptr] (.pointer 71))),
  (some (.mk 1 8 [.nptr] (.pointer 74))),
  (some (.mk 1 8 [.nptr] (.pointer 83))),
  (some (.mk 1 8 [.nptr] (.struct #[(.mk "typ" 17 0 false "" "internal/runtime/maps" 0)]))),
  (some (.mk 1 8 [.nptr] (.struct #[(.mk "typ" 17 0 false "" "internal/runtime/maps" 0)]))),
  (some (.mk 1 16 [.niface] (.interface #[]))),
  (some (.mk 1 4 [(.int .i32 (0))] (.int .i32))),
  (some (.mk 1 24 [.nsl] (.slice 30))),
  (some (.mk 1 24 [.nsl] (.slice 30))),
  (some (.mk 1 8 [.nfn] (.func #[23, 3] #[4] false))),
  (some (.mk 1 8 [.nfn] (.func #[] #[4] false))),
  (some (.mk 1 8 [(.int .i64 (0))] (.int .i64))),
  none,
  (some (.mk 1 8 [.nfn] (.func #[23, 23] #[23, 23, 26] false))),
  (some (.mk 1 8 [.nfn] (.func #[22, 22] #[4] false))),
  (some (.mk 1 4 [(.int .u32 (0))] (.int .u32))),
  none,
  (some (.mk 1 8 [.nfn] (.func #[23, 23] #[23, 26] false))),
  (some (.mk 1 8 [.nfn] (.func #[23, 23] #[4] false))),
  (some (.mk 1 8 [.nfn] (.func #[22] #[23] false))),
  none,
  (some (.mk 1 8 [.nfn] (.func #[23, 23] #[3, 26] false))),
  (some (.mk 1 8 [.nfn] (.func #[23, 23] #[23] false))),
  (some (.mk 1 8 [.nfn] (.func #[23, 26, 22] #[4] true))),
  (some (.mk 1 8 [.nfn] (.func #[22, 22, 22] #[4] false))),
  (some (.mk 1 8 [.nfn] (.func #[23, 3] #[23, 26] false))),
  (some (.mk 1 8 [.nfn] (.func #[23, 23, 3] #[4] false))),
  (some (.mk 1 8 [.nfn] (.func #[3, 3] #[3] false))),
  (some (.mk 1 8 [.nfn] (.func #[22, 22, 22, 3, 3] #[4] false))),
  (some (.mk 1 8 [.nfn] (.func #[3] #[23, 26] false))),
  (some (.mk 1 8 [.nfn] (.func #[56] #[26] true))),
  none,
  (some (.mk 1 8 [.nfn] (.func #[23, 23] #[23, 23] false))),
  (some (.mk 1 8 [.nfn] (.func #[23, 23] #[26] false))),
  (some (.mk 1 8 [.nfn] (.func #[23, 23, 32] #[23, 26] false))),
  (some (.mk 1 8 [.nfn] (.func #[23] #[23, 26] false))),
  (some (.mk 1 8 [.nfn] (.func #[23, 23] #[3] false))),
  (some (.mk 1 8 [.nfn] (.func #[23] #[26] false))),
  (some (.mk 1 8 [(.int .u64 (0))] (.int .u64))),
  (some (.mk 1 8 [.nfn] (.func #[55] #[23] false))),
  (some (.mk 1 8 [(.int .u64 (0))] (.int .u64))),
  (some (.mk 1 24 [.nsl] (.slice 23))),
  (some (.mk 1 8 [.nfn] (.func #[23] #[23] false))),
  none,
  (some (.mk 1 8 [.nfn] (.func #[23, 55] #[23, 55] false))),
  (some (.mk 1 8 [.nfn] (.func #[23, 23, 55] #[4] false))),
  (some (.mk 1 8 [.nfn] (.func #[30] #[23] false))),
  (some (.mk 1 8 [.nfn] (.func #[67] #[] false))),
  (some (.mk 1 8 [.nfn] (.func #[67] #[] false))),
  (some (.mk 1 8 [.nfn] (.func #[23, 23] #[63] false))),
  (some (.mk 1 8 [.nfn] (.func #[23, 66] #[4] false))),
  (some (.mk 1 8 [.nfn] (.func #[30] #[4] false))),
  (some (.mk 1 8 [.nfn] (.func #[55, 55] #[4] false))),
  (some (.mk 1 8 [.nfn] (.func #[23, 66] #[3] false))),
  (some (.mk 1 8 [.nfn] (.func #[] #[9] false))),
  (some (.mk 4 40 [.nptr, .nptr, .nptr, (.str (ByteArray.mk #[]))] (.struct #[(.mk "_interface" 17 0 false "" "runtime" 0), (.mk "concrete" 17 1 false "" "runtime" 8), (.mk "asserted" 17 2 false "" "runtime" 16), (.mk "missingMethod" 9 3 false "" "runtime" 24)]))),
  (some (.mk 4 40 [.nptr, .nptr, .nptr, (.str (ByteArray.mk #[]))] (.struct #[(.mk "_interface" 17 0 false "" "runtime" 0), (.mk "concrete" 17 1 false "" "runtime" 8), (.mk "asserted" 17 2 false "" "runtime" 16), (.mk "missingMethod" 9 3 false "" "runtime" 24)]))),
  (some (.mk 0 0 [] (.array 0 16))),
  (some (.mk 0 0 [] (.struct #[(.mk "_" 72 0 false "" "runtime" 0)]))),
  (some (.mk 0 0 [] (.struct #[(.mk "_" 72 0 false "" "runtime" 0)]))),
  (some (.mk 1 8 [.nfn] (.func #[] #[3] false))),
  (some (.mk 1 1 [(.int .u8 (0))] (.int .u8))),
  (some (.mk 1 1 [(.int .u8 (0))] (.int .u8))),
  (some (.mk 1 8 [.nfn] (.func #[84, 84] #[4] false))),
  (some (.mk 1 8 [.nptr] (.pointer 5))),
  (some (.mk 1 4 [(.int .i32 (0))] (.int .i32))),
  (some (.mk 1 4 [(.int .i32 (0))] (.int .i32))),
  (some (.mk 11 48 [(.int .u64 (0)), (.int .u64 (0)), (.int .u32 (0)), (.int .u8 (0)), (.int .u8 (0)), (.int .u8 (0)), (.int .u8 (0)), .nfn, .nptr, (.int .i32 (0)), (.int .i32 (0))] (.struct #[(.mk "Size_" 12 0 false "" "" 0), (.mk "PtrBytes" 12 1 false "" "" 8), (.mk "Hash" 30 2 false "" "" 16), (.mk "TFlag" 76 3 false "" "" 20), (.mk "Align_" 5 4 false "" "" 21), (.mk "FieldAlign_" 5 5 false "" "" 22), (.mk "Kind_" 77 6 false "" "" 23), (.mk "Equal" 78 7 false "" "" 24), (.mk "GCData" 79 8 false "" "" 32), (.mk "Str" 80 9 false "" "" 40), (.mk "PtrToThis" 81 10 false "" "" 44)]))),
  (some (.mk 11 48 [(.int .u64 (0)), (.int .u64 (0)), (.int .u32 (0)), (.int .u8 (0)), (.int .u8 (0)), (.int .u8 (0)), (.int .u8 (0)), .nfn, .nptr, (.int .i32 (0)), (.int .i32 (0))] (.struct #[(.mk "Size_" 12 0 false "" "" 0), (.mk "PtrBytes" 12 1 false "" "" 8), (.mk "Hash" 30 2 false "" "" 16), (.mk "TFlag" 76 3 false "" "" 20), (.mk "Align_" 5 4 false "" "" 21), (.mk "FieldAlign_" 5 5 false "" "" 22), (.mk "Kind_" 77 6 false "" "" 23), (.mk "Equal" 78 7 false "" "" 24), (.mk "GCData" 79 8 false "" "" 32), (.mk "Str" 80 9 false "" "" 40), (.mk "PtrToThis" 81 10 false "" "" 44)]))),
  (some (.mk 1 8 [.nptr] .unsafePointer))]
def ptab : List (Option (Array (Nat × Nat))) := [
  none, none, none, none, none, none, none, (some #[(0, 1), (1, 1), (2, 1), (3, 1)]), (some #[(0, 1), (1, 1), (2, 1), (3, 1)]), none, none, none, none, (some #[(0, 1), (1, 1)]), (some #[(0, 1), (1, 1)]), none, none, none, (some #[(0, 1)]), (some #[(0, 1)]), none, none, none, none, none, none, none, none, none, none, none, none, none, none, none, none, none, none, none, none, none, none, none, none, none, none, none, none, none, none, none, none, none, none, none, none, none, none, none, none, none, none, none, none, none, none, none, none, none, none, (some #[(0, 1), (1, 1), (2, 1), (3, 1)]), (some #[(0, 1), (1, 1), (2, 1), (3, 1)]), none, (some #[(0, 0)]), (some #[(0, 0)]), none, none, none, none, none, none, none, (some #[(0, 1), (1, 1), (2, 1), (3, 1), (4, 1), (5, 1), (6, 1), (7, 1), (8, 1), (9, 1), (10, 1)]), (some #[(0, 1), (1, 1), (2, 1), (3, 1), (4, 1), (5, 1), (6, 1), (7, 1), (8, 1), (9, 1), (10, 1)]), none]
theorem tab_eq : tab = (List.range 85).map (tinfo Try.prog) := by kernel_rfl
theorem ptab_eq : ptab = (List.range 85).map (fplaces Try.prog) := by kernel_rfl
theorem tab_ok (t : Nat) (x : TI) (h : (tab[t]?).join = some x) : tinfo Try.prog t = some x := by
  rw [tab_eq, List.getElem?_map] at h
  rcases Nat.lt_or_ge t 85 with hl | hl
  · rw [List.getElem?_range hl] at h; simpa using h
  · rw [List.getElem?_eq_none (by simpa using hl)] at h; simp at h
theorem ptab_ok (t : Nat) (x : Array (Nat × Nat)) (h : (ptab[t]?).join = some x) : fplaces Try.prog t = some x := by
  rw [ptab_eq, List.getElem?_map] at h
  rcases Nat.lt_or_ge t 85 with hl | hl
  · rw [List.getElem?_range hl] at h; simpa using h
  · rw [List.getElem?_eq_none (by simpa using hl)] at h; simp at h

noncomputable def EE : Env := ⟨Try.prog, fun t => (tab[t]?).join, fun t => (ptab[t]?).join, fun _ => none, tab_ok, ptab_ok, fun _ _ h => nomatch h⟩
theorem mixed : EE.P.follows .mixedOrders = true := by kernel_rfl

end Go.Proofs.Ytcdnonggajoghaa
