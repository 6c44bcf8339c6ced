/- What is known of a program's types. -/
import Derived.Test.YtcdnonggajoghaaE0
namespace Go.Proofs.Ytcdnonggajoghaa
open Go Go.RowKit
set_option linter.unusedVariables false
set_option linter.unusedSimpArgs false

/-! ### Plain values -/
def ofCell : Value → Option AV
  | .bool b => some (.bool b)
  | .int k n => some (.int k n)
  | .string s => some (.str s)
  | .pointer none => some .nptr
  | .slice none 0 0 => some .nsl
  | .map none => some .nmap
  | .nilFunc => some .nfn
  | .nilIface => some .niface
  | _ => none
def ofCells : List Value → Option (List AV)
  | [] => some []
  | v :: vs => match ofCell v, ofCells vs with
    | some a, some as => some (a :: as)
    | _, _ => none
def ofV : Value → Option AV
  | .agg us => (ofCells us.toList).map .agg
  | .tuple us => if us.size = 0 then some (.tup []) else none
  | v => ofCell v

/-- Runs that neither read nor write. -/
def prun {α : Type} (P : Program) : Sem α → Option α
  | .pure a => some a
  | .program k => prun P (k P)
  | _ => none
theorem prun_run {α : Type} {P : Program} {s : Sem α} {a : α} (h : prun P s = some a) (w : World) : s.run P w = .ok a w := by
  induction s generalizing a with
  | pure x => simp only [prun] at h; cases h; rfl
  | program k ih => simp only [prun] at h; simp only [Sem.run]; exact ih P h
  | _ => simp [prun] at h

/-! ### Types -/
structure TI where
  size : Nat
  bytes : Nat
  zero : List AV
  desc : TypeDesc

def descAgg : TypeDesc → Bool
  | .struct _ | .array _ _ => true
  | _ => false
def valAgg : Value → Bool
  | .agg _ => true
  | _ => false

def tinfo (P : Program) (t : TypeId) : Option TI :=
  match P.info? t, P.underlying t with
  | some i, some d => match i.zero with
    | some z => if z.cells.size = i.size ∧ valAgg z = descAgg d then (ofCells z.cells.toList).map fun cs => ⟨i.size, i.bytes, cs, d⟩ else none
    | none => none
  | _, _ => none

theorem tinfo_spec {P : Program} {t : TypeId} {x : TI} (h : tinfo P t = some x) :
    ∃ i z, P.info? t = some i ∧ P.underlying t = some x.desc ∧ i.zero = some z ∧ ofCells z.cells.toList = some x.zero ∧ i.size = x.size ∧ i.bytes = x.bytes ∧ z.cells.size = i.size ∧ valAgg z = descAgg x.desc := by
  unfold tinfo at h
  split at h
  · rename_i i d h1 h2
    split at h
    · rename_i z hz
      split at h
      · rename_i hsz
        obtain ⟨cs, h3, h4⟩ := Option.map_eq_some_iff.1 h
        subst h4
        exact ⟨i, z, h1, h2, hz, h3, rfl, rfl, hsz.1, hsz.2⟩
      · cases h
    · cases h
  · cases h

def TI.isAgg (x : TI) : Bool := descAgg x.desc
/-- The zero value. -/
def TI.zv (x : TI) : Option AV := if x.isAgg then some (.agg x.zero) else match x.zero with
  | [z] => some z
  | _ => none

/-- Where the fields of a struct lie. -/
def fplaces (P : Program) (t : TypeId) : Option (Array (Nat × Nat)) :=
  match P.underlying t with
  | some (.struct fields) => prun P (fields.mapM fun f => do pure (f.offset, ← sizeOf f.type))
  | _ => none

/-- The program; what is known of its types and of its package-level variables. -/
structure Env where
  P : Program
  ti : TypeId → Option TI
  pl : TypeId → Option (Array (Nat × Nat))
  G : Nat → Option (List AV)
  ti_ok : ∀ t x, ti t = some x → tinfo P t = some x
  pl_ok : ∀ t x, pl t = some x → fplaces P t = some x
  G_low : ∀ g cs, G g = some cs → lowL 0 cs

def Env.un (E : Env) (t : TypeId) : Option TypeDesc := match E.ti t with
  | some x => some x.desc
  | none => none

theorem Env.un_ok {E : Env} {t : TypeId} {d : TypeDesc} (h : E.un t = some d) : E.P.underlying t = some d := by
  unfold Env.un at h
  split at h
  · rename_i x hx
    cases h
    obtain ⟨i, z, h1, h2, _⟩ := tinfo_spec (E.ti_ok _ _ hx)
    exact h2
  · cases h

end Go.Proofs.Ytcdnonggajoghaa
