/- Loops by themselves. -/
import Derived.Test.YtcdnonggajoghaaV6
namespace Go.Proofs.Ytcdnonggajoghaa
open Go Go.RowKit
set_option linter.unusedVariables false
set_option linter.unusedSimpArgs false

/-- The bodies of a code's loops, each before those inside it. -/
def loopsOf : Code → List Code
  | .seq x y => loopsOf x ++ loopsOf y
  | .cond _ x y => loopsOf x ++ loopsOf y
  | .block _ c => loopsOf c
  | .scope c => loopsOf c
  | .loop c => c :: loopsOf c
  | .rangeFunc _ _ _ b => loopsOf b
  | _ => []
def nthLoop (f : Func) (k : Nat) : Code := match f.body with
  | some c => ((loopsOf c)[k]?).getD .skip
  | none => .skip

section
variable {E : Env} {N : Nat} {rd : Option Nat} {c : Code} {s : St} {Q Q' : Exit → St → Prop}

theorem VLoop.mono (h : VLoop E N rd c Q s) (hq : ∀ e s, Q e s → Q' e s) : VLoop E N rd c Q' s :=
  ⟨fun K ro a w hr => wpIn_mono (h.run K ro a w hr) fun e a' w' ⟨K', s', hx, hr', q⟩ => ⟨K', s', hx, hr', hq _ _ q⟩⟩

theorem VLoop.meets {s0 : St} (h : VLoop E N rd c Q s0) (hm : Meets s0 s) : VLoop E N rd c Q s := by
  have e : s0 = ⟨s0.fr, s.H, s.df⟩ := by rw [hm.H, hm.df]
  rw [e] at h
  exact ⟨h.run.forget hm.fr⟩

/-- A loop proved by itself. -/
theorem VLoop.use {κ : Type} {id : Nat} {st' : κ → St} {P : κ → Prop} {s0 : St} (h : VLoop E N rd c (fun e s => e = .exit id ∧ ∃ y, P y ∧ Meets (st' y) s) s0) (hm : Meets s0 s)
    (k : ∀ y, P y → Q (.exit id) (st' y)) : VLoop E N rd c Q s := VLoop.cut id st' P (h.meets hm) k
end

/-- A call whose arguments are data and whose result becomes this value. -/
theorem VCall.iso {E : Env} {g : FuncId} {args : List AV} {H : Heap} {r : AV} {Q : AV → Heap → Prop} (h : VCall E g args [] fun v H => Fz H 0 [] v r) (hl : lowL 0 args) (k : Q r H) : VCall E g args H Q :=
  VCall.isolate h hl fun _ _ hz => ⟨_, hz, k⟩
/-- The same where the result is said as an equation. -/
theorem VCall.isoS {E : Env} {g : FuncId} {args : List AV} {H : Heap} {r : AV} {Q : AV → Heap → Prop} (h : VCall E g args [] fun v H => v = r) (hr : r.low 0) (hl : lowL 0 args) (k : Q r H) : VCall E g args H Q :=
  VCall.isolate h hl fun _ _ hz => ⟨_, .same hz hr, k⟩

end Go.Proofs.Ytcdnonggajoghaa
