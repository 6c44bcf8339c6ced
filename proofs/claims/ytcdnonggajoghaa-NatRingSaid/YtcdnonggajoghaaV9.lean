/- Ranges over functions and their rounds, as they unfold. -/
import Derived.Test.YtcdnonggajoghaaV8
namespace Go.Proofs.Ytcdnonggajoghaa
open Go Go.RowKit
set_option linter.unusedVariables false
set_option linter.unusedSimpArgs false

/-- A code's ranges over functions: parameters, what is assigned, body. -/
def rangesOf : Code → List (Array Tmp × Code × Code)
  | .seq x y => rangesOf x ++ rangesOf y
  | .cond _ x y => rangesOf x ++ rangesOf y
  | .block _ c => rangesOf c
  | .scope c => rangesOf c
  | .loop c => rangesOf c
  | .rangeFunc _ ps a b => (ps, a, b) :: rangesOf b
  | _ => []
def nthRange (f : Func) (k : Nat) : Array Tmp × Code × Code := match f.body with
  | some c => ((rangesOf c)[k]?).getD (#[], .skip, .skip)
  | none => (#[], .skip, .skip)
/-- The record of a function's k-th range. -/
def rangeObj (f : Func) (k : Nat) (fr : Fr) (d : Nat) : AObj := .loop .ready none fr f.ntmps (nthRange f k).1 (nthRange f k).2.1 (nthRange f k).2.2 d

/-- What follows something in a code, each before those inside it. -/
def seqsOf : Code → List Code
  | .seq x y => y :: (seqsOf x ++ seqsOf y)
  | .cond _ x y => seqsOf x ++ seqsOf y
  | .block _ c => seqsOf c
  | .scope c => seqsOf c
  | .loop c => seqsOf c
  | .rangeFunc _ _ a b => seqsOf a ++ seqsOf b
  | _ => []
def nthSeq (f : Func) (k : Nat) : Code := match f.body with
  | some c => ((seqsOf c)[k]?).getD .skip
  | none => .skip

section
variable {E : Env} {m : Bool} {N : Nat} {rd : Option Nat} {Q : Exit → St → Prop} {s : St}

/-- What a range over a function owes once the function has been called. -/
def vloopEnd (E : Env) (m : Bool) (N : Nat) (rd : Option Nat) (b : Nat) (Q : Exit → St → Prop) (fr : Fr) (df : List Nat) (H2 : Heap) : Prop :=
  match H2[b]? with
  | some (.loop st pend _ _ _ _ _ _) => match st with
    | .busy => False
    | _ => match pend with
      | none => forceH (H2.set b .gone) fun H => Q .normal ⟨fr, H, df⟩
      | some c => forceH (H2.set b .gone) fun H => vcode E m N rd c Q ⟨fr, H, df⟩
  | _ => False

theorem vloopEnd_ok {b : Nat} {fr : Fr} {df : List Nat} {H2 : Heap} (h : vloopEnd E m N rd b Q fr df H2) : LoopEnd E N rd b Q fr df H2 := by
  unfold vloopEnd at h
  split at h
  · rename_i st pend fr' n ps asg body d hb
    split at h
    · exact h.elim
    · rename_i hst
      refine ⟨st, pend, fr', n, ps, asg, body, d, hb, hst, ?_⟩
      cases pend with
      | none => exact of_forceH h
      | some c => exact vcode_ok (of_forceH (Q := fun H => vcode E m N rd c Q ⟨fr, H, df⟩) h)
  · exact h.elim

/-- An outermost loop. -/
theorem VRange.out (m : Bool) {g : Operand} {ps : Array Tmp} {asg body : Code} {f : FuncId} {first cap : List AV} (hg : ev E s.fr g = some (.fn (.func f) first cap))
    (h : VCall E f (first ++ [.yld (s.H.length + 1)] ++ cap) (s.H ++ [.dfr, .loop .ready none s.fr N ps asg body s.H.length]) fun _ H2 => vloopEnd E m N none (s.H.length + 1) Q s.fr (s.H.length :: s.df) H2) :
    VRange E N none g ps asg body Q s := by
  obtain ⟨fn, h1, h2, h3⟩ := h.ok.ex
  exact ⟨AWp.rangeFunc hg h1 h2 h3 (h.call.mono fun v H2 q => vloopEnd_ok q)⟩

/-- A loop in the round of another. -/
theorem VRange.in_ (m : Bool) {b0 : Nat} {g : Operand} {ps : Array Tmp} {asg body : Code} {f : FuncId} {first cap : List AV} (hg : ev E s.fr g = some (.fn (.func f) first cap))
    {st : LoopState} {pend : Option Code} {fr' : Fr} {n : Nat} {ps' : Array Tmp} {asg' body' : Code} {d : Nat} (hb0 : s.H[b0]? = some (.loop st pend fr' n ps' asg' body' d))
    (h : VCall E f (first ++ [.yld s.H.length] ++ cap) (s.H ++ [.loop .ready none s.fr N ps asg body d]) fun _ H2 => vloopEnd E m N (some b0) s.H.length Q s.fr s.df H2) :
    VRange E N (some b0) g ps asg body Q s := by
  obtain ⟨fn, h1, h2, h3⟩ := h.ok.ex
  exact ⟨AWp.rangeFuncIn hg h1 h2 h3 hb0 (h.call.mono fun v H2 q => vloopEnd_ok q)⟩

def vroundPost (b : Nat) (R : AV → Heap → Prop) (e : Exit) (s : St) : Prop :=
  match s.H[b]? with
  | some (.loop st pend fr n ps asg body d) => match e with
    | .normal => forceH (s.H.set b (.loop .ready none fr n ps asg body d)) (R (.bool true))
    | .ret => forceH (s.H.set b (.loop .done (some .ret) fr n ps asg body d)) (R (.bool false))
    | .exit i => forceH (s.H.set b (.loop .done (some (.exit i)) fr n ps asg body d)) (R (.bool false))
    | _ => False
  | _ => False

theorem vroundPost_ok {b : Nat} {R : AV → Heap → Prop} {e : Exit} (h : vroundPost b R e s) : RoundPost b R e s := by
  unfold vroundPost at h
  split at h
  · rename_i st pend fr n ps asg body d hb
    refine ⟨st, pend, fr, n, ps, asg, body, d, hb, ?_⟩
    cases e with
    | normal => exact of_forceH h
    | ret => exact of_forceH h
    | exit i => exact of_forceH h
    | _ => exact h.elim
  · exact h.elim

def vround2 (E : Env) (m : Bool) (N : Nat) (b : Nat) (body : Code) (R : AV → Heap → Prop) (s1 : St) : Prop :=
  match s1.H[b]? with
  | some (.loop .ready pend1 fr1 n1 ps1 asg1 body1 d1) => forceH (s1.H.set b (.loop .busy pend1 fr1 n1 ps1 asg1 body1 d1)) fun H => vcode E m N (some b) body (vroundPost b R) ⟨s1.fr, H, s1.df⟩
  | _ => False

theorem VRound.of_body (m : Bool) {b : Nat} {args : List AV} {H : Heap} {R : AV → Heap → Prop} {pend : Option Code} {fr fr' : Fr} {ps : Array Tmp} {asg body : Code} {d : Nat} (hb : H[b]? = some (.loop .ready pend fr N ps asg body d)) (hl : args.length = ps.size)
    (hp : putArgs N (ps.toList.zip args) fr = some fr') (h : vcode E m N (some b) asg (Then (vround2 E m N b body R) (fun _ _ => False)) ⟨fr', H, []⟩) : VRound E b args H R := by
  refine ⟨ARound.of_body hb hl hp ((vcode_ok h).mono fun e s q => ?_)⟩
  cases e with
  | normal =>
    have q : vround2 E m N b body R s := q
    unfold vround2 at q
    split at q
    · rename_i pend1 fr1 n1 ps1 asg1 body1 d1 hb1
      exact ⟨pend1, fr1, n1, ps1, asg1, body1, d1, hb1, (vcode_ok (of_forceH (Q := fun H => vcode E m N (some b) body (vroundPost b R) ⟨s.fr, H, s.df⟩) q)).mono fun e s q => vroundPost_ok q⟩
    · exact q.elim
  | _ => exact q

def lowFr (n : Nat) : Fr → Prop
  | [] => True
  | (_, v) :: r => v.low n ∧ lowFr n r
theorem FzFr.sub {H : Heap} {n : Nat} {σ : List Nat} : ∀ {fr' fr : Fr}, lowFr n fr' → vsub fr' fr → FzFr H n σ fr' fr
  | [], fr, _, _ => trivial
  | (k, v) :: r, fr, h, hs => ⟨⟨v, hs.1, .same rfl h.1⟩, FzFr.sub h.2 hs.2⟩
theorem VRound.mono {b : Nat} {args : List AV} {H : Heap} {R R' : AV → Heap → Prop} (h : VRound E b args H R) (hq : ∀ v H, R v H → R' v H) : VRound E b args H R' := ⟨h.call.mono hq⟩
end

end Go.Proofs.Ytcdnonggajoghaa
