/- The logic over abstract states: regions that draw their order. -/
import Derived.Test.YtcdnonggajoghaaE8
import Derived.StillTail
import Derived.OrdersIn
namespace Go.Proofs.Ytcdnonggajoghaa
open Go Go.RowKit
set_option linter.unusedVariables false
set_option linter.unusedSimpArgs false

def noDefer (ops : Array Oper) : Bool := ops.toList.all fun o => match o.op with | .defer _ => false | _ => true

/-- Operations that leave the memory alone, one after the other. -/
def aq (E : Env) (N : Nat) (ops : Array Oper) : List Oper → Fr → Heap → Option Fr
  | [], fr, _ => some fr
  | o :: r, fr, H => match gd fr ops o with
    | some true => match aopQ E fr H o.op o.type with
      | some v => match putd N fr o.dst v with
        | some fr' => aq E N ops r fr' H
        | none => none
      | none => none
    | some false => match putd N fr o.dst (.tup []) with
      | some fr' => aq E N ops r fr' H
      | none => none
    | none => none

section
variable {P : Program} {ops : Array Oper} {md : Region.Mode} {w : World}

theorem noDefer_spec (h : noDefer ops = true) {i : Nat} {o : Oper} (ho : ops[i]? = some o) (c : Call) : o.op ≠ .defer c := by
  intro hc
  have hm : o ∈ ops.toList := Array.mem_toList_iff.2 (Array.mem_of_getElem? ho)
  have := List.all_eq_true.1 h o hm
  rw [hc] at this
  cases this

theorem wpOpIn_of_stOp {ro : Option Nat} (hd : noDefer ops = true) {i : Nat} {a : Act} {K : Act → Prop} {K' : Act → World → Prop} {Q' : Exit → Act → World → Prop} (h : ∀ a, K a → K' a w) (hh : stOp P ops w i K a) :
    wpOpIn (fence ro) 0 P ops Q' i K' a w := by
  unfold stOp at hh
  unfold wpOpIn
  split
  · rename_i ho; simp only [ho] at hh; exact h _ hh
  · rename_i o ho
    simp only [ho] at hh
    split
    · rename_i hw
      simp only [hw, if_true] at hh
      refine ⟨about_wide rfl _, ?_⟩
      rw [show (fence ro).round = ro from rfl, Oper.semAt_eq ro a.eval o (noDefer_spec hd ho)]
      unfold Oper.still at hh
      generalize (execOp a.eval o).run P w = r at *
      cases r with
      | ok n w' =>
        cases n <;> simp only [Oper.stillUpon] at hh <;> simp only [Oper.uponIn]
        case enter f args =>
          obtain ⟨rfl, v, hc, hn⟩ := hh
          refine ⟨fun hh => by simp [fence, Fence.wide] at hh, ?_⟩
          have hc' : CallsIn (fence ro) 0 P f args w' fun e w'' => e = .returned v ∧ w'' = w' := callsIn_wide (n := 0) |>.2 hc
          exact hc'.mono fun e w'' ⟨he, hw⟩ => by subst he; subst hw; exact h _ hn
        all_goals (obtain ⟨rfl, h2⟩ := hh; exact h _ h2)
      | halt x w' => simp only [Oper.stillUpon] at hh
    · rename_i hw
      simp only [hw] at hh
      exact ⟨about_wide rfl _, h _ hh⟩

theorem wpAnyIn_of_head {ro : Option Nat} (hd : noDefer ops = true) {n g : Nat} {L : Array Bool → Act → Prop} {Q' : Exit → Act → World → Prop} (hL : ∀ listed a, L listed a → wpAnyIn (fence ro) 0 P md ops Q' g listed a w) :
    ∀ (f : Nat) (listed : Array Bool) (a : Act), wpAnyL P md ops w n L f listed a → wpAnyIn (fence ro) 0 P md ops Q' (f + g) listed a w
  | 0, listed, a, h => by rw [Nat.zero_add]; exact hL _ _ h
  | f + 1, listed, a, h => by
    rw [show f + 1 + g = (f + g) + 1 by omega]
    exact ⟨fun h0 => absurd h0 h.1, fun i hi => wpOpIn_of_stOp hd (fun a' h' => wpAnyIn_of_head hd hL f _ a' h') (h.2 i hi).2⟩

theorem wpAnyIn_of_seq {F : Fence} {Q' : Exit → Act → World → Prop} : ∀ (g k : Nat) (listed : Array Bool) (a : Act) (w : World), k + g = ops.size →
    Region.seqB md ops g k listed = true → wpOpsIn F 0 P ops Q' (List.range' k g) a w → wpAnyIn F 0 P md ops Q' g listed a w
  | 0, k, listed, a, w, _, hB, h => ⟨by simpa [Region.seqB] using hB, h⟩
  | g + 1, k, listed, a, w, hl, hB, h => by
    simp only [Region.seqB, Bool.and_eq_true, decide_eq_true_eq] at hB
    refine ⟨fun h1 => (by rw [hB.1] at h1; cases h1), fun i hi => ?_⟩
    rw [hB.1] at hi
    have hik : i = k := by simpa using hi
    subst hik
    rw [List.range'_succ, wpOpsIn_cons] at h
    exact wpOpIn_mono (fun a' w' h' => wpAnyIn_of_seq g (i + 1) _ a' w' (by omega) hB.2 h') h

theorem wpAnyIn_of_still {ro : Option Nat} (hd : noDefer ops = true) {Q : Act → Prop} {Q' : Exit → Act → World → Prop} (hQ : ∀ a, Q a → Q' .normal a w) : ∀ (fuel : Nat) (listed : Array Bool) (a : Act),
    wpAnyS P md ops w Q fuel listed a → wpAnyIn (fence ro) 0 P md ops Q' fuel listed a w
  | 0, _, _, h => ⟨h.1, hQ _ h.2⟩
  | fuel + 1, _, _, h => ⟨fun h0 => hQ _ (h.1 h0), fun i hi => wpOpIn_of_stOp hd (fun a' => wpAnyIn_of_still hd hQ fuel _ a') (h.2 i hi)⟩

end

section
variable {E : Env} {N : Nat} {rd : Option Nat} {Q Q' : Exit → St → Prop} {s : St} {K : Conc} {w : World}

theorem aq_sound {ops : Array Oper} {H : Heap} (hH : HR E K H w) : ∀ {l : List Oper} {fr fr' : Fr} {a : Act} {R : Act → Prop}, FR K N fr a.tmps → aq E N ops l fr H = some fr' →
    (∀ a', FR K N fr' a'.tmps → a'.defers = a.defers → R a') → wpStill E.P ops w R l a
  | [], fr, fr', a, R, hF, h, hR => by
    simp only [aq] at h
    cases h
    exact hR a hF rfl
  | o :: l, fr, fr', a, R, hF, h, hR => by
    simp only [aq] at h
    have dput : ∀ v, (a.put o.dst v).defers = a.defers := fun v => by cases o.dst <;> rfl
    split at h
    · rename_i hg
      split at h
      · rename_i v hv
        split at h
        · rename_i fr1 hp
          obtain ⟨_, cv, h1, h2⟩ := aopQ_sound hH hF hv
          simp only [wpStill, gd_sound hF hg, if_true]
          unfold Oper.still
          rw [h1]
          exact ⟨rfl, aq_sound hH (putd_sound hF h2 hp) h fun a' h3 h4 => hR a' h3 (h4.trans (dput cv))⟩
        · cases h
      · cases h
    · rename_i hg
      split at h
      · rename_i fr1 hp
        simp only [wpStill, gd_sound hF hg, Bool.false_eq_true, if_false]
        exact aq_sound hH (putd_sound (v := .tup []) (cv := undef) hF (by simp only [VR]; exact ⟨#[], rfl, rfl⟩) hp) h fun a' h3 h4 => hR a' h3 (h4.trans (dput undef))
      · cases h
    · cases h

/-- A region that draws its order and leaves the memory alone. -/
theorem AWp.drawQ {id : Nat} {ops : Array Oper} {fr' : Fr} (hm : E.P.follows .mixedOrders = true) (hB : Region.lexB .any ops = true) (hd : noDefer ops = true) (hq : aq E N ops ops.toList s.fr s.H = some fr')
    (h : Q .normal { s with fr := fr' }) : AWp E N rd (.region id ops true) Q s := by
  intro K ro a w hr
  refine wpIn_region_any hm ?_
  have hst := aq_sound (w := w.drew) (R := fun a' => FR K N fr' a'.tmps ∧ a'.defers = a.defers) hr.H.drew hr.F hq (fun a' h1 h2 => ⟨h1, h2⟩)
  simp only [Region.lexB, Bool.and_eq_true] at hB
  have h2 := wpAnyS_lex (md := .any) hB.1 ops.toList 0 (Array.replicate ops.size false) a (by simp) (by simpa using hB.2) hst
  refine wpAnyIn_of_still (w := w.drew) hd (Q := fun a' => FR K N fr' a'.tmps ∧ a'.defers = a.defers) (fun a' h3 => ?_) _ _ _ (by simpa using h2)
  exact ⟨K, { s with fr := fr' }, Ext.refl K, ⟨hr.H.drew, h3.1, by rw [h3.2]; exact hr.D, hr.R⟩, h⟩

/-- A region that draws its order: first what leaves the memory alone, then the rest in order. -/
theorem AWp.drawT {id : Nat} {ops : Array Oper} {fr' : Fr} (n : Nat) (hm : E.P.follows .mixedOrders = true) (hB : Region.lexTailB .any ops n = true) (hd : noDefer ops = true) (hq : aq E N ops (ops.toList.take n) s.fr s.H = some fr')
    (h : AIx E N rd ops (List.range' n (ops.size - n)) Q { s with fr := fr' }) : AWp E N rd (.region id ops true) Q s := by
  intro K ro a w hr
  refine wpIn_region_any hm ?_
  have hst := aq_sound (w := w.drew) (R := fun a' => FR K N fr' a'.tmps ∧ a'.defers = a.defers) hr.H.drew hr.F hq (fun a' h1 h2 => ⟨h1, h2⟩)
  simp only [Region.lexTailB, Bool.and_eq_true, decide_eq_true_eq] at hB
  obtain ⟨⟨⟨⟨hsel, hn⟩, hs⟩, hc⟩, hlex⟩ := hB
  have htl : (ops.toList.take n).length = n := by simp; omega
  have inv0 : HeadInv .any ops n (Array.replicate ops.size false) :=
    ⟨by simp, fun j oj _ hl => (by rw [getD_replicate_false] at hl; cases hl), fun t _ ht => getD_in (by simpa using ht) (getD_replicate_false _ _)⟩
  have H := wpAnyL_lex (md := .any) (g := ops.size - n) hsel hs hc hn (ops.toList.take n) 0 _ a (fun j hj => by
    have hj' : j < n := by rw [htl] at hj; exact hj
    simp [hj']) (by simpa using htl) inv0 (by rw [htl]; exact hlex) hst
  have := wpAnyIn_of_head (Q' := SPost E K N rd ro Q) (ro := ro) hd (g := ops.size - n) (fun listed a' hL => wpAnyIn_of_seq (ops.size - n) n listed a' w.drew (by omega) hL.1
    (h K K ro a' w.drew (Ext.refl K) ⟨hr.H.drew, hL.2.1, by rw [hL.2.2]; exact hr.D, hr.R⟩)) _ _ _ H
  rw [htl, show n + (ops.size - n) = ops.size by omega] at this
  exact this

end

end Go.Proofs.Ytcdnonggajoghaa
