/- What is new may be data at once. -/
import Derived.Test.YtcdnonggajoghaaV0
namespace Go.Proofs.Ytcdnonggajoghaa
open Go Go.RowKit
set_option linter.unusedVariables false
set_option linter.unusedSimpArgs false

theorem CR.of {K : Conc} : ∀ {cs : List AV} {us : List Value} {b o : Nat}, VRL K cs us → (∀ j u, us[j]? = some u → K.imm b (o + j) = some u) → cs.all AV.one = true → CR K cs b o
  | [], us, b, o, h, hi, ho => trivial
  | c :: cs, us, b, o, h, hi, ho => by
    simp only [VRL] at h
    obtain ⟨u, us', rfl, h1, h2⟩ := h
    simp only [List.all_cons, Bool.and_eq_true] at ho
    simp only [CR]
    refine ⟨ho.1, ⟨u, by simpa using hi 0 u rfl, h1⟩, CR.of h2 (fun j u' hj => ?_) ho.2⟩
    have := hi (j + 1) u' (by simpa using hj)
    rw [show o + 1 + j = o + (j + 1) by omega]
    exact this

theorem cell_of_arr {w : World} {c : Nat} {arr : Array Value} {e : TypeId} {x : Nat × Nat} (h : w.heap[c]? = some (.cells arr e x)) (j : Nat) : w.cell? ⟨c, j, none⟩ = arr[j]? := by
  simp [World.cell?, h]


/-- What becomes of a value and of the heap; a block may be given up: what lies in it is data from now on. -/
structure VNew (E : Env) (Kc : AV → Heap → Prop) (v : AV) (H : Heap) : Prop where
  ok : ∀ (K : Conc) (w : World) (cv : Value), HR E K H w → VR K v cv → ∃ K' v' H', Ext K K' ∧ HR E K' H' w ∧ VR K' v' cv ∧ Kc v' H'

section
variable {E : Env} {K : Conc} {H : Heap} {w : World} {Kc : AV → Heap → Prop} {v : AV}

theorem VNew.keep (h : Kc v H) : VNew E Kc v H := ⟨fun K w cv hH hv => ⟨K, v, H, Ext.refl K, hH, hv, h⟩⟩

def Conc.give (K : Conc) (c : Nat) (w : World) : Conc :=
  { K with imm := fun c' o => match K.imm c' o with
    | some v => some v
    | none => if c' = c then w.cell? ⟨c', o, none⟩ else none }

theorem HR.give (hH : HR E K H w) {b : Nat} {i : BI} {ob : AObj} (hb : H[b]? = some ob) (hi : K.blk[b]? = some i) : Ext K (K.give i.c w) ∧ HR E (K.give i.c w) (H.set b .gone) w ∧
    ∀ o v, w.cell? ⟨i.c, o, none⟩ = some v → (K.give i.c w).imm i.c o = some v := by
  have imm1 : ∀ c o v, K.imm c o = some v → (K.give i.c w).imm c o = some v := fun c o v h => by simp [Conc.give, h]
  have hx : Ext K (K.give i.c w) := by
    refine ⟨imm1, Nat.le_refl _, fun b i e => ⟨i, e, Nat.le_refl _, fun _ => rfl⟩, rfl, rfl, fun c o v e => ?_⟩
    simp only [Conc.give] at e
    split at e
    · rename_i u hu; cases e; exact .inl hu
    · split at e
      · rename_i hc; subst hc; exact .inr (hH.low b i hi)
      · cases e
  have hbl : b < H.length := (List.getElem?_eq_some_iff.1 hb).1
  refine ⟨hx, ⟨by simpa [Conc.give] using hH.len, fun b' o' j e e' => ?_, hH.low, hH.inj, fun b' j o' oo eo ek e => ?_, fun c o v e => ?_, hH.below, hH.hB, fun g cs e => CR.ext hx _ _ _ (hH.glob g cs e)⟩, fun o v e => ?_⟩
  · have e' : K.blk[b']? = some j := e'
    by_cases hbb : b = b'
    · subst hbb
      simp [hbl] at e
      subst e
      exact hH.at_ e'
    · exact (hH.obj b' o' j (by simpa [hbb] using e) e').mono hx rfl
  · have e : K.blk[b']? = some j := e
    by_cases hbb : b = b'
    · subst hbb
      simp [hbl] at eo
      subst eo
      cases ek
    · have h1 := hH.off b' j o' oo (by simpa [hbb] using eo) ek e
      simp only [Conc.give, h1]
      rw [if_neg]
      intro hc
      exact hbb (hH.inj b b' i j hi e hc.symm)
  · simp only [Conc.give] at e
    split at e
    · rename_i u hu; cases e; exact hH.imm c o _ hu
    · split at e
      · exact e
      · cases e
  · simp only [Conc.give]
    split
    · rename_i u hu
      rw [hH.imm _ _ _ hu] at e
      exact e
    · simpa using e

theorem HR.giveSlice (hH : HR E K H w) {b ver e : Nat} {cs : List AV} (hb : H[b]? = some (.cells ver e cs)) : ∃ K', Ext K K' ∧ HR E K' (H.set b .gone) w ∧
    ∀ off len sz cv, VR K (.osl b ver off len sz) cv → VR K' (.dsl ((cs.drop off).take (len * sz)) len) cv := by
  obtain ⟨i, hi, ho⟩ := hH.info hb
  obtain ⟨hv, arr, h1, h2, h3, h4, h5⟩ := ho
  obtain ⟨hx, hg, hk⟩ := hH.give hb hi
  refine ⟨_, hx, hg, fun off len sz cv h => ?_⟩
  obtain ⟨cap, e1, e2, e3, e4⟩ := VR.osl_eq h hi hv
  subst e1
  simp only [VR]
  refine ⟨_, cap, rfl, e2, fun hne => ⟨i.c, off, rfl, CR.of (VRL.ext hx _ _ (VRL.take _ (VRL.drop off h5))) (fun j u hj => ?_) (List.all_eq_true.2 fun x hx => List.all_eq_true.1 h3 x (List.mem_of_mem_drop (List.mem_of_mem_take hx)))⟩⟩
  refine hk _ _ ?_
  rw [cell_of_arr h1]
  rw [List.getElem?_take] at hj
  split at hj
  · rw [List.getElem?_drop, List.getElem?_take] at hj
    split at hj
    · simpa using hj
    · cases hj
  · cases hj

/-- What was built becomes data. -/
theorem VNew.dat {b ver off len sz e : Nat} {cs cs' : List AV} (hb : H[b]? = some (.cells ver e cs)) (hcs : (cs.drop off).take (len * sz) = cs') (h : forceH (H.set b .gone) (Kc (.dsl cs' len))) : VNew E Kc (.osl b ver off len sz) H := by
  refine ⟨fun K w cv hH hv => ?_⟩
  obtain ⟨K', h1, h2, h3⟩ := hH.giveSlice hb
  exact ⟨K', _, _, h1, h2, hcs ▸ h3 off len sz cv hv, of_forceH h⟩
end

end Go.Proofs.Ytcdnonggajoghaa
