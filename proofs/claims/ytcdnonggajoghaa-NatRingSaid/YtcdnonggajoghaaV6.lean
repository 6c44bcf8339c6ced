/- A call that borrows the caller's blocks and returns new ones. -/
import Derived.Test.YtcdnonggajoghaaV5
namespace Go.Proofs.Ytcdnonggajoghaa
open Go Go.RowKit
set_option linter.unusedVariables false
set_option linter.unusedSimpArgs false

/-- A result of the call's own: slices of values that name no memory. -/
inductive Fs (H : Heap) : AV → AV → Prop
  | sc {v v' : AV} (e : v = v') (h : v'.sc) : Fs H v v'
  | nsl : Fs H .nsl (.dsl [] 0)
  | osl {b ver off len sz : Nat} {e : TypeId} {cs cs' : List AV} (h : H[b]? = some (.cells ver e cs)) (hc : (cs.drop off).take (len * sz) = cs') (hs : AV.sc.scL cs') : Fs H (.osl b ver off len sz) (.dsl cs' len)
  | two {a b a' b' : AV} (h : Fs H a a') (k : Fs H b b') : Fs H (.tup [a, b]) (.tup [a', b'])

section
variable {E : Env} {K K0 : Conc} {H H0 : Heap} {w w' : World}

theorem Fs.sound (hH0 : HR E K0 H0 w') (hB : K0.B = w.heap.size) (hH : HR E K H w) : ∀ {v v' : AV} {cv : Value}, Fs H0 v v' → VR K0 v cv → VR (K.after w w') v' cv
  | _, _, cv, .sc e hs, h => by subst e; exact VR.sc _ cv hs h
  | _, _, cv, .nsl, h => by
    simp only [VR] at h ⊢
    exact ⟨none, 0, h, Nat.le_refl _, fun hne => absurd rfl hne⟩
  | .osl b ver off len sz, _, cv, .osl (e := e) (cs := cs) hb hc hs, h => by
    subst hc
    obtain ⟨i, hi, ho⟩ := hH0.info hb
    obtain ⟨hv, arr, h1, h2, h3, h4, h5⟩ := ho
    obtain ⟨cap, e1, e2, e3, e4⟩ := VR.osl_eq h hi hv
    subst e1
    simp only [VR]
    have hlow := hH0.low b i hi
    rw [hB] at hlow
    refine ⟨_, cap, rfl, e2, fun hne => ⟨i.c, off, rfl, CR.of (VRL.sc _ _ hs (VRL.take _ (VRL.drop off h5))) (fun j u hj => ?_) (List.all_eq_true.2 fun x hx => List.all_eq_true.1 h3 x (List.mem_of_mem_drop (List.mem_of_mem_take hx)))⟩⟩
    have hcell : w'.cell? ⟨i.c, off + j, none⟩ = some u := by
      rw [cell_of_arr h1]
      rw [List.getElem?_take] at hj
      split at hj
      · rw [List.getElem?_drop, List.getElem?_take] at hj
        split at hj
        · simpa using hj
        · cases hj
      · cases hj
    simp only [Conc.after]
    split
    · rename_i u' hu'
      have := hH.imm_lt hu'
      omega
    · rw [if_pos hlow]; exact hcell
  | _, _, cv, .two h1 h2, h => by
    simp only [VR, VRL] at h ⊢
    obtain ⟨us, e, u1, l1, e1, v1, u2, l2, e2, v2, e3⟩ := h
    exact ⟨us, e, u1, l1, e1, Fs.sound hH0 hB hH h1 v1, u2, l2, e2, Fs.sound hH0 hB hH h2 v2, e3⟩

/-- As 'lend'; the result may bear slices that the call made. -/
theorem VCall.lendF {g : FuncId} {args args' : List AV} {R Q : AV → Heap → Prop} (h : VCall E g args' [] R) (hf : FzL H 0 [] args args') (hR : ∀ v0 H0, R v0 H0 → ∃ v', Fs H0 v0 v' ∧ Q v' H) : VCall E g args H Q := by
  refine ⟨h.ok, fun K cargs w hH hv => ?_⟩
  have hA := hH.alone (imm := fun c o => w.cell? ⟨c, o, none⟩) hH.imm (fun _ _ _ h => h)
  have hv0 : VRL (Conc.alone (fun c o => w.cell? ⟨c, o, none⟩) w) args' cargs :=
    hf.sound hH (K' := Conc.alone (fun c o => w.cell? ⟨c, o, none⟩) w) ⟨hH.imm, fun b i hb => absurd hb (Nat.not_lt_zero _), fun j b i hj => by simp at hj, fun b i o v _ _ hb hc => hc⟩ hv
  refine (h.call _ cargs w hA hv0).mono fun e w' q => ?_
  obtain ⟨v0, cv, K0, H0, rfl, hx, hH0, hr, hq⟩ := q
  obtain ⟨v', hz, hq'⟩ := hR v0 H0 hq
  have hB : K0.B = w.heap.size := hx.hB
  have hw0 : K0.w0 = w := hx.hw
  have hbel : Below w.heap.size w w' := by have := hH0.below; rw [hB, hw0] at this; exact this
  exact ⟨v', cv, K.after w w', H, rfl, Ext.after hH w', hH.after hbel, hz.sound hH0 hB hH hr, hq'⟩

/-- What a loop leaves by its exit, said once. -/
theorem VLoop.cut {N : Nat} {rd : Option Nat} {c : Code} {s : St} {Q : Exit → St → Prop} {κ : Type} (id : Nat) (st' : κ → St) (P : κ → Prop) (h : VLoop E N rd c (fun e s => e = .exit id ∧ ∃ y, P y ∧ Meets (st' y) s) s)
    (k : ∀ y, P y → Q (.exit id) (st' y)) : VLoop E N rd c Q s := by
  refine ⟨fun K ro a w hr => wpIn_mono (h.run K ro a w hr) fun e a' w' q => ?_⟩
  obtain ⟨K', s', hx, hr', rfl, y, hy, hm⟩ := q
  refine ⟨K', st' y, hx, ⟨?_, hr'.F.sub (vsub_ok hm.fr), ?_, hr'.R⟩, k y hy⟩
  · have := hr'.H; rw [hm.H] at this; exact this
  · have := hr'.D; rw [hm.df] at this; exact this

end

end Go.Proofs.Ytcdnonggajoghaa
