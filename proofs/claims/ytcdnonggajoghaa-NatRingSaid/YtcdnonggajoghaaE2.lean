/- Operations over abstract values: what they come to, and that the machine's own come to the same. Part 1: values. -/
import Derived.Test.YtcdnonggajoghaaE1
namespace Go.Proofs.Ytcdnonggajoghaa
open Go Go.RowKit
set_option linter.unusedVariables false
set_option linter.unusedSimpArgs false

theorem ofCell_sound {K : Conc} {v : Value} {a : AV} (h : ofCell v = some a) : VR K a v ∧ a.one = true := by
  unfold ofCell at h
  split at h <;> first
    | (cases h; exact ⟨by simp [VR], rfl⟩)
    | cases h
theorem ofCells_sound {K : Conc} : ∀ (l : List Value) (as : List AV), ofCells l = some as → VRL K as l ∧ as.all AV.one = true
  | [], as, h => by cases h; exact ⟨rfl, rfl⟩
  | v :: vs, as, h => by
    simp only [ofCells] at h
    split at h
    · rename_i a as' h1 h2
      cases h
      obtain ⟨i1, i2⟩ := ofCells_sound vs as' h2
      obtain ⟨j1, j2⟩ := ofCell_sound (K := K) h1
      exact ⟨⟨v, vs, rfl, j1, i1⟩, by simp [j2, i2]⟩
    · cases h
theorem ofV_sound {K : Conc} {v : Value} {a : AV} (h : ofV v = some a) : VR K a v := by
  unfold ofV at h
  split at h
  · rename_i us
    obtain ⟨as, h1, h2⟩ := Option.map_eq_some_iff.1 h
    subst h2
    obtain ⟨i1, i2⟩ := ofCells_sound (K := K) _ _ h1
    exact ⟨i2, us, rfl, i1⟩
  · rename_i us
    split at h
    · rename_i h0
      cases h
      refine ⟨us, rfl, ?_⟩
      have : us.toList = [] := by simpa using h0
      rw [this]
      rfl
    · cases h
  · exact (ofCell_sound h).1

mutual
def toV : AV → Option Value
  | .bool b => some (.bool b)
  | .int k n => some (.int k n)
  | .str s => some (.string s)
  | .nptr => some (.pointer none)
  | .nsl => some (.slice none 0 0)
  | .nmap => some (.map none)
  | .nfn => some .nilFunc
  | .niface => some .nilIface
  | .iface t x => (toV x).map (.iface t)
  | .agg cs => (toVL cs).map fun l => .agg l.toArray
  | _ => none
def toVL : List AV → Option (List Value)
  | [] => some []
  | c :: cs => match toV c, toVL cs with
    | some v, some vs => some (v :: vs)
    | _, _ => none
end
mutual
theorem toV_sound {K : Conc} : ∀ (a : AV) (v u : Value), toV a = some v → VR K a u → u = v
  | .bool b, v, u, h, r => by simp only [toV, VR] at h r; cases h; exact r
  | .int k n, v, u, h, r => by simp only [toV, VR] at h r; cases h; exact r
  | .str s, v, u, h, r => by simp only [toV, VR] at h r; cases h; exact r
  | .nptr, v, u, h, r => by simp only [toV, VR] at h r; cases h; exact r
  | .nsl, v, u, h, r => by simp only [toV, VR] at h r; cases h; exact r
  | .nmap, v, u, h, r => by simp only [toV, VR] at h r; cases h; exact r
  | .nfn, v, u, h, r => by simp only [toV, VR] at h r; cases h; exact r
  | .niface, v, u, h, r => by simp only [toV, VR] at h r; cases h; exact r
  | .iface t x, v, u, h, r => by
    simp only [toV, VR] at h r
    obtain ⟨y, h1, h2⟩ := Option.map_eq_some_iff.1 h
    obtain ⟨z, h3, h4⟩ := r
    subst h2 h3
    rw [toV_sound x y z h1 h4]
  | .agg cs, v, u, h, r => by
    simp only [toV, VR] at h r
    obtain ⟨y, h1, h2⟩ := Option.map_eq_some_iff.1 h
    obtain ⟨ho, z, h3, h4⟩ := r
    subst h2 h3
    have := toVL_sound cs y _ h1 h4
    congr 1
    apply Array.ext'
    simpa using this
  | .ptr _ _ _, v, u, h, r => by simp [toV] at h
  | .dptr _, v, u, h, r => by simp [toV] at h
  | .dsl _ _, v, u, h, r => by simp [toV] at h
  | .osl _ _ _ _ _, v, u, h, r => by simp [toV] at h
  | .mapr _, v, u, h, r => by simp [toV] at h
  | .fn _ _ _, v, u, h, r => by simp [toV] at h
  | .yld _, v, u, h, r => by simp [toV] at h
  | .tup _, v, u, h, r => by simp [toV] at h
theorem toVL_sound {K : Conc} : ∀ (cs : List AV) (vs us : List Value), toVL cs = some vs → VRL K cs us → us = vs
  | [], vs, us, h, r => by simp only [toVL, VRL] at h r; cases h; exact r
  | c :: cs, vs, us, h, r => by
    simp only [toVL] at h
    simp only [VRL] at r
    obtain ⟨x, xs, h3, h4, h5⟩ := r
    split at h
    · rename_i v' vs' h1 h2
      cases h
      subst h3
      rw [toV_sound c v' x h1 h4, toVL_sound cs vs' xs h2 h5]
    · cases h
end

/-! ### Lists of cells -/
theorem VRL.length {K : Conc} : ∀ {as : List AV} {vs : List Value}, VRL K as vs → as.length = vs.length
  | [], _, h => by simp only [VRL] at h; subst h; rfl
  | a :: as, _, h => by
    simp only [VRL] at h
    obtain ⟨u, us, rfl, _, h2⟩ := h
    simp [VRL.length h2]
theorem VRL.append {K : Conc} : ∀ {as bs : List AV} {vs us : List Value}, VRL K as vs → VRL K bs us → VRL K (as ++ bs) (vs ++ us)
  | [], _, _, _, h, h' => by simp only [VRL] at h; subst h; exact h'
  | a :: as, _, _, _, h, h' => by
    simp only [VRL] at h
    obtain ⟨u, us, rfl, h1, h2⟩ := h
    exact ⟨u, _, rfl, h1, VRL.append h2 h'⟩
theorem VRL.take {K : Conc} : ∀ {as : List AV} {vs : List Value} (n : Nat), VRL K as vs → VRL K (as.take n) (vs.take n)
  | [], _, n, h => by simp only [VRL] at h; subst h; simp [VRL]
  | a :: as, _, 0, h => by simp [VRL]
  | a :: as, _, n + 1, h => by
    simp only [VRL] at h
    obtain ⟨u, us, rfl, h1, h2⟩ := h
    exact ⟨u, _, rfl, h1, VRL.take n h2⟩
theorem VRL.drop {K : Conc} : ∀ {as : List AV} {vs : List Value} (n : Nat), VRL K as vs → VRL K (as.drop n) (vs.drop n)
  | [], _, n, h => by simp only [VRL] at h; subst h; simp [VRL]
  | a :: as, _, 0, h => h
  | a :: as, _, n + 1, h => by
    simp only [VRL] at h
    obtain ⟨u, us, rfl, h1, h2⟩ := h
    exact VRL.drop n h2
theorem VRL.get {K : Conc} : ∀ {as : List AV} {vs : List Value} (n : Nat) (a : AV), VRL K as vs → as[n]? = some a → ∃ v, vs[n]? = some v ∧ VR K a v
  | [], _, n, a, h, e => by simp at e
  | b :: as, _, 0, a, h, e => by
    simp only [VRL] at h
    obtain ⟨u, us, rfl, h1, h2⟩ := h
    simp at e
    subst e
    exact ⟨u, rfl, h1⟩
  | b :: as, _, n + 1, a, h, e => by
    simp only [VRL] at h
    obtain ⟨u, us, rfl, h1, h2⟩ := h
    simpa using VRL.get n a h2 (by simpa using e)
theorem VRL.one {K : Conc} : ∀ {as : List AV} {vs : List Value}, as.all AV.one = true → VRL K as vs → ∀ v ∈ vs, v.oneCell' = true
  | [], _, _, h => by simp only [VRL] at h; subst h; simp
  | a :: as, _, ho, h => by
    simp only [VRL] at h
    obtain ⟨u, us, rfl, h1, h2⟩ := h
    simp only [List.all_cons, Bool.and_eq_true] at ho
    intro v hv
    rcases List.mem_cons.1 hv with rfl | hv
    · exact h1.one ho.1
    · exact VRL.one ho.2 h2 v hv
theorem CR.drop {K : Conc} : ∀ {cs : List AV} {b o : Nat} (n : Nat), CR K cs b o → CR K (cs.drop n) b (o + n)
  | [], _, _, n, h => by simp [CR]
  | a :: as, b, o, 0, h => h
  | a :: as, b, o, n + 1, h => by
    simp only [CR] at h
    have := CR.drop n h.2.2
    rw [List.drop_succ_cons]
    rwa [show o + (n + 1) = o + 1 + n by omega]
theorem CR.take {K : Conc} : ∀ {cs : List AV} {b o : Nat} (n : Nat), CR K cs b o → CR K (cs.take n) b o
  | [], _, _, n, h => by simp [CR]
  | a :: as, b, o, 0, h => by simp [CR]
  | a :: as, b, o, n + 1, h => by
    simp only [CR] at h
    exact ⟨h.1, h.2.1, CR.take n h.2.2⟩
/-- What lies there, as the machine's values. -/
theorem CR.values {K : Conc} : ∀ {cs : List AV} {b o : Nat}, CR K cs b o → ∃ us, VRL K cs us ∧ (∀ j u, us[j]? = some u → K.imm b (o + j) = some u) ∧ cs.all AV.one = true
  | [], b, o, h => ⟨[], rfl, by simp, rfl⟩
  | a :: as, b, o, h => by
    simp only [CR] at h
    obtain ⟨ho, ⟨u, hu, hr⟩, ht⟩ := h
    obtain ⟨us, h1, h2, h3⟩ := CR.values ht
    refine ⟨u :: us, ⟨u, us, rfl, hr, h1⟩, fun j x hx => ?_, by simp [ho, h3]⟩
    cases j with
    | zero => simp at hx; subst hx; exact hu
    | succ j =>
      have := h2 j x (by simpa using hx)
      rwa [show o + (j + 1) = o + 1 + j by omega]

def splice (cs : List AV) (o : Nat) (vs : List AV) : List AV := cs.take o ++ vs ++ cs.drop (o + vs.length)

end Go.Proofs.Ytcdnonggajoghaa
