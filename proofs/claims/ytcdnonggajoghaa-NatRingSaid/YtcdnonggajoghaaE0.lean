/- The abstract values, heaps and how they stand for the machine's. -/
import Derived.RangeFuncIn
import Derived.Below
import Derived.Laws.AppendOwn
import Derived.Laws.OwnMore
namespace Go.Proofs.Ytcdnonggajoghaa
open Go Go.RowKit
set_option linter.unusedVariables false
set_option linter.unusedSimpArgs false

/-- Abstract values: pointers and owned slices name abstract blocks; 'dptr', 'dsl' bear what lies in memory that is never written again. -/
inductive AV where
  | bool (b : Bool)
  | int (k : IntKind) (n : Int)
  | str (s : ByteArray)
  | nptr
  | ptr (b ver off : Nat)
  | dptr (cs : List AV)
  | nsl
  | dsl (cs : List AV) (len : Nat)
  | osl (b ver off len sz : Nat)
  | nmap
  | mapr (b : Nat)
  | fn (f : Fn) (first captured : List AV)
  | yld (b : Nat)
  | nfn
  | iface (t : TypeId) (v : AV)
  | niface
  | agg (cs : List AV)
  | tup (vs : List AV)

instance : Inhabited AV := ⟨.tup []⟩

def AV.one : AV → Bool
  | .agg _ | .tup _ => false
  | _ => true

/-- The cells that a variable of this value holds. -/
def AV.cells : AV → Option (List AV)
  | .agg cs => some cs
  | .tup _ => none
  | v => some [v]

/-- A frame: what some temporaries hold. -/
abbrev Fr := List (Nat × AV)
def lk : Fr → Nat → Option AV
  | [], _ => none
  | (k, v) :: r, n => if k = n then some v else lk r n

/-- No block from n on is named. -/
def AV.low (n : Nat) : AV → Prop
  | .ptr b _ _ | .osl b _ _ _ _ | .mapr b | .yld b => b < n
  | .dptr cs | .dsl cs _ | .agg cs | .tup cs => lowL n cs
  | .fn _ a b => lowL n a ∧ lowL n b
  | .iface _ v => v.low n
  | _ => True
where lowL (n : Nat) : List AV → Prop
  | [] => True
  | c :: cs => c.low n ∧ lowL n cs
abbrev lowL := AV.low.lowL

inductive AObj where
  | cells (ver : Nat) (e : TypeId) (cs : List AV)
  | map (es : List (AV × AV))
  | dfr
  | gone
  | loop (st : LoopState) (pend : Option Code) (fr : Fr) (n : Nat) (ps : Array Tmp) (asg body : Code) (d : Nat)

/-- A block that may yet be written. -/
def AObj.kept : AObj → Bool
  | .gone => false
  | _ => true

abbrev Heap := List AObj

/-- Where an abstract block stands: the machine's block, how many cells it has, and the version. -/
structure BI where
  c : Nat
  room : Nat
  ver : Nat

structure Conc where
  imm : Nat → Nat → Option Value
  blk : List BI
  B : Nat
  w0 : World

mutual
def VR (K : Conc) : AV → Value → Prop
  | .bool b, v => v = .bool b
  | .int k n, v => v = .int k n
  | .str s, v => v = .string s
  | .nptr, v => v = .pointer none
  | .ptr b ver off, v => v.oneCell' = true ∧ ∃ i, K.blk[b]? = some i ∧ ver ≤ i.ver ∧ (i.ver = ver → v = .pointer (some ⟨i.c, off, none⟩))
  | .dptr cs, v => ∃ b o, v = .pointer (some ⟨b, o, none⟩) ∧ CR K cs b o
  | .nsl, v => v = .slice none 0 0
  | .dsl cs len, v => ∃ a c, v = .slice a len c ∧ len ≤ c ∧ (cs ≠ [] → ∃ b o, a = some ⟨b, o, none⟩ ∧ CR K cs b o)
  | .osl b ver off len sz, v => v.oneCell' = true ∧ ∃ i, K.blk[b]? = some i ∧ ver ≤ i.ver ∧ (i.ver = ver → ∃ cap, v = .slice (some ⟨i.c, off, none⟩) len cap ∧ len ≤ cap ∧ cap ≤ maxLen ∧ off + cap * sz = i.room)
  | .nmap, v => v = .map none
  | .mapr b, v => v.oneCell' = true ∧ ∃ i, K.blk[b]? = some i ∧ (i.ver = 0 → v = .map (some i.c))
  | .fn f first captured, v => (∀ l, f ≠ .yield l) ∧ ∃ fs cs, v = .func f fs cs ∧ VRL K first fs.toList ∧ VRL K captured cs.toList
  | .yld b, v => v.oneCell' = true ∧ ∃ i, K.blk[b]? = some i ∧ (i.ver = 0 → v = .func (.yield i.c) #[] #[])
  | .nfn, v => v = .nilFunc
  | .iface t x, v => ∃ u, v = .iface t u ∧ VR K x u
  | .niface, v => v = .nilIface
  | .agg cs, v => cs.all AV.one = true ∧ ∃ us, v = .agg us ∧ VRL K cs us.toList
  | .tup vs, v => ∃ us, v = .tuple us ∧ VRL K vs us.toList
def VRL (K : Conc) : List AV → List Value → Prop
  | [], l => l = []
  | c :: cs, l => ∃ u us, l = u :: us ∧ VR K c u ∧ VRL K cs us
def CR (K : Conc) : List AV → Nat → Nat → Prop
  | [], _, _ => True
  | c :: cs, b, o => c.one = true ∧ (∃ u, K.imm b o = some u ∧ VR K c u) ∧ CR K cs b (o + 1)
end

/-- Later: what was immutable is so still; a block of the same version stands where it stood. -/
structure Ext (K K' : Conc) : Prop where
  imm : ∀ b o v, K.imm b o = some v → K'.imm b o = some v
  len : K.blk.length ≤ K'.blk.length
  blk : ∀ (b : Nat) (i : BI), K.blk[b]? = some i → ∃ i' : BI, K'.blk[b]? = some i' ∧ i.ver ≤ i'.ver ∧ (i'.ver = i.ver → i' = i)
  hB : K'.B = K.B
  hw : K'.w0 = K.w0
  new : ∀ b o v, K'.imm b o = some v → K.imm b o = some v ∨ K.B ≤ b

theorem Ext.refl (K : Conc) : Ext K K := ⟨fun _ _ _ h => h, Nat.le_refl _, fun _ i h => ⟨i, h, Nat.le_refl _, fun _ => rfl⟩, rfl, rfl, fun _ _ _ h => .inl h⟩
theorem Ext.trans {A B C : Conc} (h : Ext A B) (k : Ext B C) : Ext A C := by
  refine ⟨fun b o v e => k.imm _ _ _ (h.imm _ _ _ e), Nat.le_trans h.len k.len, fun b i e => ?_, k.hB.trans h.hB, k.hw.trans h.hw, fun b o v e => by
    rcases k.new b o v e with e' | e'
    · exact h.new b o v e'
    · exact .inr (by rw [h.hB] at e'; exact e')⟩
  obtain ⟨i', e', l', s'⟩ := h.blk b i e
  obtain ⟨i'', e'', l'', s''⟩ := k.blk b i' e'
  refine ⟨i'', e'', Nat.le_trans l' l'', fun hv => ?_⟩
  have h1 : i''.ver = i'.ver := by omega
  have h2 := s'' h1
  subst h2
  exact s' hv

section
variable {K K' : Conc}
mutual
theorem VR.ext (hx : Ext K K') : ∀ (a : AV) (v : Value), VR K a v → VR K' a v
  | .bool b, v, h => h
  | .int k n, v, h => h
  | .str s, v, h => h
  | .nptr, v, h => h
  | .ptr b ver off, v, h => by
    simp only [VR] at h ⊢
    obtain ⟨h1, i, e, l, s⟩ := h
    obtain ⟨i', e', l', s'⟩ := hx.blk b i e
    refine ⟨h1, i', e', by omega, fun hv => ?_⟩
    have h2 := s' (by omega)
    subst h2
    exact s hv
  | .dptr cs, v, h => by
    simp only [VR] at h ⊢
    obtain ⟨b, o, e, c⟩ := h
    exact ⟨b, o, e, CR.ext hx cs b o c⟩
  | .nsl, v, h => h
  | .dsl cs len, v, h => by
    simp only [VR] at h ⊢
    obtain ⟨a, c, e, l, f⟩ := h
    exact ⟨a, c, e, l, fun hne => let ⟨b, o, ea, hc⟩ := f hne; ⟨b, o, ea, CR.ext hx cs b o hc⟩⟩
  | .osl b ver off len sz, v, h => by
    simp only [VR] at h ⊢
    obtain ⟨h1, i, e, l, s⟩ := h
    obtain ⟨i', e', l', s'⟩ := hx.blk b i e
    refine ⟨h1, i', e', by omega, fun hv => ?_⟩
    have h2 := s' (by omega)
    subst h2
    exact s hv
  | .nmap, v, h => h
  | .mapr b, v, h => by
    simp only [VR] at h ⊢
    obtain ⟨h1, i, e, s⟩ := h
    obtain ⟨i', e', l', s'⟩ := hx.blk b i e
    refine ⟨h1, i', e', fun hv => ?_⟩
    have h2 := s' (by omega)
    subst h2
    exact s hv
  | .fn f first captured, v, h => by
    simp only [VR] at h ⊢
    obtain ⟨hy, fs, cs, e, h1, h2⟩ := h
    exact ⟨hy, fs, cs, e, VRL.ext hx first _ h1, VRL.ext hx captured _ h2⟩
  | .yld b, v, h => by
    simp only [VR] at h ⊢
    obtain ⟨h1, i, e, s⟩ := h
    obtain ⟨i', e', l', s'⟩ := hx.blk b i e
    refine ⟨h1, i', e', fun hv => ?_⟩
    have h2 := s' (by omega)
    subst h2
    exact s hv
  | .nfn, v, h => h
  | .iface t x, v, h => by
    simp only [VR] at h ⊢
    obtain ⟨u, e, hu⟩ := h
    exact ⟨u, e, VR.ext hx x u hu⟩
  | .niface, v, h => h
  | .agg cs, v, h => by
    simp only [VR] at h ⊢
    obtain ⟨ho, us, e, hu⟩ := h
    exact ⟨ho, us, e, VRL.ext hx cs _ hu⟩
  | .tup vs, v, h => by
    simp only [VR] at h ⊢
    obtain ⟨us, e, hu⟩ := h
    exact ⟨us, e, VRL.ext hx vs _ hu⟩
theorem VRL.ext (hx : Ext K K') : ∀ (a : List AV) (l : List Value), VRL K a l → VRL K' a l
  | [], l, h => h
  | c :: cs, l, h => by
    simp only [VRL] at h ⊢
    obtain ⟨u, us, e, h1, h2⟩ := h
    exact ⟨u, us, e, VR.ext hx c u h1, VRL.ext hx cs us h2⟩
theorem CR.ext (hx : Ext K K') : ∀ (a : List AV) (b o : Nat), CR K a b o → CR K' a b o
  | [], b, o, h => h
  | c :: cs, b, o, h => by
    simp only [CR] at h ⊢
    obtain ⟨h1, ⟨u, e, hu⟩, h2⟩ := h
    exact ⟨h1, ⟨u, hx.imm _ _ _ e, VR.ext hx c u hu⟩, CR.ext hx cs b (o + 1) h2⟩
end
end

end Go.Proofs.Ytcdnonggajoghaa
