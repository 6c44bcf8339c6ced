/- The program logic and the contracts that a law leans on, part 0. -/
import Derived.RangeFuncIn
import Derived.Below
import Derived.Laws.AppendOwn
import Derived.Laws.OwnMore
import Derived.Laws.BytesArg
import Derived.Maps.AppendAt
/- The abstract values, heaps and how they stand for the machine's. -/
namespace Go.Proofs.Ytoijfbdjlagooaa
open Go Go.RowKit
set_option linter.unusedVariables false
set_option linter.unusedSimpArgs false

/-- Abstract values: pointers and owned slices name abstract blocks; 'dptr', 'dsl' bear what lies in memory that is never written again. -/
inductive AV where
  | bool (b : Bool)
  | int (k : IntKind) (n : Int)
  | str (s : ByteArray)
  | nptr
  | ptr (b ver off : Nat)
  | dptr (cs : List AV)
  | nsl
  | dsl (cs : List AV) (len : Nat)
  | osl (b ver off len sz : Nat)
  | nmap
  | mapr (b : Nat)
  | fn (f : Fn) (first captured : List AV)
  | yld (b : Nat)
  | nfn
  | iface (t : TypeId) (v : AV)
  | niface
  | agg (cs : List AV)
  | tup (vs : List AV)

instance : Inhabited AV := ⟨.tup []⟩

def AV.one : AV → Bool
  | .agg _ | .tup _ => false
  | _ => true

/-- The cells that a variable of this value holds. -/
def AV.cells : AV → Option (List AV)
  | .agg cs => some cs
  | .tup _ => none
  | v => some [v]

/-- A frame: what some temporaries hold. -/
abbrev Fr := List (Nat × AV)
def lk : Fr → Nat → Option AV
  | [], _ => none
  | (k, v) :: r, n => if k = n then some v else lk r n

/-- No block from n on is named. -/
def AV.low (n : Nat) : AV → Prop
  | .ptr b _ _ | .osl b _ _ _ _ | .mapr b | .yld b => b < n
  | .dptr cs | .dsl cs _ | .agg cs | .tup cs => lowL n cs
  | .fn _ a b => lowL n a ∧ lowL n b
  | .iface _ v => v.low n
  | _ => True
where lowL (n : Nat) : List AV → Prop
  | [] => True
  | c :: cs => c.low n ∧ lowL n cs
abbrev lowL := AV.low.lowL

inductive AObj where
  | cells (ver : Nat) (e : TypeId) (cs : List AV)
  | map (es : List (AV × AV))
  | dfr
  | gone
  | loop (st : LoopState) (pend : Option Code) (fr : Fr) (n : Nat) (ps : Array Tmp) (asg body : Code) (d : Nat)

/-- A block that may yet be written. -/
def AObj.kept : AObj → Bool
  | .gone => false
  | _ => true

abbrev Heap := List AObj

/-- Where an abstract block stands: the machine's block, how many cells it has, and the version. -/
structure BI where
  c : Nat
  room : Nat
  ver : Nat

structure Conc where
  imm : Nat → Nat → Option Value
  blk : List BI
  B : Nat
  w0 : World

mutual
def VR (K : Conc) : AV → Value → Prop
  | .bool b, v => v = .bool b
  | .int k n, v => v = .int k n
  | .str s, v => v = .string s
  | .nptr, v => v = .pointer none
  | .ptr b ver off, v => v.oneCell' = true ∧ ∃ i, K.blk[b]? = some i ∧ ver ≤ i.ver ∧ (i.ver = ver → v = .pointer (some ⟨i.c, off, none⟩))
  | .dptr cs, v => ∃ b o, v = .pointer (some ⟨b, o, none⟩) ∧ CR K cs b o
  | .nsl, v => v = .slice none 0 0
  | .dsl cs len, v => ∃ a c, v = .slice a len c ∧ len ≤ c ∧ (cs ≠ [] → ∃ b o, a = some ⟨b, o, none⟩ ∧ CR K cs b o)
  | .osl b ver off len sz, v => v.oneCell' = true ∧ ∃ i, K.blk[b]? = some i ∧ ver ≤ i.ver ∧ (i.ver = ver → ∃ cap, v = .slice (some ⟨i.c, off, none⟩) len cap ∧ len ≤ cap ∧ cap ≤ maxLen ∧ off + cap * sz = i.room)
  | .nmap, v => v = .map none
  | .mapr b, v => v.oneCell' = true ∧ ∃ i, K.blk[b]? = some i ∧ (i.ver = 0 → v = .map (some i.c))
  | .fn f first captured, v => (∀ l, f ≠ .yield l) ∧ ∃ fs cs, v = .func f fs cs ∧ VRL K first fs.toList ∧ VRL K captured cs.toList
  | .yld b, v => v.oneCell' = true ∧ ∃ i, K.blk[b]? = some i ∧ (i.ver = 0 → v = .func (.yield i.c) #[] #[])
  | .nfn, v => v = .nilFunc
  | .iface t x, v => ∃ u, v = .iface t u ∧ VR K x u
  | .niface, v => v = .nilIface
  | .agg cs, v => cs.all AV.one = true ∧ ∃ us, v = .agg us ∧ VRL K cs us.toList
  | .tup vs, v => ∃ us, v = .tuple us ∧ VRL K vs us.toList
def VRL (K : Conc) : List AV → List Value → Prop
  | [], l => l = []
  | c :: cs, l => ∃ u us, l = u :: us ∧ VR K c u ∧ VRL K cs us
def CR (K : Conc) : List AV → Nat → Nat → Prop
  | [], _, _ => True
  | c :: cs, b, o => c.one = true ∧ (∃ u, K.imm b o = some u ∧ VR K c u) ∧ CR K cs b (o + 1)
end

/-- Later: what was immutable is so still; a block of the same version stands where it stood. -/
structure Ext (K K' : Conc) : Prop where
  imm : ∀ b o v, K.imm b o = some v → K'.imm b o = some v
  len : K.blk.length ≤ K'.blk.length
  blk : ∀ (b : Nat) (i : BI), K.blk[b]? = some i → ∃ i' : BI, K'.blk[b]? = some i' ∧ i.ver ≤ i'.ver ∧ (i'.ver = i.ver → i' = i)
  hB : K'.B = K.B
  hw : K'.w0 = K.w0
  new : ∀ b o v, K'.imm b o = some v → K.imm b o = some v ∨ K.B ≤ b

theorem Ext.refl (K : Conc) : Ext K K := ⟨fun _ _ _ h => h, Nat.le_refl _, fun _ i h => ⟨i, h, Nat.le_refl _, fun _ => rfl⟩, rfl, rfl, fun _ _ _ h => .inl h⟩
theorem Ext.trans {A B C : Conc} (h : Ext A B) (k : Ext B C) : Ext A C := by
  refine ⟨fun b o v e => k.imm _ _ _ (h.imm _ _ _ e), Nat.le_trans h.len k.len, fun b i e => ?_, k.hB.trans h.hB, k.hw.trans h.hw, fun b o v e => by
    rcases k.new b o v e with e' | e'
    · exact h.new b o v e'
    · exact .inr (by rw [h.hB] at e'; exact e')⟩
  obtain ⟨i', e', l', s'⟩ := h.blk b i e
  obtain ⟨i'', e'', l'', s''⟩ := k.blk b i' e'
  refine ⟨i'', e'', Nat.le_trans l' l'', fun hv => ?_⟩
  have h1 : i''.ver = i'.ver := by omega
  have h2 := s'' h1
  subst h2
  exact s' hv

section
variable {K K' : Conc}
mutual
theorem VR.ext (hx : Ext K K') : ∀ (a : AV) (v : Value), VR K a v → VR K' a v
  | .bool b, v, h => h
  | .int k n, v, h => h
  | .str s, v, h => h
  | .nptr, v, h => h
  | .ptr b ver off, v, h => by
    simp only [VR] at h ⊢
    obtain ⟨h1, i, e, l, s⟩ := h
    obtain ⟨i', e', l', s'⟩ := hx.blk b i e
    refine ⟨h1, i', e', by omega, fun hv => ?_⟩
    have h2 := s' (by omega)
    subst h2
    exact s hv
  | .dptr cs, v, h => by
    simp only [VR] at h ⊢
    obtain ⟨b, o, e, c⟩ := h
    exact ⟨b, o, e, CR.ext hx cs b o c⟩
  | .nsl, v, h => h
  | .dsl cs len, v, h => by
    simp only [VR] at h ⊢
    obtain ⟨a, c, e, l, f⟩ := h
    exact ⟨a, c, e, l, fun hne => let ⟨b, o, ea, hc⟩ := f hne; ⟨b, o, ea, CR.ext hx cs b o hc⟩⟩
  | .osl b ver off len sz, v, h => by
    simp only [VR] at h ⊢
    obtain ⟨h1, i, e, l, s⟩ := h
    obtain ⟨i', e', l', s'⟩ := hx.blk b i e
    refine ⟨h1, i', e', by omega, fun hv => ?_⟩
    have h2 := s' (by omega)
    subst h2
    exact s hv
  | .nmap, v, h => h
  | .mapr b, v, h => by
    simp only [VR] at h ⊢
    obtain ⟨h1, i, e, s⟩ := h
    obtain ⟨i', e', l', s'⟩ := hx.blk b i e
    refine ⟨h1, i', e', fun hv => ?_⟩
    have h2 := s' (by omega)
    subst h2
    exact s hv
  | .fn f first captured, v, h => by
    simp only [VR] at h ⊢
    obtain ⟨hy, fs, cs, e, h1, h2⟩ := h
    exact ⟨hy, fs, cs, e, VRL.ext hx first _ h1, VRL.ext hx captured _ h2⟩
  | .yld b, v, h => by
    simp only [VR] at h ⊢
    obtain ⟨h1, i, e, s⟩ := h
    obtain ⟨i', e', l', s'⟩ := hx.blk b i e
    refine ⟨h1, i', e', fun hv => ?_⟩
    have h2 := s' (by omega)
    subst h2
    exact s hv
  | .nfn, v, h => h
  | .iface t x, v, h => by
    simp only [VR] at h ⊢
    obtain ⟨u, e, hu⟩ := h
    exact ⟨u, e, VR.ext hx x u hu⟩
  | .niface, v, h => h
  | .agg cs, v, h => by
    simp only [VR] at h ⊢
    obtain ⟨ho, us, e, hu⟩ := h
    exact ⟨ho, us, e, VRL.ext hx cs _ hu⟩
  | .tup vs, v, h => by
    simp only [VR] at h ⊢
    obtain ⟨us, e, hu⟩ := h
    exact ⟨us, e, VRL.ext hx vs _ hu⟩
theorem VRL.ext (hx : Ext K K') : ∀ (a : List AV) (l : List Value), VRL K a l → VRL K' a l
  | [], l, h => h
  | c :: cs, l, h => by
    simp only [VRL] at h ⊢
    obtain ⟨u, us, e, h1, h2⟩ := h
    exact ⟨u, us, e, VR.ext hx c u h1, VRL.ext hx cs us h2⟩
theorem CR.ext (hx : Ext K K') : ∀ (a : List AV) (b o : Nat), CR K a b o → CR K' a b o
  | [], b, o, h => h
  | c :: cs, b, o, h => by
    simp only [CR] at h ⊢
    obtain ⟨h1, ⟨u, e, hu⟩, h2⟩ := h
    exact ⟨h1, ⟨u, hx.imm _ _ _ e, VR.ext hx c u hu⟩, CR.ext hx cs b (o + 1) h2⟩
end
end

end Go.Proofs.Ytoijfbdjlagooaa

/- What is known of a program's types. -/
namespace Go.Proofs.Ytoijfbdjlagooaa
open Go Go.RowKit
set_option linter.unusedVariables false
set_option linter.unusedSimpArgs false

/-! ### Plain values -/
def ofCell : Value → Option AV
  | .bool b => some (.bool b)
  | .int k n => some (.int k n)
  | .string s => some (.str s)
  | .pointer none => some .nptr
  | .slice none 0 0 => some .nsl
  | .map none => some .nmap
  | .nilFunc => some .nfn
  | .nilIface => some .niface
  | _ => none
def ofCells : List Value → Option (List AV)
  | [] => some []
  | v :: vs => match ofCell v, ofCells vs with
    | some a, some as => some (a :: as)
    | _, _ => none
def ofV : Value → Option AV
  | .agg us => (ofCells us.toList).map .agg
  | .tuple us => if us.size = 0 then some (.tup []) else none
  | v => ofCell v

/-- Runs that neither read nor write. -/
def prun {α : Type} (P : Program) : Sem α → Option α
  | .pure a => some a
  | .program k => prun P (k P)
  | _ => none
theorem prun_run {α : Type} {P : Program} {s : Sem α} {a : α} (h : prun P s = some a) (w : World) : s.run P w = .ok a w := by
  induction s generalizing a with
  | pure x => simp only [prun] at h; cases h; rfl
  | program k ih => simp only [prun] at h; simp only [Sem.run]; exact ih P h
  | _ => simp [prun] at h

/-! ### Types -/
structure TI where
  size : Nat
  bytes : Nat
  zero : List AV
  desc : TypeDesc

def descAgg : TypeDesc → Bool
  | .struct _ | .array _ _ => true
  | _ => false
def valAgg : Value → Bool
  | .agg _ => true
  | _ => false

def tinfo (P : Program) (t : TypeId) : Option TI :=
  match P.info? t, P.underlying t with
  | some i, some d => match i.zero with
    | some z => if z.cells.size = i.size ∧ valAgg z = descAgg d then (ofCells z.cells.toList).map fun cs => ⟨i.size, i.bytes, cs, d⟩ else none
    | none => none
  | _, _ => none

theorem tinfo_spec {P : Program} {t : TypeId} {x : TI} (h : tinfo P t = some x) :
    ∃ i z, P.info? t = some i ∧ P.underlying t = some x.desc ∧ i.zero = some z ∧ ofCells z.cells.toList = some x.zero ∧ i.size = x.size ∧ i.bytes = x.bytes ∧ z.cells.size = i.size ∧ valAgg z = descAgg x.desc := by
  unfold tinfo at h
  split at h
  · rename_i i d h1 h2
    split at h
    · rename_i z hz
      split at h
      · rename_i hsz
        obtain ⟨cs, h3, h4⟩ := Option.map_eq_some_iff.1 h
        subst h4
        exact ⟨i, z, h1, h2, hz, h3, rfl, rfl, hsz.1, hsz.2⟩
      · cases h
    · cases h
  · cases h

def TI.isAgg (x : TI) : Bool := descAgg x.desc
/-- The zero value. -/
def TI.zv (x : TI) : Option AV := if x.isAgg then some (.agg x.zero) else match x.zero with
  | [z] => some z
  | _ => none

/-- Where the fields of a struct lie. -/
def fplaces (P : Program) (t : TypeId) : Option (Array (Nat × Nat)) :=
  match P.underlying t with
  | some (.struct fields) => prun P (fields.mapM fun f => do pure (f.offset, ← sizeOf f.type))
  | _ => none

/-- The program; what is known of its types and of its package-level variables. -/
structure Env where
  P : Program
  ti : TypeId → Option TI
  pl : TypeId → Option (Array (Nat × Nat))
  G : Nat → Option (List AV)
  ti_ok : ∀ t x, ti t = some x → tinfo P t = some x
  pl_ok : ∀ t x, pl t = some x → fplaces P t = some x
  G_low : ∀ g cs, G g = some cs → lowL 0 cs

def Env.un (E : Env) (t : TypeId) : Option TypeDesc := match E.ti t with
  | some x => some x.desc
  | none => none

theorem Env.un_ok {E : Env} {t : TypeId} {d : TypeDesc} (h : E.un t = some d) : E.P.underlying t = some d := by
  unfold Env.un at h
  split at h
  · rename_i x hx
    cases h
    obtain ⟨i, z, h1, h2, _⟩ := tinfo_spec (E.ti_ok _ _ hx)
    exact h2
  · cases h

end Go.Proofs.Ytoijfbdjlagooaa

/- How an abstract heap stands for the machine's world; new blocks, blocks that are written. -/
namespace Go.Proofs.Ytoijfbdjlagooaa
open Go Go.RowKit
set_option linter.unusedVariables false
set_option linter.unusedSimpArgs false

def FR (K : Conc) (N : Nat) (fr : Fr) (t : Array Value) : Prop := t.size = N ∧ ∀ k v, lk fr k = some v → VR K v (t.getD k undef)

theorem FR.ext {K K' : Conc} (hx : Ext K K') {N : Nat} {fr : Fr} {t : Array Value} (h : FR K N fr t) : FR K' N fr t :=
  ⟨h.1, fun k v e => VR.ext hx _ _ (h.2 k v e)⟩

theorem FR.put {K : Conc} {N : Nat} {fr : Fr} {t : Array Value} (h : FR K N fr t) {d : Nat} (hd : d < N) {v : AV} {u : Value} (hu : VR K v u) :
    FR K N ((d, v) :: fr) (t.setIfInBounds d u) := by
  refine ⟨by simp [h.1], fun k x e => ?_⟩
  simp only [lk] at e
  by_cases hk : d = k
  · subst hk
    rw [if_pos rfl] at e
    cases e
    have : d < t.size := by rw [h.1]; exact hd
    simp [this]
    exact hu
  · rw [if_neg hk] at e
    have := h.2 k x e
    simp only [Array.getD_eq_getD_getElem?, Array.getElem?_setIfInBounds_ne hk] at this ⊢
    exact this

/-- Forgetting. -/
theorem FR.sub {K : Conc} {N : Nat} {fr fr' : Fr} {t : Array Value} (h : FR K N fr t) (hs : ∀ k v, lk fr' k = some v → lk fr k = some v) : FR K N fr' t :=
  ⟨h.1, fun k v e => h.2 k v (hs k v e)⟩

def OR (K : Conc) (o : AObj) (i : BI) (w : World) : Prop :=
  match o with
  | .cells ver e cs => i.ver = ver ∧ ∃ arr, w.heap[i.c]? = some (.cells arr e (0, 0)) ∧ arr.size = i.room ∧ cs.all AV.one = true ∧ cs.length ≤ arr.size ∧ VRL K cs (arr.toList.take cs.length)
  | .map es => i.ver = 0 ∧ ∃ ents clock, w.heap[i.c]? = some (.map ents clock) ∧ VRL K (es.map (·.1)) (ents.toList.map (·.key)) ∧ VRL K (es.map (·.2)) (ents.toList.map (·.val)) ∧
      ents.toList.map (·.born) = List.range es.length ∧ clock = es.length
  | .dfr => i.ver = 0 ∧ w.heap[i.c]? = some (.deferred (some []))
  | .gone => i.c < w.heap.size
  | .loop st pend fr n ps asg body d => i.ver = 0 ∧ ∃ f tmps dc, w.heap[i.c]? = some (.loop { state := st, pending := pend, fn := f, tmps := tmps, params := ps, assign := asg, body := body, defers := dc }) ∧
      FR K n fr tmps ∧ ∃ j, K.blk[d]? = some j ∧ (j.ver = 0 → dc = j.c)

theorem OR.at_ {K : Conc} {o : AObj} {i : BI} {w : World} (h : OR K o i w) : i.c < w.heap.size := by
  have key : ∀ {x : Obj}, w.heap[i.c]? = some x → i.c < w.heap.size := fun e => (Array.getElem?_eq_some_iff.1 e).1
  cases o with
  | cells ver e cs => obtain ⟨_, arr, h, _⟩ := h; exact key h
  | map es => obtain ⟨_, _, _, h, _⟩ := h; exact key h
  | dfr => exact key h.2
  | gone => exact h
  | loop => obtain ⟨_, _, _, _, h, _⟩ := h; exact key h

theorem OR.mono {K K' : Conc} (hx : Ext K K') {o : AObj} {i : BI} {w w' : World} (h : OR K o i w) (hw : w'.heap[i.c]? = w.heap[i.c]?) : OR K' o i w' := by
  have hat := h.at_
  cases o with
  | cells ver e cs =>
    obtain ⟨h1, arr, h2, h3, h4, h5, h6⟩ := h
    exact ⟨h1, arr, hw.trans h2, h3, h4, h5, VRL.ext hx _ _ h6⟩
  | map es =>
    obtain ⟨h1, a, b, h2, h3, h4, h5⟩ := h
    exact ⟨h1, a, b, hw.trans h2, VRL.ext hx _ _ h3, VRL.ext hx _ _ h4, h5⟩
  | dfr => exact ⟨h.1, hw.trans h.2⟩
  | gone =>
    have : w'.heap[i.c]? = some w.heap[i.c] := hw.trans (Array.getElem?_eq_getElem hat)
    exact (Array.getElem?_eq_some_iff.1 this).1
  | loop st pend fr n ps asg body d =>
    obtain ⟨h1, f, tmps, dc, h2, h3, j, h4, h5⟩ := h
    obtain ⟨j', e', l', s'⟩ := hx.blk d j h4
    refine ⟨h1, f, tmps, dc, hw.trans h2, h3.ext hx, j', e', fun hv => ?_⟩
    have hh := s' (by omega)
    subst hh
    exact h5 hv

structure HR (E : Env) (K : Conc) (H : Heap) (w : World) : Prop where
  len : K.blk.length = H.length
  obj : ∀ (b : Nat) (o : AObj) (i : BI), H[b]? = some o → K.blk[b]? = some i → OR K o i w
  low : ∀ (b : Nat) (i : BI), K.blk[b]? = some i → K.B ≤ i.c
  inj : ∀ (b b' : Nat) (i i' : BI), K.blk[b]? = some i → K.blk[b']? = some i' → i.c = i'.c → b = b'
  off : ∀ (b : Nat) (i : BI) (o : Nat) (ob : AObj), H[b]? = some ob → ob.kept = true → K.blk[b]? = some i → K.imm i.c o = none
  imm : ∀ c o v, K.imm c o = some v → w.cell? ⟨c, o, none⟩ = some v
  below : Below K.B K.w0 w
  hB : K.B ≤ K.w0.heap.size
  glob : ∀ g cs, E.G g = some cs → CR K cs g 0

theorem HR.info {E : Env} {K : Conc} {H : Heap} {w : World} (h : HR E K H w) {b : Nat} {o : AObj} (hb : H[b]? = some o) : ∃ i, K.blk[b]? = some i ∧ OR K o i w := by
  have hl : b < K.blk.length := by rw [h.len]; exact (List.getElem?_eq_some_iff.1 hb).1
  exact ⟨K.blk[b], List.getElem?_eq_getElem hl, h.obj b o _ hb (List.getElem?_eq_getElem hl)⟩

theorem HR.at_ {E : Env} {K : Conc} {H : Heap} {w : World} (h : HR E K H w) {b : Nat} {i : BI} (hb : K.blk[b]? = some i) : i.c < w.heap.size := by
  have hl : b < H.length := by rw [← h.len]; exact (List.getElem?_eq_some_iff.1 hb).1
  exact (h.obj b _ i (List.getElem?_eq_getElem hl) hb).at_

theorem HR.imm_lt {E : Env} {K : Conc} {H : Heap} {w : World} (h : HR E K H w) {c o : Nat} {v : Value} (hi : K.imm c o = some v) : c < w.heap.size :=
  World.block_lt_of_cell? w ⟨c, o, none⟩ (h.imm c o v hi)

theorem HR.drew {E : Env} {K : Conc} {H : Heap} {w : World} (h : HR E K H w) : HR E K H w.drew :=
  ⟨h.len, fun b o i e e' => (h.obj b o i e e').mono (Ext.refl K) rfl, h.low, h.inj, h.off, fun c o v e => h.imm c o v e, h.below.drew, h.hB, h.glob⟩

def Conc.upd (K : Conc) (b : Nat) (i : BI) : Conc := { K with blk := K.blk.set b i }
def Conc.push (K : Conc) (i : BI) : Conc := { K with blk := K.blk ++ [i] }

theorem Conc.ext_upd {K : Conc} {b : Nat} {i i' : BI} (hb : K.blk[b]? = some i) (hv : i.ver ≤ i'.ver) (hs : i'.ver = i.ver → i' = i) : Ext K (K.upd b i') := by
  refine ⟨fun _ _ _ h => h, by simp [Conc.upd], fun b' j e => ?_, rfl, rfl, fun _ _ _ h => .inl h⟩
  by_cases hbb : b = b'
  · subst hbb
    have : j = i := Option.some.inj (e.symm.trans hb)
    subst this
    exact ⟨i', by simp [Conc.upd, (List.getElem?_eq_some_iff.1 hb).1], hv, hs⟩
  · exact ⟨j, by simp [Conc.upd, hbb, e], Nat.le_refl _, fun _ => rfl⟩

theorem Conc.ext_push (K : Conc) (i : BI) : Ext K (K.push i) :=
  ⟨fun _ _ _ h => h, by simp [Conc.push], fun b j e => ⟨j, by simp [Conc.push, List.getElem?_append_left (List.getElem?_eq_some_iff.1 e).1, e], Nat.le_refl _, fun _ => rfl⟩, rfl, rfl, fun _ _ _ h => .inl h⟩

theorem World.cell?_eq_of_block {w w' : World} {c o : Nat} (h : w'.heap[c]? = w.heap[c]?) : w'.cell? ⟨c, o, none⟩ = w.cell? ⟨c, o, none⟩ := by
  simp [World.cell?, h]

/-- A block is written, or stands elsewhere from now on. -/
theorem HR.upd {E : Env} {K : Conc} {H : Heap} {w w' : World} (h : HR E K H w) {b : Nat} {ob : AObj} (h0 : H[b]? = some ob) (hk : ob.kept = true) {i i' : BI} (hb : K.blk[b]? = some i) (hv : i.ver ≤ i'.ver) (hs : i'.ver = i.ver → i' = i)
    (hc : i'.c = i.c ∨ w.heap.size ≤ i'.c) (hg : w.grownBy w' (some i.c)) {o : AObj} (ho : OR (K.upd b i') o i' w') :
    HR E (K.upd b i') (H.set b o) w' := by
  have hx := Conc.ext_upd hb hv hs
  have hbl : b < K.blk.length := (List.getElem?_eq_some_iff.1 hb).1
  have get : ∀ (b' : Nat) (j : BI), (K.upd b i').blk[b']? = some j → (b' = b ∧ j = i') ∨ (b' ≠ b ∧ K.blk[b']? = some j) := by
    intro b' j e
    by_cases hbb : b = b'
    · subst hbb
      simp [Conc.upd, hbl] at e
      exact .inl ⟨rfl, e.symm⟩
    · simp [Conc.upd, hbb] at e
      exact .inr ⟨fun h => hbb h.symm, by simpa using e⟩
  have fresh : ∀ (b' : Nat) (j : BI), b' ≠ b → K.blk[b']? = some j → j.c ≠ i'.c := by
    intro b' j hne e heq
    rcases hc with hc | hc
    · exact hne (h.inj b' b j i e hb (by omega))
    · have := h.at_ e
      omega
  have old : ∀ (b' : Nat) (j : BI), b' ≠ b → K.blk[b']? = some j → w'.heap[j.c]? = w.heap[j.c]? := by
    intro b' j hne e
    exact hg.block _ (h.at_ e) (fun hh => hne (h.inj b' b j i e hb (Option.some.inj hh)))
  refine ⟨by simp [Conc.upd, h.len], fun b' o' j e e' => ?_, fun b' j e => ?_, fun b1 b2 j1 j2 e1 e2 he => ?_, fun b' j o' oo eo ek e => ?_, fun c o' v e => ?_, ?_, h.hB, fun g cs e => CR.ext hx _ _ _ (h.glob g cs e)⟩
  · rcases get b' j e' with ⟨rfl, rfl⟩ | ⟨hne, e''⟩
    · have hbh : b' < H.length := by rw [← h.len]; exact hbl
      simp [hbh] at e
      subst e
      exact ho
    · have e3 : H[b']? = some o' := by
        have : b ≠ b' := fun hh => hne hh.symm
        simpa [this] using e
      exact (h.obj b' o' j e3 e'').mono hx (old b' j hne e'')
  · rcases get b' j e with ⟨rfl, rfl⟩ | ⟨hne, e''⟩
    · rcases hc with hc | hc
      · show K.B ≤ _
        rw [hc]; exact h.low _ _ hb
      · have h1 := h.below.size
        have h2 := h.hB
        show K.B ≤ _
        omega
    · exact h.low b' j e''
  · rcases get b1 j1 e1 with ⟨rfl, rfl⟩ | ⟨hne1, e1'⟩
    · rcases get b2 j2 e2 with ⟨rfl, rfl⟩ | ⟨hne2, e2'⟩
      · rfl
      · exact absurd he.symm (fresh b2 j2 hne2 e2')
    · rcases get b2 j2 e2 with ⟨rfl, rfl⟩ | ⟨hne2, e2'⟩
      · exact absurd he (fresh b1 j1 hne1 e1')
      · exact h.inj b1 b2 j1 j2 e1' e2' he
  · rcases get b' j e with ⟨rfl, rfl⟩ | ⟨hne, e''⟩
    · show K.imm _ _ = none
      rcases hc with hc | hc
      · rw [hc]; exact h.off _ _ _ _ h0 hk hb
      · cases hi : K.imm j.c o' with
        | none => rfl
        | some v => have := h.imm_lt hi; omega
    · refine h.off b' j o' oo ?_ ek e''
      have : b ≠ b' := fun hh => hne hh.symm
      simpa [this] using eo
  · have e' : K.imm c o' = some v := e
    have hcl := h.imm_lt e'
    have hne : c ≠ i.c := by
      rintro rfl
      have := h.off b i o' _ h0 hk hb
      rw [this] at e'
      cases e'
    rw [World.cell?_eq_of_block (hg.block c hcl (fun hh => hne (Option.some.inj hh)))]
    exact h.imm c o' v e'
  · show Below K.B K.w0 w'
    exact h.below.grown hg (Nat.le_trans h.hB h.below.size) (fun k hk => by cases hk; exact h.low _ _ hb)

/-- A new block. -/
theorem HR.push {E : Env} {K : Conc} {H : Heap} {w w' : World} (h : HR E K H w) {i' : BI} (hc : w.heap.size ≤ i'.c) (hg : w.grownBy w' none) {o : AObj} (ho : OR (K.push i') o i' w') :
    HR E (K.push i') (H ++ [o]) w' := by
  have hx := Conc.ext_push K i'
  have get : ∀ (b' : Nat) (j : BI), (K.push i').blk[b']? = some j → (b' = K.blk.length ∧ j = i') ∨ (b' < K.blk.length ∧ K.blk[b']? = some j) := by
    intro b' j e
    rcases Nat.lt_or_ge b' K.blk.length with hlt | hge
    · exact .inr ⟨hlt, by simpa [Conc.push, List.getElem?_append_left hlt] using e⟩
    · have hb : b' < (K.blk ++ [i']).length := (List.getElem?_eq_some_iff.1 e).1
      simp at hb
      have : b' = K.blk.length := by omega
      subst this
      simp [Conc.push] at e
      exact .inl ⟨rfl, e.symm⟩
  have old : ∀ (b' : Nat) (j : BI), K.blk[b']? = some j → w'.heap[j.c]? = w.heap[j.c]? := fun b' j e => hg.block _ (h.at_ e) (by simp)
  refine ⟨by simp [Conc.push, h.len], fun b' o' j e e' => ?_, fun b' j e => ?_, fun b1 b2 j1 j2 e1 e2 he => ?_, fun b' j o' oo eo ek e => ?_, fun c o' v e => ?_, ?_, h.hB, fun g cs e => CR.ext hx _ _ _ (h.glob g cs e)⟩
  · rcases get b' j e' with ⟨rfl, rfl⟩ | ⟨hlt, e''⟩
    · rw [h.len] at e
      simp at e
      subst e
      exact ho
    · have e3 : H[b']? = some o' := by
        have : b' < H.length := by rw [← h.len]; exact hlt
        simpa [List.getElem?_append_left this] using e
      exact (h.obj b' o' j e3 e'').mono hx (old b' j e'')
  · rcases get b' j e with ⟨rfl, rfl⟩ | ⟨hlt, e''⟩
    · have h1 := h.below.size
      have h2 := h.hB
      show K.B ≤ _
      omega
    · exact h.low b' j e''
  · rcases get b1 j1 e1 with ⟨rfl, rfl⟩ | ⟨hlt1, e1'⟩
    · rcases get b2 j2 e2 with ⟨rfl, rfl⟩ | ⟨hlt2, e2'⟩
      · rfl
      · have := h.at_ e2'; omega
    · rcases get b2 j2 e2 with ⟨rfl, rfl⟩ | ⟨hlt2, e2'⟩
      · have := h.at_ e1'; omega
      · exact h.inj b1 b2 j1 j2 e1' e2' he
  · rcases get b' j e with ⟨rfl, rfl⟩ | ⟨hlt, e''⟩
    · show K.imm _ _ = none
      cases hi : K.imm j.c o' with
      | none => rfl
      | some v => have := h.imm_lt hi; omega
    · refine h.off b' j o' oo ?_ ek e''
      have : b' < H.length := by rw [← h.len]; exact hlt
      simpa [List.getElem?_append_left this] using eo
  · have e' : K.imm c o' = some v := e
    rw [World.cell?_eq_of_block (hg.block c (h.imm_lt e') (by simp))]
    exact h.imm c o' v e'
  · show Below K.B K.w0 w'
    exact h.below.grown hg (Nat.le_trans h.hB h.below.size) (fun k hk => by cases hk)

theorem VR.one {K : Conc} {a : AV} {v : Value} (ho : a.one = true) (h : VR K a v) : v.oneCell' = true := by
  cases a <;> simp only [VR, AV.one] at h ho
  case bool => subst h; rfl
  case int => subst h; rfl
  case str => subst h; rfl
  case nptr => subst h; rfl
  case ptr => exact h.1
  case dptr => obtain ⟨b, o, rfl, _⟩ := h; rfl
  case nsl => subst h; rfl
  case dsl => obtain ⟨a, c, rfl, _⟩ := h; rfl
  case osl => exact h.1
  case nmap => subst h; rfl
  case mapr => exact h.1
  case fn => obtain ⟨_, fs, cs, rfl, _⟩ := h; rfl
  case yld => exact h.1
  case nfn => subst h; rfl
  case iface => obtain ⟨u, rfl, _⟩ := h; rfl
  case niface => subst h; rfl
  case agg => cases ho
  case tup => cases ho

end Go.Proofs.Ytoijfbdjlagooaa

/- Operations over abstract values: what they come to, and that the machine's own come to the same. Part 1: values. -/
namespace Go.Proofs.Ytoijfbdjlagooaa
open Go Go.RowKit
set_option linter.unusedVariables false
set_option linter.unusedSimpArgs false

theorem ofCell_sound {K : Conc} {v : Value} {a : AV} (h : ofCell v = some a) : VR K a v ∧ a.one = true := by
  unfold ofCell at h
  split at h <;> first
    | (cases h; exact ⟨by simp [VR], rfl⟩)
    | cases h
theorem ofCells_sound {K : Conc} : ∀ (l : List Value) (as : List AV), ofCells l = some as → VRL K as l ∧ as.all AV.one = true
  | [], as, h => by cases h; exact ⟨rfl, rfl⟩
  | v :: vs, as, h => by
    simp only [ofCells] at h
    split at h
    · rename_i a as' h1 h2
      cases h
      obtain ⟨i1, i2⟩ := ofCells_sound vs as' h2
      obtain ⟨j1, j2⟩ := ofCell_sound (K := K) h1
      exact ⟨⟨v, vs, rfl, j1, i1⟩, by simp [j2, i2]⟩
    · cases h
theorem ofV_sound {K : Conc} {v : Value} {a : AV} (h : ofV v = some a) : VR K a v := by
  unfold ofV at h
  split at h
  · rename_i us
    obtain ⟨as, h1, h2⟩ := Option.map_eq_some_iff.1 h
    subst h2
    obtain ⟨i1, i2⟩ := ofCells_sound (K := K) _ _ h1
    exact ⟨i2, us, rfl, i1⟩
  · rename_i us
    split at h
    · rename_i h0
      cases h
      refine ⟨us, rfl, ?_⟩
      have : us.toList = [] := by simpa using h0
      rw [this]
      rfl
    · cases h
  · exact (ofCell_sound h).1

mutual
def toV : AV → Option Value
  | .bool b => some (.bool b)
  | .int k n => some (.int k n)
  | .str s => some (.string s)
  | .nptr => some (.pointer none)
  | .nsl => some (.slice none 0 0)
  | .nmap => some (.map none)
  | .nfn => some .nilFunc
  | .niface => some .nilIface
  | .iface t x => (toV x).map (.iface t)
  | .agg cs => (toVL cs).map fun l => .agg l.toArray
  | _ => none
def toVL : List AV → Option (List Value)
  | [] => some []
  | c :: cs => match toV c, toVL cs with
    | some v, some vs => some (v :: vs)
    | _, _ => none
end
mutual
theorem toV_sound {K : Conc} : ∀ (a : AV) (v u : Value), toV a = some v → VR K a u → u = v
  | .bool b, v, u, h, r => by simp only [toV, VR] at h r; cases h; exact r
  | .int k n, v, u, h, r => by simp only [toV, VR] at h r; cases h; exact r
  | .str s, v, u, h, r => by simp only [toV, VR] at h r; cases h; exact r
  | .nptr, v, u, h, r => by simp only [toV, VR] at h r; cases h; exact r
  | .nsl, v, u, h, r => by simp only [toV, VR] at h r; cases h; exact r
  | .nmap, v, u, h, r => by simp only [toV, VR] at h r; cases h; exact r
  | .nfn, v, u, h, r => by simp only [toV, VR] at h r; cases h; exact r
  | .niface, v, u, h, r => by simp only [toV, VR] at h r; cases h; exact r
  | .iface t x, v, u, h, r => by
    simp only [toV, VR] at h r
    obtain ⟨y, h1, h2⟩ := Option.map_eq_some_iff.1 h
    obtain ⟨z, h3, h4⟩ := r
    subst h2 h3
    rw [toV_sound x y z h1 h4]
  | .agg cs, v, u, h, r => by
    simp only [toV, VR] at h r
    obtain ⟨y, h1, h2⟩ := Option.map_eq_some_iff.1 h
    obtain ⟨ho, z, h3, h4⟩ := r
    subst h2 h3
    have := toVL_sound cs y _ h1 h4
    congr 1
    apply Array.ext'
    simpa using this
  | .ptr _ _ _, v, u, h, r => by simp [toV] at h
  | .dptr _, v, u, h, r => by simp [toV] at h
  | .dsl _ _, v, u, h, r => by simp [toV] at h
  | .osl _ _ _ _ _, v, u, h, r => by simp [toV] at h
  | .mapr _, v, u, h, r => by simp [toV] at h
  | .fn _ _ _, v, u, h, r => by simp [toV] at h
  | .yld _, v, u, h, r => by simp [toV] at h
  | .tup _, v, u, h, r => by simp [toV] at h
theorem toVL_sound {K : Conc} : ∀ (cs : List AV) (vs us : List Value), toVL cs = some vs → VRL K cs us → us = vs
  | [], vs, us, h, r => by simp only [toVL, VRL] at h r; cases h; exact r
  | c :: cs, vs, us, h, r => by
    simp only [toVL] at h
    simp only [VRL] at r
    obtain ⟨x, xs, h3, h4, h5⟩ := r
    split at h
    · rename_i v' vs' h1 h2
      cases h
      subst h3
      rw [toV_sound c v' x h1 h4, toVL_sound cs vs' xs h2 h5]
    · cases h
end

/-! ### Lists of cells -/
theorem VRL.length {K : Conc} : ∀ {as : List AV} {vs : List Value}, VRL K as vs → as.length = vs.length
  | [], _, h => by simp only [VRL] at h; subst h; rfl
  | a :: as, _, h => by
    simp only [VRL] at h
    obtain ⟨u, us, rfl, _, h2⟩ := h
    simp [VRL.length h2]
theorem VRL.append {K : Conc} : ∀ {as bs : List AV} {vs us : List Value}, VRL K as vs → VRL K bs us → VRL K (as ++ bs) (vs ++ us)
  | [], _, _, _, h, h' => by simp only [VRL] at h; subst h; exact h'
  | a :: as, _, _, _, h, h' => by
    simp only [VRL] at h
    obtain ⟨u, us, rfl, h1, h2⟩ := h
    exact ⟨u, _, rfl, h1, VRL.append h2 h'⟩
theorem VRL.take {K : Conc} : ∀ {as : List AV} {vs : List Value} (n : Nat), VRL K as vs → VRL K (as.take n) (vs.take n)
  | [], _, n, h => by simp only [VRL] at h; subst h; simp [VRL]
  | a :: as, _, 0, h => by simp [VRL]
  | a :: as, _, n + 1, h => by
    simp only [VRL] at h
    obtain ⟨u, us, rfl, h1, h2⟩ := h
    exact ⟨u, _, rfl, h1, VRL.take n h2⟩
theorem VRL.drop {K : Conc} : ∀ {as : List AV} {vs : List Value} (n : Nat), VRL K as vs → VRL K (as.drop n) (vs.drop n)
  | [], _, n, h => by simp only [VRL] at h; subst h; simp [VRL]
  | a :: as, _, 0, h => h
  | a :: as, _, n + 1, h => by
    simp only [VRL] at h
    obtain ⟨u, us, rfl, h1, h2⟩ := h
    exact VRL.drop n h2
theorem VRL.get {K : Conc} : ∀ {as : List AV} {vs : List Value} (n : Nat) (a : AV), VRL K as vs → as[n]? = some a → ∃ v, vs[n]? = some v ∧ VR K a v
  | [], _, n, a, h, e => by simp at e
  | b :: as, _, 0, a, h, e => by
    simp only [VRL] at h
    obtain ⟨u, us, rfl, h1, h2⟩ := h
    simp at e
    subst e
    exact ⟨u, rfl, h1⟩
  | b :: as, _, n + 1, a, h, e => by
    simp only [VRL] at h
    obtain ⟨u, us, rfl, h1, h2⟩ := h
    simpa using VRL.get n a h2 (by simpa using e)
theorem VRL.one {K : Conc} : ∀ {as : List AV} {vs : List Value}, as.all AV.one = true → VRL K as vs → ∀ v ∈ vs, v.oneCell' = true
  | [], _, _, h => by simp only [VRL] at h; subst h; simp
  | a :: as, _, ho, h => by
    simp only [VRL] at h
    obtain ⟨u, us, rfl, h1, h2⟩ := h
    simp only [List.all_cons, Bool.and_eq_true] at ho
    intro v hv
    rcases List.mem_cons.1 hv with rfl | hv
    · exact h1.one ho.1
    · exact VRL.one ho.2 h2 v hv
theorem CR.drop {K : Conc} : ∀ {cs : List AV} {b o : Nat} (n : Nat), CR K cs b o → CR K (cs.drop n) b (o + n)
  | [], _, _, n, h => by simp [CR]
  | a :: as, b, o, 0, h => h
  | a :: as, b, o, n + 1, h => by
    simp only [CR] at h
    have := CR.drop n h.2.2
    rw [List.drop_succ_cons]
    rwa [show o + (n + 1) = o + 1 + n by omega]
theorem CR.take {K : Conc} : ∀ {cs : List AV} {b o : Nat} (n : Nat), CR K cs b o → CR K (cs.take n) b o
  | [], _, _, n, h => by simp [CR]
  | a :: as, b, o, 0, h => by simp [CR]
  | a :: as, b, o, n + 1, h => by
    simp only [CR] at h
    exact ⟨h.1, h.2.1, CR.take n h.2.2⟩
/-- What lies there, as the machine's values. -/
theorem CR.values {K : Conc} : ∀ {cs : List AV} {b o : Nat}, CR K cs b o → ∃ us, VRL K cs us ∧ (∀ j u, us[j]? = some u → K.imm b (o + j) = some u) ∧ cs.all AV.one = true
  | [], b, o, h => ⟨[], rfl, by simp, rfl⟩
  | a :: as, b, o, h => by
    simp only [CR] at h
    obtain ⟨ho, ⟨u, hu, hr⟩, ht⟩ := h
    obtain ⟨us, h1, h2, h3⟩ := CR.values ht
    refine ⟨u :: us, ⟨u, us, rfl, hr, h1⟩, fun j x hx => ?_, by simp [ho, h3]⟩
    cases j with
    | zero => simp at hx; subst hx; exact hu
    | succ j =>
      have := h2 j x (by simpa using hx)
      rwa [show o + (j + 1) = o + 1 + j by omega]

def splice (cs : List AV) (o : Nat) (vs : List AV) : List AV := cs.take o ++ vs ++ cs.drop (o + vs.length)

end Go.Proofs.Ytoijfbdjlagooaa

/- Operations over abstract values, part 2: what they come to (functions alone). -/
namespace Go.Proofs.Ytoijfbdjlagooaa
open Go Go.RowKit
set_option linter.unusedVariables false

def live (H : Heap) (b ver : Nat) : Bool :=
  match H[b]? with
  | some (.cells v _ _) => v == ver
  | _ => false

/-- The cells from a pointer on. -/
def cellsAt (H : Heap) : AV → Option (List AV)
  | .ptr b ver off => match H[b]? with
    | some (.cells v _ cs) => if v = ver then some (cs.drop off) else none
    | _ => none
  | .dptr cs => some cs
  | _ => none

def aload (E : Env) (H : Heap) (t : TypeId) (p : AV) : Option AV :=
  match E.ti t, cellsAt H p with
  | some x, some cs =>
    if x.isAgg then (if x.size ≤ cs.length then some (.agg (cs.take x.size)) else none) else cs.head?
  | _, _ => none

def astore (E : Env) (H : Heap) (t : TypeId) (p v : AV) : Option Heap :=
  match E.ti t, p, v.cells with
  | some x, .ptr b ver off, some vs => match H[b]? with
    | some (.cells v' e cs) => if v' = ver ∧ vs.length = x.size ∧ off + vs.length ≤ cs.length then some (H.set b (.cells ver e (splice cs off vs))) else none
    | _ => none
  | _, _, _ => none

def aalloc (E : Env) (H : Heap) (t : TypeId) : Option (AV × Heap) :=
  (E.ti t).map fun x => (.ptr H.length 0 0, H ++ [.cells 0 t x.zero])

def abox (E : Env) (H : Heap) (t : TypeId) (v : AV) : Option (AV × Heap) :=
  v.cells.map fun vs => (.ptr H.length 0 0, H ++ [.cells 0 t vs])

def afill (place : Nat → Option (Nat × Nat)) : List AV → List (Nat × AV) → Option (List AV)
  | cs, [] => some cs
  | cs, (i, v) :: rest => match place i, v.cells with
    | some (off, size), some vs => if vs.length = size ∧ off + vs.length ≤ cs.length then afill place (splice cs off vs) rest else none
    | _, _ => none

def abuild (E : Env) (t : TypeId) (parts : List (Nat × AV)) : Option AV :=
  match E.ti t with
  | some x => match x.desc with
    | .struct _ => match E.pl t with
      | some pl => (afill (pl[·]?) x.zero parts).map .agg
      | none => none
    | .array _ elem => match E.ti elem with
      | some y => (afill (fun i => some (i * y.size, y.size)) x.zero parts).map .agg
      | none => none
    | _ => none
  | none => none

def reps (n : Nat) (zero : List AV) : List AV := (List.replicate n zero).flatten

def abuildSlice (E : Env) (H : Heap) (t : TypeId) (len : Nat) (parts : List (Nat × AV)) : Option (AV × Heap) :=
  match E.un t with
  | some (.slice elem) => match E.ti elem with
    | some x => if len * x.size ≤ 16777216 ∧ len ≤ 16777216 then
        (afill (fun i => some (i * x.size, x.size)) (reps len x.zero) parts).map fun cs => (.osl H.length 0 0 len x.size, H ++ [.cells 0 elem cs])
      else none
    | none => none
  | _ => none

def afieldAddr (E : Env) (H : Heap) (s : TypeId) (p : AV) (f : Nat) : Option AV :=
  match E.un s with
  | some (.struct fields) => match fields[f]? with
    | some fd => match E.ti fd.type with
      | some x => if x.size = 0 then none else match p with
        | .ptr b ver off => if live H b ver then some (.ptr b ver (off + fd.offset)) else none
        | .dptr cs => some (.dptr (cs.drop fd.offset))
        | _ => none
      | none => none
    | none => none
  | _ => none

def apart (E : Env) (t : TypeId) (cs : List AV) (off : Nat) : Option AV :=
  match E.ti t with
  | some x => if x.isAgg then some (.agg ((cs.take (off + x.size)).drop off)) else cs[off]?
  | none => none

def afield (E : Env) (s : TypeId) (v : AV) (f : Nat) : Option AV :=
  match E.un s, v with
  | some (.struct fields), .agg cs => match fields[f]? with
    | some fd => apart E fd.type cs fd.offset
    | none => none
  | _, _ => none

def aindexAddr (E : Env) (H : Heap) (t : TypeId) (x ix : AV) : Option AV :=
  match E.un t, ix with
  | some (.slice elem), .int _ i => match E.ti elem with
    | some y => match x with
      | .osl b ver off len sz => if live H b ver = true ∧ sz = y.size ∧ 0 ≤ i ∧ i < len then some (.ptr b ver (off + i.toNat * sz)) else none
      | .dsl cs len => if 0 ≤ i ∧ i < len ∧ i.toNat * y.size < cs.length then some (.dptr (cs.drop (i.toNat * y.size))) else none
      | _ => none
    | none => none
  | some (.array n elem), .int _ i => match E.ti elem with
    | some y => if 0 ≤ i ∧ i < n then match x with
        | .ptr b ver off => if live H b ver then some (.ptr b ver (off + i.toNat * y.size)) else none
        | .dptr cs => some (.dptr (cs.drop (i.toNat * y.size)))
        | _ => none
      else none
    | none => none
  | _, _ => none

def aindex (E : Env) (t : TypeId) (x ix : AV) : Option AV :=
  match E.un t, x, ix with
  | some (.array n elem), .agg cs, .int _ i => match E.ti elem with
    | some y => if 0 ≤ i ∧ i < n then apart E elem cs (i.toNat * y.size) else none
    | none => none
  | some .string, .str s, .int _ i => if 0 ≤ i then (s[i.toNat]?).map fun b => .int .u8 b.toNat else none
  | _, _, _ => none

def bound (d : Nat) : Option AV → Option Nat
  | none => some d
  | some (.int _ i) => if 0 ≤ i then some i.toNat else none
  | _ => none

def aslice (E : Env) (H : Heap) (t : TypeId) (x : AV) (lo hi : Option AV) : Option AV :=
  match E.un t, x with
  | some .string, .str s => match bound s.size hi, bound 0 lo with
    | some h, some l => if l ≤ h ∧ h ≤ s.size then some (.str (s.extract l h)) else none
    | _, _ => none
  | some (.slice elem), .nsl => match bound 0 hi, bound 0 lo, E.ti elem with
    | some 0, some 0, some _ => some .nsl
    | _, _, _ => none
  | some (.slice elem), .dsl cs len => match bound len hi, bound 0 lo, E.ti elem with
    | some h, some l, some y => if l ≤ h ∧ h ≤ len then some (.dsl ((cs.drop (l * y.size)).take ((h - l) * y.size)) (h - l)) else none
    | _, _, _ => none
  | some (.slice elem), .osl b ver off len sz => match bound len hi, bound 0 lo, E.ti elem with
    | some h, some l, some y => if live H b ver = true ∧ sz = y.size ∧ l ≤ h ∧ h ≤ len then
        (if l = 0 then some (.osl b ver off h sz) else if l < h then some (.osl b ver (off + l * sz) (h - l) sz) else some (.dsl [] 0)) else none
    | _, _, _ => none
  | _, _ => none

def amakeSlice (E : Env) (H : Heap) (t : TypeId) (l c : AV) : Option (AV × Heap) :=
  match E.un t, l, c with
  | some (.slice elem), .int _ n, .int _ m => match E.ti elem with
    | some y => if 0 ≤ n ∧ n ≤ m ∧ y.bytes * m.toNat ≤ 281474976710656 ∧ m ≤ 281474976710656 then some (.osl H.length 0 0 n.toNat y.size, H ++ [.cells 0 elem (reps n.toNat y.zero)]) else none
    | none => none
  | _, _, _ => none

/-- What a slice holds: its cells, and how many elements. -/
def sliceCells (H : Heap) : AV → Option (List AV × Nat)
  | .nsl => some ([], 0)
  | .dsl cs len => some (cs, len)
  | .osl b ver off len sz => match H[b]? with
    | some (.cells v _ cs) => if v = ver then some ((cs.drop off).take (len * sz), len) else none
    | _ => none
  | _ => none

def aappend (E : Env) (H : Heap) (t u : TypeId) (s x : AV) : Option (AV × Heap) :=
  match E.un t, E.un u with
  | some (.slice elem), some (.slice _) => match E.ti elem, sliceCells H x with
    | some y, some (news, m) =>
      if news.length = m * y.size ∧ 0 < y.size then match s with
      | .nsl => if m = 0 then some (.nsl, H) else if m * y.bytes ≤ 140737488355328 ∧ m ≤ 140737488355328 then some (.osl H.length 0 0 m y.size, H ++ [.cells 0 elem news]) else none
      | .osl b ver 0 len sz => match H[b]? with
        | some (.cells v e cs) =>
          if v = ver ∧ e = elem ∧ sz = y.size ∧ len * sz ≤ cs.length ∧ (len + m) * y.bytes ≤ 140737488355328 ∧ len + m ≤ 140737488355328 then
            some (.osl b (ver + 1) 0 (len + m) sz, H.set b (.cells (ver + 1) elem (cs.take (len * sz) ++ news))) else none
        | _ => none
      | _ => none
      else none
    | _, _ => none
  | _, _ => none

def alen (E : Env) (H : Heap) (t : TypeId) (x : AV) : Option AV :=
  match E.un t, x with
  | some .string, .str s => some (.int .i64 s.size)
  | some (.array n _), _ => some (.int .i64 n)
  | some (.slice _), .nsl => some (.int .i64 0)
  | some (.slice _), .dsl _ len => some (.int .i64 len)
  | some (.slice _), .osl b ver _ len _ => if live H b ver then some (.int .i64 len) else none
  | _, _ => none

/-- Operands. -/
def ev (E : Env) (fr : Fr) : Operand → Option AV
  | .tmp t => lk fr t
  | .const v => ofV v
  | .global g => (E.G g).map .dptr
  | .func f => some (.fn (.func f) [] [])
def evs (E : Env) (fr : Fr) : List Operand → Option (List AV)
  | [] => some []
  | x :: xs => match ev E fr x, evs E fr xs with
    | some a, some as => some (a :: as)
    | _, _ => none
def evo (E : Env) (fr : Fr) : Option Operand → Option (Option AV)
  | none => some none
  | some x => (ev E fr x).map some
def evp (E : Env) (fr : Fr) : List (Nat × Operand) → Option (List (Nat × AV))
  | [] => some []
  | (i, x) :: xs => match ev E fr x, evp E fr xs with
    | some a, some as => some ((i, a) :: as)
    | _, _ => none

/-- An operation that neither reads nor writes memory, at values that name none. -/
def apure (E : Env) (s : Sem Value) : Option AV := match prun E.P s with
  | some v => ofV v
  | none => none

def aint (E : Env) (op : BinOp) (t : TypeId) (k k' : IntKind) (a b : Int) : Option AV :=
  match op with
  | .add => if k = k' then some (.int k (k.wrap (a + b))) else none
  | .sub => if k = k' then some (.int k (k.wrap (a - b))) else none
  | .mul => if k = k' then some (.int k (k.wrap (a * b))) else none
  | .quo => if k = k' ∧ b ≠ 0 then some (.int k (k.wrap (a.tdiv b))) else none
  | .rem => if k = k' ∧ b ≠ 0 then some (.int k (a.tmod b)) else none
  | .eql => if k = k' then some (.bool (a == b)) else none
  | .neq => if k = k' then some (.bool (a != b)) else none
  | .lss => if k = k' then some (.bool (a < b)) else none
  | .leq => if k = k' then some (.bool (a ≤ b)) else none
  | .gtr => if k = k' then some (.bool (a > b)) else none
  | .geq => if k = k' then some (.bool (a ≥ b)) else none
  | .shl => if 0 ≤ b then some (.int k (k.wrap (a * 2 ^ (min b.toNat k.bits)))) else none
  | .shr => if 0 ≤ b then some (.int k (a.fdiv (2 ^ (min b.toNat k.bits)))) else none
  | _ => apure E (binOp op t (.int k a) (.int k' b))

def abin (E : Env) (op : BinOp) (t : TypeId) (xo yo : Operand) (x y : AV) : Option AV :=
  match x, y with
  | .int k a, .int k' b => aint E op t k k' a b
  | x, y => match toV x, toV y with
    | some u, some v => apure E (do eqGuard op t xo yo u v; binOp op t u v)
    | _, _ => none

/-- Comparisons of what names memory with nil: it is none. -/
def isNil (E : Env) (H : Heap) (t : TypeId) (x y : AV) : Bool :=
  match E.un t, x, y with
  | some (.slice _), .osl b ver _ _ _, .nsl => live H b ver
  | some (.slice _), .dsl (_ :: _) _, .nsl => true
  | some (.pointer _), .ptr b ver _, .nptr => live H b ver
  | some (.pointer _), .dptr _, .nptr => true
  | some (.func _ _ _), .fn _ _ _, .nfn => true
  | _, _, _ => false
def anil (E : Env) (H : Heap) (op : BinOp) (t : TypeId) (x y : AV) : Option AV :=
  match op with
  | .eql => if isNil E H t x y then some (.bool false) else none
  | .neq => if isNil E H t x y then some (.bool true) else none
  | _ => none

def aconv (E : Env) (src dst : TypeId) (x : AV) : Option AV :=
  match E.un dst, x with
  | some (.int k), .int _ n => some (.int k (k.wrap n))
  | _, _ => match toV x with
    | some v => apure E (convert src dst v)
    | none => none

def numOf : AV → Int
  | .int _ n => n
  | _ => 0
def isU8 : AV → Bool
  | .int .u8 _ => true
  | _ => false
/-- The bytes of a slice as a string. -/
def abytes (E : Env) (H : Heap) (src dst : TypeId) (x : AV) : Option AV :=
  match E.un src, E.un dst with
  | some (.slice e), some .string => match E.un e, sliceCells H x with
    | some (.int .u8), some (cs, m) => if cs.length = m ∧ cs.all isU8 = true then some (.str (strOfNums (cs.map numOf))) else none
    | _, _ => none
  | _, _ => none

def aassert (E : Env) (x : AV) (asserted : TypeId) (ok : Bool) : Option AV :=
  match E.un asserted, x with
  | some (.interface _), _ => none
  | some _, .iface t v => if t = asserted then some (if ok then .tup [v, .bool true] else v) else
      if ok then (match E.ti asserted with
        | some y => (y.zv).map fun z => .tup [z, .bool false]
        | none => none) else none
  | _, _ => none

/-- Built-in functions that leave the memory alone. -/
def abuiltin (E : Env) (H : Heap) (b : Builtin) (ts : Array TypeId) (ty : TypeId) (xs : List AV) : Option AV :=
  match b, xs with
  | .len, [x] => match ts[0]? with
    | some t => alen E H t x
    | none => none
  | .max, [.int k a, .int _ b] => some (.int k (if b > a then b else a))
  | .min, [.int k a, .int _ b] => some (.int k (if b < a then b else a))
  | .min, _ => match toVL xs with
    | some vs => apure E (Builtin.min_ ts ty vs.toArray)
    | none => none
  | .max, _ => match toVL xs with
    | some vs => apure E (Builtin.max_ ts ty vs.toArray)
    | none => none
  | _, _ => none

/-- One operation that calls no Go function and leaves the memory alone. -/
def aopQ (E : Env) (fr : Fr) (H : Heap) (op : Op) (ty : TypeId) : Option AV :=
  match op with
  | .move x | .assign x => ev E fr x
  | .pick c a b => match ev E fr c, ev E fr a, ev E fr b with
    | some (.bool t), some u, some v => some (if t then u else v)
    | _, _, _ => none
  | .build t ps => match evp E fr ps.toList with
    | some l => abuild E t l
    | none => none
  | .load t x => match ev E fr x with
    | some p => aload E H t p
    | none => none
  | .nilCheck x => match ev E fr x with
    | some (.ptr b ver off) => if live H b ver then some (.ptr b ver off) else none
    | some (.dptr cs) => some (.dptr cs)
    | some (.iface t v) => some (.iface t v)
    | some (.fn (.func f) a b) => some (.fn (.func f) a b)
    | some (.yld b) => match H[b]? with
      | some (.loop ..) => some (.yld b)
      | _ => none
    | _ => none
  | .binOp op t x y _ => match ev E fr x, ev E fr y with
    | some u, some v => match abin E op t x y u v with
      | some r => some r
      | none => anil E H op t u v
    | _, _ => none
  | .unOp op _ x => match ev E fr x with
    | some u => match toV u with
      | some v => apure E (Op.unary op v)
      | none => none
    | none => none
  | .convert src dst x => match ev E fr x, E.un src with
    | some u, some (.slice _) => abytes E H src dst u
    | some u, some _ => aconv E src dst u
    | _, _ => none
  | .makeInterface t x => match ev E fr x, E.un t with
    | some u, some (.interface _) => none
    | some u, some _ => some (.iface t u)
    | _, _ => none
  | .makeFunc (.func f) a b => match evs E fr a.toList, evs E fr b.toList with
    | some u, some v => some (.fn (.func f) u v)
    | _, _ => none
  | .slice t x lo hi none => match ev E fr x, evo E fr lo, evo E fr hi with
    | some u, some l, some h => aslice E H t u l h
    | _, _, _ => none
  | .fieldAddr s x f => match ev E fr x with
    | some u => afieldAddr E H s u f
    | none => none
  | .field s x f => match ev E fr x with
    | some u => afield E s u f
    | none => none
  | .indexAddr t x i => match ev E fr x, ev E fr i with
    | some u, some v => aindexAddr E H t u v
    | _, _ => none
  | .index t x i => match ev E fr x, ev E fr i with
    | some u, some v => aindex E t u v
    | _, _ => none
  | .typeAssert x _ asserted ok => match ev E fr x with
    | some u => aassert E u asserted ok
    | none => none
  | .extract x i => match ev E fr x with
    | some (.tup vs) => vs[i]?
    | _ => none
  | .call { callee := .builtin b, args, argTypes } => match evs E fr args.toList with
    | some xs => abuiltin E H b argTypes ty xs
    | none => none
  | _ => none

/-- One operation that calls no Go function and writes or makes memory. -/
def aopW (E : Env) (fr : Fr) (H : Heap) (op : Op) (ty : TypeId) : Option (AV × Heap) :=
  match op with
  | .alloc t => aalloc E H t
  | .box t x => match ev E fr x with
    | some v => abox E H t v
    | none => none
  | .buildSlice t n ps => match evp E fr ps.toList with
    | some l => abuildSlice E H t n l
    | none => none
  | .store t a x => match ev E fr a, ev E fr x with
    | some p, some v => (astore E H t p v).map (.tup [], ·)
    | _, _ => none
  | .makeSlice t l c => match ev E fr l, ev E fr c with
    | some u, some v => amakeSlice E H t u v
    | _, _ => none
  | .call { callee := .builtin .append, args, argTypes } => match evs E fr args.toList with
    | some [s, x] => match argTypes[0]?, argTypes[1]? with
      | some t, some u => aappend E H t u s x
      | _, _ => none
    | _ => none
  | _ => none

/-- One operation that calls no Go function. -/
def aop (E : Env) (fr : Fr) (H : Heap) (op : Op) (ty : TypeId) : Option (AV × Heap) :=
  match aopQ E fr H op ty with
  | some v => some (v, H)
  | none => aopW E fr H op ty

end Go.Proofs.Ytoijfbdjlagooaa

/- Operations over abstract values, part 3: the machine's come to the same (those that leave the memory alone). -/
namespace Go.Proofs.Ytoijfbdjlagooaa
open Go Go.RowKit
set_option linter.unusedVariables false
set_option linter.unusedSimpArgs false

theorem add_off (b o j : Nat) : (⟨b, o, none⟩ : Addr).add j = ⟨b, o + j, none⟩ := by unfold Addr.add; split <;> simp_all

def QOK (E : Env) (K : Conc) (w : World) (s : Sem Value) (v : AV) : Prop := ∃ cv, s.run E.P w = .ok cv w ∧ VR K v cv

section
variable {E : Env} {K : Conc} {H : Heap} {w : World} {N : Nat} {fr : Fr} {a : Act}

theorem ev_sound (hH : HR E K H w) (hF : FR K N fr a.tmps) {x : Operand} {v : AV} (h : ev E fr x = some v) : VR K v (a.eval x) := by
  cases x with
  | tmp t => exact hF.2 t v h
  | const u => exact ofV_sound h
  | global g =>
    obtain ⟨cs, h1, h2⟩ := Option.map_eq_some_iff.1 h
    subst h2
    exact ⟨g, 0, rfl, hH.glob g cs h1⟩
  | func f =>
    simp only [ev] at h
    cases h
    exact ⟨fun l => (by simp), #[], #[], rfl, rfl, rfl⟩

theorem evs_sound (hH : HR E K H w) (hF : FR K N fr a.tmps) : ∀ {xs : List Operand} {vs : List AV}, evs E fr xs = some vs → VRL K vs (xs.map a.eval)
  | [], vs, h => by simp only [evs] at h; cases h; rfl
  | x :: xs, vs, h => by
    simp only [evs] at h
    split at h
    · rename_i u us h1 h2
      cases h
      exact ⟨_, _, rfl, ev_sound hH hF h1, evs_sound hH hF h2⟩
    · cases h

theorem evp_sound (hH : HR E K H w) (hF : FR K N fr a.tmps) : ∀ {xs : List (Nat × Operand)} {vs : List (Nat × AV)}, evp E fr xs = some vs →
    vs.map (·.1) = xs.map (·.1) ∧ VRL K (vs.map (·.2)) (xs.map fun p => a.eval p.2)
  | [], vs, h => by simp only [evp] at h; cases h; exact ⟨rfl, rfl⟩
  | (i, x) :: xs, vs, h => by
    simp only [evp] at h
    split at h
    · rename_i u us h1 h2
      cases h
      obtain ⟨i1, i2⟩ := evp_sound hH hF h2
      exact ⟨by simp [i1], _, _, rfl, ev_sound hH hF h1, i2⟩
    · cases h

theorem live_spec {b ver : Nat} (hH : HR E K H w) (h : live H b ver = true) : ∃ i arr e cs, H[b]? = some (.cells ver e cs) ∧ K.blk[b]? = some i ∧ i.ver = ver ∧
    w.heap[i.c]? = some (.cells arr e (0, 0)) ∧ arr.size = i.room ∧ cs.all AV.one = true ∧ cs.length ≤ arr.size ∧ VRL K cs (arr.toList.take cs.length) := by
  unfold live at h
  split at h
  · rename_i v e cs hb
    have hv : v = ver := by simpa using h
    subst hv
    obtain ⟨i, hi, ho⟩ := hH.info hb
    obtain ⟨h1, arr, h2, h3, h4, h5, h6⟩ := ho
    exact ⟨i, arr, e, cs, hb, hi, h1, h2, h3, h4, h5, h6⟩
  · cases h

theorem live_of {b ver e : Nat} {cs : List AV} (h : H[b]? = some (.cells ver e cs)) : live H b ver = true := by simp [live, h]

theorem VR.ptr_eq {b ver off : Nat} {v : Value} {i : BI} (h : VR K (.ptr b ver off) v) (hb : K.blk[b]? = some i) (hv : i.ver = ver) : v = .pointer (some ⟨i.c, off, none⟩) := by
  simp only [VR] at h
  obtain ⟨_, j, h1, _, h3⟩ := h
  have : j = i := Option.some.inj (h1.symm.trans hb)
  subst this
  exact h3 hv

theorem VR.osl_eq {b ver off len sz : Nat} {v : Value} {i : BI} (h : VR K (.osl b ver off len sz) v) (hb : K.blk[b]? = some i) (hv : i.ver = ver) :
    ∃ cap, v = .slice (some ⟨i.c, off, none⟩) len cap ∧ len ≤ cap ∧ cap ≤ maxLen ∧ off + cap * sz = i.room := by
  simp only [VR] at h
  obtain ⟨_, j, h1, _, h3⟩ := h
  have : j = i := Option.some.inj (h1.symm.trans hb)
  subst this
  exact h3 hv

theorem VR.mk_ptr {b ver off : Nat} {i : BI} (hb : K.blk[b]? = some i) (hv : i.ver = ver) : VR K (.ptr b ver off) (.pointer (some ⟨i.c, off, none⟩)) :=
  ⟨rfl, i, hb, by omega, fun _ => rfl⟩
theorem VR.mk_osl {b ver off len sz cap : Nat} {i : BI} (hb : K.blk[b]? = some i) (hv : i.ver = ver) (hl : len ≤ cap) (hm : cap ≤ maxLen) (hr : off + cap * sz = i.room) :
    VR K (.osl b ver off len sz) (.slice (some ⟨i.c, off, none⟩) len cap) :=
  ⟨rfl, i, hb, by omega, fun _ => ⟨cap, rfl, hl, hm, hr⟩⟩

/-- What a pointer leads to, in the machine's world. -/
theorem cellsAt_spec (hH : HR E K H w) {p : AV} {pv : Value} {cs : List AV} (hp : VR K p pv) (h : cellsAt H p = some cs) :
    ∃ b o us, pv = .pointer (some ⟨b, o, none⟩) ∧ VRL K cs us ∧ (∀ j u, us[j]? = some u → w.cell? ⟨b, o + j, none⟩ = some u) ∧ cs.all AV.one = true := by
  unfold cellsAt at h
  split at h
  · rename_i b ver off
    split at h
    · rename_i v e cs' hb
      split at h
      · rename_i hv
        subst hv
        cases h
        obtain ⟨i, arr, e', cs'', hb', hi, hver, harr, hsz, hone, hlen, hvr⟩ := live_spec hH (live_of hb)
        rw [hb] at hb'
        cases hb'
        have hpv := hp.ptr_eq hi hver
        refine ⟨i.c, off, (arr.toList.take cs'.length).drop off, hpv, hvr.drop off, fun j u hu => ?_, ?_⟩
        · rw [List.getElem?_drop, List.getElem?_take] at hu
          split at hu
          · simp [World.cell?, harr]
            simpa using hu
          · cases hu
        · rw [List.all_eq_true] at hone ⊢
          exact fun x hx => hone x (List.mem_of_mem_drop hx)
      · cases h
    · cases h
  · rename_i cs'
    cases h
    simp only [VR] at hp
    obtain ⟨b, o, rfl, hc⟩ := hp
    obtain ⟨us, h1, h2, h3⟩ := hc.values
    exact ⟨b, o, us, rfl, h1, fun j u hu => hH.imm _ _ _ (h2 j u hu), h3⟩
  · cases h

theorem run_isAgg {P : Program} {t : TypeId} {x : TI} (h : tinfo P t = some x) (w : World) : (isAgg t).run P w = .ok x.isAgg w := by
  obtain ⟨i, z, h1, h2, h3, h4, h5, h6, h7, h8⟩ := tinfo_spec h
  unfold isAgg TI.isAgg descAgg
  simp only [Sem.run_bind, run_underlying h2, Result.andThen_ok]
  split <;> simp_all

theorem run_sizeOf' {P : Program} {t : TypeId} {x : TI} (h : tinfo P t = some x) (w : World) : (sizeOf t).run P w = .ok x.size w := by
  obtain ⟨i, z, h1, h2, h3, h4, h5, h6, h7, h8⟩ := tinfo_spec h
  simp [sizeOf, typeInfo, h1, h5]

theorem aload_sound (hH : HR E K H w) {t : TypeId} {p v : AV} {pv : Value} (hp : VR K p pv) (h : aload E H t p = some v) : QOK E K w (Instr.loadAt t pv) v := by
  unfold aload at h
  split at h
  · rename_i x cs hx hc
    obtain ⟨b, o, us, rfl, h1, h2, h3⟩ := cellsAt_spec hH hp hc
    have hlen := h1.length
    split at h
    · rename_i hagg
      split at h
      · rename_i hsz
        cases h
        refine ⟨.agg (us.take x.size).toArray, ?_, ?_, _, rfl, by simpa using h1.take x.size⟩
        · have hl : (us.take x.size).length = x.size := by simp; omega
          have hlc := run_loadCells_list (P := E.P) w ⟨b, o, none⟩ (us.take x.size) (fun j u hu => by
            rw [add_off]
            rw [List.getElem?_take] at hu
            split at hu
            · exact h2 j u hu
            · cases hu)
          rw [hl] at hlc
          simp [Instr.loadAt, Instr.sureAddr, loadVar, run_isAgg (E.ti_ok _ _ hx), hagg, run_sizeOf' (E.ti_ok _ _ hx), hlc]
        · rw [List.all_eq_true] at h3 ⊢
          exact fun y hy => h3 y (List.mem_of_mem_take hy)
      · cases h
    · rename_i hagg
      cases cs with
      | nil => cases h
      | cons c cs =>
        simp at h
        subst h
        simp only [VRL] at h1
        obtain ⟨u, us', rfl, h4, h5⟩ := h1
        refine ⟨u, ?_, h4⟩
        have := h2 0 u rfl
        simp [Instr.loadAt, Instr.sureAddr, loadVar, run_isAgg (E.ti_ok _ _ hx), hagg]
        simp at this
        simp [this]
  · cases h

theorem apart_sound {t : TypeId} {cs : List AV} {us : Array Value} {off : Nat} {v : AV} (hone : cs.all AV.one = true) (hc : VRL K cs us.toList) (h : apart E t cs off = some v) : QOK E K w (part t us off) v := by
  unfold apart at h
  split at h
  · rename_i x hx
    split at h
    · rename_i hagg
      cases h
      refine ⟨.agg (us.extract off (off + x.size)), by simp [part, run_isAgg (E.ti_ok _ _ hx), hagg, run_sizeOf' (E.ti_ok _ _ hx)], ?_, _, rfl, ?_⟩
      · rw [List.all_eq_true] at hone ⊢
        exact fun y hy => hone y (List.mem_of_mem_take (List.mem_of_mem_drop hy))
      · have := (hc.take (off + x.size)).drop off
        rw [Array.toList_extract]
        have e : us.toList.extract off (off + x.size) = (us.toList.take (off + x.size)).drop off := by simp [List.extract_eq_take_drop, List.drop_take]
        rw [e]
        exact this
    · rename_i hagg
      obtain ⟨u, h1, h2⟩ := hc.get off v h
      refine ⟨u, ?_, h2⟩
      have : us[off]? = some u := by simpa using h1
      simp [part, run_isAgg (E.ti_ok _ _ hx), hagg, this]
  · cases h

theorem afield_sound {s : TypeId} {x v : AV} {xv : Value} {f : Nat} (hx : VR K x xv) (h : afield E s x f = some v) : QOK E K w (Instr.field s xv f) v := by
  unfold afield at h
  split at h
  · rename_i fields cs hu
    split at h
    · rename_i fd hf
      simp only [VR] at hx
      obtain ⟨ho, us, rfl, hc⟩ := hx
      obtain ⟨cv, h1, h2⟩ := apart_sound (w := w) ho hc h
      exact ⟨cv, by simp [Instr.field, run_underlying (Env.un_ok hu), hf, asAgg, h1], h2⟩
    · cases h
  · cases h

theorem afieldAddr_sound (hH : HR E K H w) {s : TypeId} {p v : AV} {pv : Value} {f : Nat} (hp : VR K p pv) (h : afieldAddr E H s p f = some v) : QOK E K w (Instr.fieldAt s pv f) v := by
  unfold afieldAddr at h
  split at h
  · rename_i fields hu
    split at h
    · rename_i fd hf
      split at h
      · rename_i x hx
        split at h
        · cases h
        · rename_i hsz
          split at h
          · rename_i b ver off
            split at h
            · rename_i hl
              cases h
              obtain ⟨i, arr, e', cs'', hb', hi, hver, _⟩ := live_spec hH hl
              have := hp.ptr_eq hi hver
              subst this
              exact ⟨_, by simp [Instr.fieldAt, run_underlying (Env.un_ok hu), hf, Instr.sureAddr, fieldPlace, run_sizeOf' (E.ti_ok _ _ hx), hsz, add_off], VR.mk_ptr hi hver⟩
            · cases h
          · rename_i cs
            cases h
            simp only [VR] at hp
            obtain ⟨b, o, rfl, hc⟩ := hp
            exact ⟨_, by simp [Instr.fieldAt, run_underlying (Env.un_ok hu), hf, Instr.sureAddr, fieldPlace, run_sizeOf' (E.ti_ok _ _ hx), hsz, add_off], b, _, rfl, hc.drop _⟩
          · cases h
      · cases h
    · cases h
  · cases h

theorem aindexAddr_sound (hH : HR E K H w) {t : TypeId} {x ix v : AV} {xv iv : Value} (hx : VR K x xv) (hi : VR K ix iv) (h : aindexAddr E H t x ix = some v) : QOK E K w (Instr.indexAt t xv iv) v := by
  unfold aindexAddr at h
  split at h
  · rename_i elem k i hu
    simp only [VR] at hi
    subst hi
    split at h
    · rename_i y hy
      split at h
      · rename_i b ver off len sz
        split at h
        · rename_i hc
          obtain ⟨hl, rfl, h0, h1⟩ := hc
          cases h
          obtain ⟨j, arr, e', cs'', hb', hj, hver, _⟩ := live_spec hH hl
          obtain ⟨cap, rfl, _⟩ := hx.osl_eq hj hver
          refine ⟨_, ?_, VR.mk_ptr hj hver⟩
          simp [Instr.indexAt, asIntOf, run_underlying (Env.un_ok hu), h0, h1, run_sizeOf' (E.ti_ok _ _ hy), add_off]
        · cases h
      · rename_i cs len
        split at h
        · rename_i hc
          obtain ⟨h0, h1, h2⟩ := hc
          cases h
          simp only [VR] at hx
          obtain ⟨ao, c, rfl, _, hcr0⟩ := hx
          obtain ⟨b, o, rfl, hcr⟩ := hcr0 (by intro hh; subst hh; simp at h2)
          refine ⟨_, ?_, b, _, rfl, hcr.drop _⟩
          simp [Instr.indexAt, asIntOf, run_underlying (Env.un_ok hu), h0, h1, run_sizeOf' (E.ti_ok _ _ hy), add_off]
        · cases h
      · cases h
    · cases h
  · rename_i n elem k i hu
    simp only [VR] at hi
    subst hi
    split at h
    · rename_i y hy
      split at h
      · rename_i hc
        obtain ⟨h0, h1⟩ := hc
        split at h
        · rename_i b ver off
          split at h
          · rename_i hl
            cases h
            obtain ⟨j, arr, e', cs'', hb', hj, hver, _⟩ := live_spec hH hl
            have := hx.ptr_eq hj hver
            subst this
            refine ⟨_, ?_, VR.mk_ptr hj hver⟩
            simp [Instr.indexAt, asIntOf, run_underlying (Env.un_ok hu), h0, h1, run_sizeOf' (E.ti_ok _ _ hy), add_off, Instr.sureAddr]
          · cases h
        · rename_i cs
          cases h
          simp only [VR] at hx
          obtain ⟨b, o, rfl, hc⟩ := hx
          refine ⟨_, ?_, b, _, rfl, hc.drop _⟩
          simp [Instr.indexAt, asIntOf, run_underlying (Env.un_ok hu), h0, h1, run_sizeOf' (E.ti_ok _ _ hy), add_off, Instr.sureAddr]
        · cases h
      · cases h
    · cases h
  · cases h

theorem aindex_sound {t : TypeId} {x ix v : AV} {xv iv : Value} (hx : VR K x xv) (hi : VR K ix iv) (h : aindex E t x ix = some v) : QOK E K w (Instr.index t xv iv) v := by
  unfold aindex at h
  split at h
  · rename_i n elem cs k i hu
    simp only [VR] at hi hx
    subst hi
    obtain ⟨ho, us, rfl, hc⟩ := hx
    split at h
    · rename_i y hy
      split at h
      · rename_i hb
        obtain ⟨cv, h1, h2⟩ := apart_sound (w := w) ho hc h
        exact ⟨cv, by simp [Instr.index, asIntOf, run_underlying (Env.un_ok hu), hb, run_sizeOf' (E.ti_ok _ _ hy), h1], h2⟩
      · cases h
    · cases h
  · rename_i s k i hu
    simp only [VR] at hi hx
    subst hi hx
    split at h
    · rename_i hb
      obtain ⟨c, h1, h2⟩ := Option.map_eq_some_iff.1 h
      subst h2
      refine ⟨.int .u8 c.toNat, ?_, rfl⟩
      simp [Instr.index, asIntOf, run_underlying (Env.un_ok hu), hb, h1]
    · cases h
  · cases h

theorem bound_sound {d : Nat} {x : Option AV} {xv : Option Value} {n : Nat} (hx : (x = none ∧ xv = none) ∨ ∃ a u, x = some a ∧ xv = some u ∧ VR K a u) (h : bound d x = some n) :
    (xv = none ∧ n = d) ∨ ∃ k, xv = some (.int k n) := by
  rcases hx with ⟨rfl, rfl⟩ | ⟨a, u, rfl, rfl, hr⟩
  · simp only [bound] at h
    cases h
    exact .inl ⟨rfl, rfl⟩
  · cases a <;> simp only [bound] at h <;> try cases h
    rename_i k i
    split at h
    · rename_i h0
      cases h
      simp only [VR] at hr
      subst hr
      exact .inr ⟨k, by simp [Int.toNat_of_nonneg h0]⟩
    · cases h

/-- The bounds of a slice expression, as the machine asks them. -/
theorem run_bounds {isS : Bool} {len cap l h : Nat} {lo hi : Option Value} (hl : (lo = none ∧ l = 0) ∨ ∃ k, lo = some (.int k l)) (hh : (hi = none ∧ h = len) ∨ ∃ k, hi = some (.int k h)) (h1 : l ≤ h) (h2 : h ≤ len) (h3 : len ≤ cap) :
    (Instr.sliceBounds isS len cap lo hi none).run E.P w = .ok (l, h, cap) w := by
  have key : ∀ (k : IntKind) (n y : Nat) (c : BoundsCode), n ≤ y → (Instr.sliceBound (.int k n) y c).run E.P w = .ok n w := by
    intro k n y c hn
    simp [Instr.sliceBound, asIntOf, hn]
  rcases hl with ⟨rfl, rfl⟩ | ⟨k, rfl⟩ <;> rcases hh with ⟨rfl, rfl⟩ | ⟨k', rfl⟩
  · simp [Instr.sliceBounds]
  · simp [Instr.sliceBounds, key k' h cap _ (by omega)]
  · simp [Instr.sliceBounds, key k l _ _ h1]
  · simp [Instr.sliceBounds, key k' h cap _ (by omega), key k l _ _ h1]

theorem aslice_sound (hH : HR E K H w) {t : TypeId} {x v : AV} {xv : Value} {lo hi : Option AV} {lv hv : Option Value} (hx : VR K x xv)
    (hlo : (lo = none ∧ lv = none) ∨ ∃ a u, lo = some a ∧ lv = some u ∧ VR K a u) (hhi : (hi = none ∧ hv = none) ∨ ∃ a u, hi = some a ∧ hv = some u ∧ VR K a u)
    (h : aslice E H t x lo hi = some v) : QOK E K w (Instr.sliceAt t xv lv hv none) v := by
  unfold aslice at h
  split at h
  · rename_i s hu
    simp only [VR] at hx
    subst hx
    split at h
    · rename_i hh ll e1 e2
      have b1 := bound_sound hhi e1
      have b2 := bound_sound hlo e2
      split at h
      · rename_i hb
        cases h
        have hr := run_bounds (E := E) (w := w) (isS := false) b2 b1 hb.1 hb.2 (Nat.le_refl _)
        exact ⟨_, by simp [Instr.sliceAt, Instr.slice, run_underlying (Env.un_ok hu), hr], rfl⟩
      · cases h
    · cases h
  · rename_i elem hu
    simp only [VR] at hx
    subst hx
    split at h
    · rename_i y e1 e2 hy
      have b1 := bound_sound hhi e1
      have b2 := bound_sound hlo e2
      cases h
      have hr := run_bounds (E := E) (w := w) (isS := true) (len := 0) (cap := 0) b2 b1 (Nat.le_refl _) (Nat.le_refl _) (Nat.le_refl _)
      exact ⟨_, by simp [Instr.sliceAt, Instr.slice, run_underlying (Env.un_ok hu), hr, run_sizeOf' (E.ti_ok _ _ hy)], rfl⟩
    · cases h
  · rename_i elem cs len hu
    split at h
    · rename_i hh ll y e1 e2 hy
      have b1 := bound_sound hhi e1
      have b2 := bound_sound hlo e2
      split at h
      · rename_i hb
        cases h
        simp only [VR] at hx
        obtain ⟨ao, c, rfl, hlc, hcr⟩ := hx
        have hr := run_bounds (E := E) (w := w) (isS := true) b2 b1 hb.1 hb.2 hlc
        refine ⟨.slice (if c = ll then ao else ao.map (·.add (ll * y.size))) (hh - ll) (c - ll), by simp [Instr.sliceAt, Instr.slice, run_underlying (Env.un_ok hu), hr, run_sizeOf' (E.ti_ok _ _ hy)], _, _, rfl, by omega, fun hne => ?_⟩
        have hne' : cs ≠ [] := by rintro rfl; simp at hne
        obtain ⟨b, o, rfl, hcc⟩ := hcr hne'
        have hlt : ll < hh := by
          rcases Nat.lt_or_ge ll hh with h' | h'
          · exact h'
          · have : hh - ll = 0 := by omega
            rw [this] at hne
            simp at hne
        have : ¬ c = ll := by omega
        refine ⟨b, o + ll * y.size, by simp [this, add_off], (hcc.drop _).take _⟩
      · cases h
    · cases h
  · rename_i elem b ver off len sz hu
    split at h
    · rename_i hh ll y e1 e2 hy
      have b1 := bound_sound hhi e1
      have b2 := bound_sound hlo e2
      split at h
      · rename_i hb
        obtain ⟨hl, rfl, hb1, hb2⟩ := hb
        obtain ⟨i, arr, e', cs'', hb', hi', hver, _⟩ := live_spec hH hl
        obtain ⟨cap, rfl, hc1, hc2, hc3⟩ := hx.osl_eq hi' hver
        have hr := run_bounds (E := E) (w := w) (isS := true) b2 b1 hb1 hb2 hc1
        have hrun : (Instr.sliceAt t (.slice (some ⟨i.c, off, none⟩) len cap) lv hv none).run E.P w =
            .ok (.slice (some (if cap = ll then ⟨i.c, off, none⟩ else ⟨i.c, off + ll * y.size, none⟩)) (hh - ll) (cap - ll)) w := by
          by_cases hcl : cap = ll
          · subst hcl
            simp [Instr.sliceAt, Instr.slice, run_underlying (Env.un_ok hu), hr, run_sizeOf' (E.ti_ok _ _ hy)]
          · simp [Instr.sliceAt, Instr.slice, run_underlying (Env.un_ok hu), hr, run_sizeOf' (E.ti_ok _ _ hy), hcl, add_off]
        split at h
        · rename_i h0
          subst h0
          cases h
          refine ⟨_, hrun, ?_⟩
          have e : (if cap = 0 then (⟨i.c, off, none⟩ : Addr) else ⟨i.c, off + 0 * y.size, none⟩) = ⟨i.c, off, none⟩ := by split <;> simp
          rw [e]
          exact VR.mk_osl hi' hver (by omega) (by omega) (by simpa using hc3)
        · rename_i h0
          split at h
          · rename_i hlt
            cases h
            refine ⟨_, hrun, ?_⟩
            rw [if_neg (by omega)]
            refine VR.mk_osl hi' hver (by omega) (by omega) ?_
            rw [← hc3, Nat.add_assoc, ← Nat.add_mul]
            congr 2
            omega
          · rename_i hlt
            cases h
            have : hh - ll = 0 := by omega
            rw [this] at hrun
            exact ⟨_, hrun, _, _, rfl, by omega, fun hne => absurd rfl hne⟩
      · cases h
    · cases h
  · cases h

theorem alen_sound (hH : HR E K H w) {t ty : TypeId} {x v : AV} {xv : Value} (hx : VR K x xv) (h : alen E H t x = some v) : QOK E K w (Builtin.len_ #[t] ty #[xv]) v := by
  unfold alen at h
  split at h
  · rename_i s hu
    simp only [VR] at hx; subst hx; cases h
    exact ⟨_, by simp [Builtin.len_, run_underlying (Env.un_ok hu), goInt], rfl⟩
  · rename_i n el hu
    cases h
    exact ⟨_, by simp [Builtin.len_, run_underlying (Env.un_ok hu), goInt], rfl⟩
  · rename_i el hu
    simp only [VR] at hx; subst hx; cases h
    exact ⟨_, by simp [Builtin.len_, run_underlying (Env.un_ok hu), goInt], rfl⟩
  · rename_i el cs len hu
    simp only [VR] at hx
    obtain ⟨a, c, rfl, _⟩ := hx
    cases h
    exact ⟨_, by simp [Builtin.len_, run_underlying (Env.un_ok hu), goInt], rfl⟩
  · rename_i el b ver off len sz hu
    split at h
    · rename_i hl
      cases h
      obtain ⟨i, arr, e', cs'', hb', hi', hver, _⟩ := live_spec hH hl
      obtain ⟨cap, rfl, _⟩ := hx.osl_eq hi' hver
      exact ⟨_, by simp [Builtin.len_, run_underlying (Env.un_ok hu), goInt], rfl⟩
    · cases h
  · cases h

theorem apure_sound {s : Sem Value} {v : AV} (h : apure E s = some v) : QOK E K w s v := by
  unfold apure at h
  split at h
  · rename_i u hu
    exact ⟨u, prun_run hu w, ofV_sound h⟩
  · cases h

theorem eqGuard_int {op : BinOp} {t : TypeId} {xo yo : Operand} {k k' : IntKind} {a b : Int} : (eqGuard op t xo yo (.int k a) (.int k' b)).run E.P w = .ok () w := by
  unfold eqGuard
  cases op <;> simp

theorem aint_sound {op : BinOp} {t : TypeId} {k k' : IntKind} {a b : Int} {v : AV} (h : aint E op t k k' a b = some v) : QOK E K w (binOp op t (.int k a) (.int k' b)) v := by
  have eqk : ∀ {x : AV} {y : Value}, (if k = k' then some x else none) = some v → (k = k' → (binOp op t (.int k a) (.int k' b)).run E.P w = .ok y w) → VR K x y → QOK E K w (binOp op t (.int k a) (.int k' b)) v := by
    intro x y h1 h2 h3
    split at h1
    · rename_i hk
      cases h1
      exact ⟨y, h2 hk, h3⟩
    · cases h1
  cases op <;> simp only [aint] at h
  case add => exact eqk h (fun hk => by subst hk; simp [binOp, Op.intArith]) rfl
  case sub => exact eqk h (fun hk => by subst hk; simp [binOp, Op.intArith]) rfl
  case mul => exact eqk h (fun hk => by subst hk; simp [binOp, Op.intArith]) rfl
  case eql => exact eqk h (fun hk => by subst hk; simp [binOp, Op.intCmp]) rfl
  case neq => exact eqk h (fun hk => by subst hk; simp [binOp, Op.intCmp]) rfl
  case lss => exact eqk h (fun hk => by subst hk; simp [binOp, Op.intCmp]) rfl
  case leq => exact eqk h (fun hk => by subst hk; simp [binOp, Op.intCmp]) rfl
  case gtr => exact eqk h (fun hk => by subst hk; simp [binOp, Op.intCmp]) rfl
  case geq => exact eqk h (fun hk => by subst hk; simp [binOp, Op.intCmp]) rfl
  case quo =>
    split at h
    · rename_i hc
      obtain ⟨rfl, hb⟩ := hc
      cases h
      exact ⟨_, by simp only [binOp, Op.intDiv, ne_eq, not_true_eq_false, if_false, if_neg hb]; rfl, rfl⟩
    · cases h
  case rem =>
    split at h
    · rename_i hc
      obtain ⟨rfl, hb⟩ := hc
      cases h
      exact ⟨_, by simp only [binOp, Op.intDiv, ne_eq, not_true_eq_false, if_false, if_neg hb]; rfl, rfl⟩
    · cases h
  case shl =>
    split at h
    · rename_i hc
      cases h
      exact ⟨_, by simp only [binOp, Op.shift, if_neg (show ¬ b < 0 by omega)]; rfl, rfl⟩
    · cases h
  case shr =>
    split at h
    · rename_i hc
      cases h
      exact ⟨_, by simp only [binOp, Op.shift, if_neg (show ¬ b < 0 by omega)]; rfl, rfl⟩
    · cases h
  all_goals exact apure_sound h

theorem abin_sound {op : BinOp} {t : TypeId} {xo yo : Operand} {x y v : AV} {xv yv : Value} (hx : VR K x xv) (hy : VR K y yv) (h : abin E op t xo yo x y = some v) :
    QOK E K w (do eqGuard op t xo yo xv yv; binOp op t xv yv) v := by
  unfold abin at h
  split at h
  · rename_i k a k' b
    simp only [VR] at hx hy
    subst hx hy
    obtain ⟨cv, h1, h2⟩ := aint_sound (K := K) (w := w) h
    exact ⟨cv, by simp [eqGuard_int, h1], h2⟩
  · split at h
    · rename_i u u' h1 h2
      have e1 := toV_sound _ _ _ h1 hx
      have e2 := toV_sound _ _ _ h2 hy
      subst e1 e2
      exact apure_sound h
    · cases h

theorem isNil_sound (hH : HR E K H w) {t : TypeId} {x y : AV} {xv yv : Value} (hx : VR K x xv) (hy : VR K y yv) (h : isNil E H t x y = true) :
    (Op.equal t xv yv).run E.P w = .ok false w ∧ ((∃ a n c, xv = .slice a n c) ∨ (∃ a, xv = .pointer a) ∨ (∃ f a b, xv = .func f a b)) ∧ (yv = .slice none 0 0 ∨ yv = .pointer none ∨ yv = .nilFunc) := by
  have red : (∀ n, (Op.equalIn (n + 1) t xv yv).run E.P w = .ok false w) → (Op.equal t xv yv).run E.P w = .ok false w := fun hn => hn 9999
  unfold isNil at h
  split at h
  · rename_i el b ver off len sz hu
    obtain ⟨i, arr, e', cs'', hb', hi', hver, _⟩ := live_spec hH h
    obtain ⟨cap, rfl, _⟩ := hx.osl_eq hi' hver
    simp only [VR] at hy
    subst hy
    exact ⟨red (fun n => by simp [Op.equalIn, run_underlying (Env.un_ok hu)]), .inl ⟨_, _, _, rfl⟩, .inl rfl⟩
  · rename_i el c cs len hu
    simp only [VR] at hx hy
    obtain ⟨a, cc, rfl, _, hcr⟩ := hx
    obtain ⟨b, o, rfl, _⟩ := hcr (by simp)
    subst hy
    exact ⟨red (fun n => by simp [Op.equalIn, run_underlying (Env.un_ok hu)]), .inl ⟨_, _, _, rfl⟩, .inl rfl⟩
  · rename_i el b ver off hu
    obtain ⟨i, arr, e', cs'', hb', hi', hver, _⟩ := live_spec hH h
    have := hx.ptr_eq hi' hver
    subst this
    simp only [VR] at hy
    subst hy
    exact ⟨red (fun n => by simp [Op.equalIn, run_underlying (Env.un_ok hu)]), .inr (.inl ⟨_, rfl⟩), .inr (.inl rfl)⟩
  · rename_i el cs hu
    simp only [VR] at hx hy
    obtain ⟨b, o, rfl, _⟩ := hx
    subst hy
    exact ⟨red (fun n => by simp [Op.equalIn, run_underlying (Env.un_ok hu)]), .inr (.inl ⟨_, rfl⟩), .inr (.inl rfl)⟩
  · rename_i p q s f a b hu
    simp only [VR] at hx hy
    obtain ⟨_, fs, cs, rfl, _⟩ := hx
    subst hy
    exact ⟨red (fun n => by simp [Op.equalIn, run_underlying (Env.un_ok hu)]), .inr (.inr ⟨_, _, _, rfl⟩), .inr (.inr rfl)⟩
  · cases h

theorem anil_sound (hH : HR E K H w) {op : BinOp} {t : TypeId} {xo yo : Operand} {x y v : AV} {xv yv : Value} (hx : VR K x xv) (hy : VR K y yv) (h : anil E H op t x y = some v) :
    QOK E K w (do eqGuard op t xo yo xv yv; binOp op t xv yv) v := by
  unfold anil at h
  split at h
  · split at h
    · rename_i hn
      cases h
      obtain ⟨h1, h2, h3⟩ := isNil_sound hH hx hy hn
      refine ⟨.bool false, ?_, rfl⟩
      rcases h2 with ⟨_, _, _, rfl⟩ | ⟨_, rfl⟩ | ⟨_, _, _, rfl⟩ <;> rcases h3 with rfl | rfl | rfl <;> simp [eqGuard, binOp, h1]
    · cases h
  · split at h
    · rename_i hn
      cases h
      obtain ⟨h1, h2, h3⟩ := isNil_sound hH hx hy hn
      refine ⟨.bool true, ?_, rfl⟩
      rcases h2 with ⟨_, _, _, rfl⟩ | ⟨_, rfl⟩ | ⟨_, _, _, rfl⟩ <;> rcases h3 with rfl | rfl | rfl <;> simp [eqGuard, binOp, h1]
    · cases h
  · cases h

theorem aconv_sound {src dst : TypeId} {x v : AV} {xv : Value} (hs : ∃ d, E.P.underlying src = some d) (hx : VR K x xv) (h : aconv E src dst x = some v) : QOK E K w (convert src dst xv) v := by
  unfold aconv at h
  split at h
  · rename_i k k' n hu
    simp only [VR] at hx
    subst hx
    cases h
    obtain ⟨d, hd⟩ := hs
    exact ⟨.int k (k.wrap n), by simp [convert, run_underlying (Env.un_ok hu), run_underlying hd, Conv.intToInt], rfl⟩
  · split at h
    · rename_i u h1
      have e1 := toV_sound _ _ _ h1 hx
      subst e1
      exact apure_sound h
    · cases h

theorem run_zero {P : Program} {t : TypeId} {x : TI} (h : tinfo P t = some x) (w : World) : ∃ z, (zeroValue t).run P w = .ok z w ∧ ofCells z.cells.toList = some x.zero ∧ z.cells.size = x.size := by
  obtain ⟨i, z, h1, h2, h3, h4, h5, h6, h7, h8⟩ := tinfo_spec h
  exact ⟨z, by simp [zeroValue, typeInfo, h1, h3], h4, by rw [h7, h5]⟩

end

end Go.Proofs.Ytoijfbdjlagooaa

/- Operations over abstract values, part 4: those that write or make memory. -/
namespace Go.Proofs.Ytoijfbdjlagooaa
open Go Go.RowKit
set_option linter.unusedVariables false
set_option linter.unusedSimpArgs false

/-- The operation comes to this value and this heap. -/
def SOK (E : Env) (K : Conc) (w : World) (s : Sem Value) (v : AV) (H' : Heap) : Prop := ∃ K' cv w', Ext K K' ∧ s.run E.P w = .ok cv w' ∧ HR E K' H' w' ∧ VR K' v cv

section
variable {E : Env} {K : Conc} {H : Heap} {w : World} {N : Nat} {fr : Fr} {a : Act}

theorem QOK.sok {s : Sem Value} {v : AV} (hH : HR E K H w) (h : QOK E K w s v) : SOK E K w s v H := by
  obtain ⟨cv, h1, h2⟩ := h
  exact ⟨K, cv, w, Ext.refl K, h1, hH, h2⟩

theorem cells_spec {v : AV} {vs : List AV} {u : Value} (hv : v.cells = some vs) (hr : VR K v u) : VRL K vs u.cells.toList ∧ vs.all AV.one = true ∧ (∀ c ∈ u.cells.toList, c.oneCell' = true) := by
  have single : v.one = true → vs = [v] → u.cells = #[u] → _ := fun h1 h2 h3 => (show VRL K vs u.cells.toList ∧ vs.all AV.one = true ∧ (∀ c ∈ u.cells.toList, c.oneCell' = true) from by
    subst h2
    rw [h3]
    exact ⟨⟨u, [], rfl, hr, rfl⟩, by simp [h1], by simpa using hr.one h1⟩)
  cases v <;> simp only [AV.cells] at hv <;> first
    | (cases hv; done)
    | skip
  case agg cs =>
    cases hv
    simp only [VR] at hr
    obtain ⟨ho, us, rfl, hc⟩ := hr
    exact ⟨by simpa [Value.cells] using hc, ho, by simpa [Value.cells] using VRL.one ho hc⟩
  all_goals
    cases hv
    refine single rfl rfl ?_
    have h1 := hr.one rfl
    cases u <;> first | rfl | (simp [Value.oneCell'] at h1)

theorem HR.push_cells (hH : HR E K H w) {e : TypeId} {cs : List AV} {us : List Value} {arr : Array Value} (hone : cs.all AV.one = true) (hr : VRL K cs us) (hp : arr.toList.take cs.length = us) (hl : cs.length ≤ arr.size) :
    Ext K (K.push ⟨w.heap.size, arr.size, 0⟩) ∧ HR E (K.push ⟨w.heap.size, arr.size, 0⟩) (H ++ [.cells 0 e cs]) (w.alloc (.cells arr e)) ∧ (K.push ⟨w.heap.size, arr.size, 0⟩).blk[H.length]? = some ⟨w.heap.size, arr.size, 0⟩ := by
  have hx := Conc.ext_push K ⟨w.heap.size, arr.size, 0⟩
  refine ⟨hx, hH.push (Nat.le_refl _) (World.grownBy_alloc w _ none) ⟨rfl, arr, heap_alloc_new w _, rfl, hone, hl, ?_⟩, ?_⟩
  · rw [hp]
    exact VRL.ext hx _ _ hr
  · rw [← hH.len]
    simp [Conc.push]

theorem abox_sound (hH : HR E K H w) {t : TypeId} {v : AV} {u : Value} {r : AV × Heap} (hv : VR K v u) (h : abox E H t v = some r) : SOK E K w (Instr.box t u) r.1 r.2 := by
  unfold abox at h
  obtain ⟨vs, h1, h2⟩ := Option.map_eq_some_iff.1 h
  subst h2
  obtain ⟨c1, c2, c3⟩ := cells_spec h1 hv
  have hl := c1.length
  obtain ⟨e1, e2, e3⟩ := hH.push_cells (e := t) (arr := u.cells) c2 c1 (by rw [hl]; exact List.take_length) (by simp at hl; omega)
  exact ⟨_, _, _, e1, by simp [Instr.box, newVar, newRow], e2, VR.mk_ptr e3 rfl⟩

theorem aalloc_sound (hH : HR E K H w) {t : TypeId} {r : AV × Heap} (h : aalloc E H t = some r) : SOK E K w (Instr.alloc t true (.tuple #[])) r.1 r.2 := by
  unfold aalloc at h
  obtain ⟨x, h1, h2⟩ := Option.map_eq_some_iff.1 h
  subst h2
  obtain ⟨z, z1, z2, z3⟩ := run_zero (E.ti_ok _ _ h1) w
  obtain ⟨c1, c2⟩ := ofCells_sound (K := K) _ _ z2
  have hl := c1.length
  obtain ⟨e1, e2, e3⟩ := hH.push_cells (e := t) (arr := z.cells) c2 c1 (by rw [hl]; exact List.take_length) (by simp at hl; omega)
  exact ⟨_, _, _, e1, by simp [Instr.alloc, z1, newVar, newRow], e2, VR.mk_ptr e3 rfl⟩

theorem splice_length {cs vs : List AV} {o : Nat} (h : o + vs.length ≤ cs.length) : (splice cs o vs).length = cs.length := by
  simp [splice]; omega

theorem VRL.splice {cs vs : List AV} {us xs : List Value} {o : Nat} (h : VRL K cs us) (h' : VRL K vs xs) : VRL K (splice cs o vs) (us.take o ++ xs ++ us.drop (o + xs.length)) := by
  unfold Ytoijfbdjlagooaa.splice
  have := h'.length
  rw [this]
  exact ((h.take o).append h').append (h.drop _)

theorem all_splice {cs vs : List AV} {o : Nat} (h : cs.all AV.one = true) (h' : vs.all AV.one = true) : (splice cs o vs).all AV.one = true := by
  rw [List.all_eq_true] at h h' ⊢
  intro x hx
  unfold splice at hx
  rcases List.mem_append.1 hx with hx | hx
  · rcases List.mem_append.1 hx with hx | hx
    · exact h x (List.mem_of_mem_take hx)
    · exact h' x hx
  · exact h x (List.mem_of_mem_drop hx)

theorem grownBy_setRow (w : World) (g : Nat) (c : Array Value) : w.grownBy (w.setRow g c) (some g) := by
  refine ⟨rfl, rfl, rfl, by simp [World.setRow], fun k hk hne => ?_⟩
  have : g ≠ k := fun h => hne (by rw [h])
  simp [World.setRow, Array.getElem?_modify, this]

theorem astore_sound (hH : HR E K H w) {t : TypeId} {p v : AV} {pv u : Value} {H' : Heap} (hp : VR K p pv) (hv : VR K v u) (h : astore E H t p v = some H') :
    ∃ K' w', Ext K K' ∧ (Instr.storeAt t pv u).run E.P w = .ok () w' ∧ HR E K' H' w' := by
  unfold astore at h
  split at h
  · rename_i x b ver off vs hx hvs
    split at h
    · rename_i v' e cs hb
      split at h
      · rename_i hc
        obtain ⟨rfl, hsz, hfit⟩ := hc
        cases h
        obtain ⟨i, arr, e', cs', hb', hi, hver, harr, hroom, hone, hlen, hvr⟩ := live_spec hH (live_of hb)
        rw [hb] at hb'
        cases hb'
        have := hp.ptr_eq hi hver
        subst this
        obtain ⟨c1, c2, c3⟩ := cells_spec hvs hv
        have hl := c1.length
        have hrun := run_storeCells_at E.P i.c off e u.cells.toList 0 arr w harr (by simp at hl ⊢; omega) c3
        simp only [Nat.add_zero] at hrun
        have hus : u.cells.size = x.size := by simp at hl; omega
        have hrun' : (Instr.storeAt t (.pointer (some ⟨i.c, off, none⟩)) u).run E.P w = .ok () (w.setRow i.c (arr.toList.take off ++ u.cells.toList ++ arr.toList.drop (off + u.cells.toList.length)).toArray) := by
          simp only [Instr.storeAt, Instr.sureAddr, storeVar, Sem.run_bind, Sem.run_pure, Result.andThen_ok, run_sizeOf' (E.ti_ok _ _ hx), hus, ne_eq, not_true_eq_false, if_false, hrun]
        have hor : OR (K.upd b i) (.cells v' e (splice cs off vs)) i (w.setRow i.c (arr.toList.take off ++ u.cells.toList ++ arr.toList.drop (off + u.cells.toList.length)).toArray) := ?_
        · exact ⟨K.upd b i, _, Conc.ext_upd hi (Nat.le_refl _) (fun _ => rfl), hrun', hH.upd hb rfl hi (Nat.le_refl _) (fun _ => rfl) (.inl rfl) (grownBy_setRow w i.c _) hor⟩
        · have hx' := Conc.ext_upd (K := K) hi (Nat.le_refl _) (fun _ => rfl)
          refine ⟨hver, _, setRow_heap w i.c _ _ _ _ harr, ?_, all_splice hone c2, ?_, ?_⟩
          · simp at hl
            simp
            omega
          · rw [splice_length hfit]
            simp at hl
            simp
            omega
          · rw [splice_length hfit]
            have h6 := VRL.splice (o := off) hvr c1
            have e6 : List.take cs.length (arr.toList.take off ++ u.cells.toList ++ arr.toList.drop (off + u.cells.toList.length)) = (arr.toList.take cs.length).take off ++ u.cells.toList ++ (arr.toList.take cs.length).drop (off + u.cells.toList.length) := by
              have l1 : (arr.toList.take off).length = off := by simp; omega
              simp at hl
              rw [List.append_assoc, List.take_append, l1, List.take_of_length_le (by rw [l1]; omega), List.take_append, List.take_of_length_le (l := u.cells.toList) (by simp; omega), List.take_take, Nat.min_eq_left (by omega), List.append_assoc]
              congr 2
              rw [List.drop_take]
              congr 1
              simp
              omega
            simp only [List.toList_toArray] at *
            rw [e6]
            exact VRL.ext hx' _ _ h6
      · cases h
    · cases h
  · cases h

/-! ### Literals -/
theorem foldl_set (off : Nat) : ∀ (vs : List Value) (n : Nat) (cs : Array Value), off + n + vs.length ≤ cs.size →
    ((vs.zipIdx n).foldl (fun cs (p : Value × Nat) => cs.setIfInBounds (off + p.2) p.1) cs) = (cs.toList.take (off + n) ++ vs ++ cs.toList.drop (off + n + vs.length)).toArray
  | [], n, cs, _ => by simp
  | v :: vs, n, cs, h => by
    simp only [List.zipIdx_cons, List.foldl_cons]
    simp only [List.length_cons] at h
    rw [foldl_set off vs (n + 1) _ (by simp; omega)]
    congr 1
    have hlt : off + n < cs.toList.length := by rw [Array.length_toList]; omega
    simp only [Array.toList_setIfInBounds, List.length_cons]
    rw [show off + (n + 1) = (off + n) + 1 by omega, List.take_succ_eq_append_getElem (by simpa using hlt)]
    simp only [List.getElem_set_self, List.append_assoc, List.singleton_append, List.cons_append]
    rw [List.take_set_of_le (Nat.le_refl _), List.drop_set_of_lt (by omega)]
    have : off + n + 1 + vs.length = off + n + (vs.length + 1) := by omega
    rw [this, List.nil_append]

theorem afill_sound {place : Nat → Option (Nat × Nat)} : ∀ {parts : List (Nat × AV)} {cs cs' : List AV} {us : Array Value} {ps : List (Nat × Value)},
    cs.all AV.one = true → VRL K cs us.toList → parts.map (·.1) = ps.map (·.1) → VRL K (parts.map (·.2)) (ps.map (·.2)) → afill place cs parts = some cs' →
    ∃ us', Instr.fill place us ps = some us' ∧ VRL K cs' us'.toList ∧ cs'.all AV.one = true ∧ cs'.length = cs.length
  | [], cs, cs', us, ps, ho, hr, he, hp, h => by
    simp only [afill] at h
    cases h
    have : ps = [] := by simpa using he.symm
    subst this
    exact ⟨us, rfl, hr, ho, rfl⟩
  | (i, v) :: rest, cs, cs', us, ps, ho, hr, he, hp, h => by
    cases ps with
    | nil => simp at he
    | cons q ps =>
      obtain ⟨j, u⟩ := q
      simp only [List.map_cons, List.cons.injEq] at he
      obtain ⟨rfl, he⟩ := he
      simp only [List.map_cons, VRL] at hp
      obtain ⟨u', us', e, hv, hp⟩ := hp
      obtain ⟨rfl, rfl⟩ := List.cons.inj e
      simp only [afill] at h
      split at h
      · rename_i off size vs hpl hvs
        split at h
        · rename_i hc
          obtain ⟨hsz, hfit⟩ := hc
          obtain ⟨c1, c2, c3⟩ := cells_spec hvs hv
          have hl := c1.length
          have hl2 := hr.length
          simp at hl hl2
          have hfold := foldl_set off u.cells.toList 0 us (by simp; omega)
          simp only [Nat.add_zero] at hfold
          have hr' := VRL.splice (o := off) hr c1
          obtain ⟨us'', h1, h2, h3, h4⟩ := afill_sound (us := (us.toList.take off ++ u.cells.toList ++ us.toList.drop (off + u.cells.toList.length)).toArray) (all_splice ho c2) (by simpa using hr') he hp h
          refine ⟨us'', ?_, h2, h3, by rw [h4, splice_length hfit]⟩
          simp only [Instr.fill, hpl]
          have hcond : ¬ ((decide (u.cells.size ≠ size) || decide (off + u.cells.size > us.size)) = true) := by
            simp
            omega
          rw [if_neg hcond]
          have hz : (u.cells.zipIdx.foldl (fun cs (p : Value × Nat) => cs.setIfInBounds (off + p.2) p.1) us) = (us.toList.take off ++ u.cells.toList ++ us.toList.drop (off + u.cells.toList.length)).toArray := by
            rw [← hfold, ← Array.foldl_toList, Array.toList_zipIdx]
          exact (congrArg (fun z => Instr.fill place z ps) hz).trans h1
        · cases h
      · cases h

theorem reps_zero (z : List AV) : reps 0 z = [] := rfl
theorem reps_succ (n : Nat) (z : List AV) : reps (n + 1) z = z ++ reps n z := by simp [reps, List.replicate_succ]
theorem reps_length (n : Nat) (z : List AV) : (reps n z).length = n * z.length := by simp [reps]
theorem reps_all {n : Nat} {z : List AV} (h : z.all AV.one = true) : (reps n z).all AV.one = true := by
  rw [List.all_eq_true] at h ⊢
  intro x hx
  simp only [reps, List.mem_flatten, List.mem_replicate] at hx
  obtain ⟨l, ⟨_, rfl⟩, hx⟩ := hx
  exact h x hx
theorem VRL.reps {z : List AV} {zv : List Value} (h : VRL K z zv) : ∀ n, VRL K (reps n z) (List.replicate n zv).flatten
  | 0 => rfl
  | n + 1 => by
    rw [reps_succ, List.replicate_succ, List.flatten_cons]
    exact h.append (VRL.reps h n)

theorem toList_made (z : Array Value) : ∀ n, ((Array.range (n * z.size)).map (z[· % z.size]!)).toList = (List.replicate n z.toList).flatten
  | 0 => by simp
  | n + 1 => by
    have ih := toList_made z n
    rw [List.replicate_succ', List.flatten_append, ← ih]
    simp only [Array.toList_map, Array.toList_range, Nat.add_mul, Nat.one_mul, List.range_add, List.map_append, List.flatten_cons, List.flatten_nil, List.append_nil, List.map_map]
    congr 1
    apply List.ext_getElem?
    intro j
    by_cases hj : j < z.size
    · simp [hj, Nat.mul_add_mod_of_lt, Nat.mul_comm n, Nat.mul_add_mod, Nat.mod_eq_of_lt hj]
    · simp [hj]

theorem run_buildSlice (w : World) {t elem : TypeId} {x : TI} {len : Nat} {ps : Array (Nat × Value)} {us : Array Value} (hu : E.P.underlying t = some (.slice elem)) (hx : tinfo E.P elem = some x) (hs : len * x.size ≤ 16777216)
    {z : Value} (hz : (zeroValue elem).run E.P w = .ok z w) (hzs : z.cells.size = x.size)
    (hf : Instr.fill (fun i => some (i * x.size, x.size)) (List.replicate len z.cells.toList).flatten.toArray ps.toList = some us) :
    (Instr.buildSlice t len ps).run E.P w = .ok (.slice (some ⟨w.heap.size, 0, none⟩) len len) (w.alloc (.cells us elem)) := by
  have hmade := toList_made z.cells len
  rw [hzs] at hmade
  have hns : ¬ len * x.size > 2 ^ 24 := by omega
  by_cases h0 : len * x.size = 0
  · have e0 : (List.replicate len z.cells.toList).flatten.toArray = ((Array.range (len * x.size)).map ((#[] : Array Value)[· % (#[] : Array Value).size]!)) := by
      rw [← hmade, h0]
      simp
    rw [e0] at hf
    rw [h0] at hf
    have er : ∀ f : Nat → Value, (Array.range 0).map f = #[] := fun f => by simp [Array.range_zero']
    rw [er] at hf
    simp [Instr.buildSlice, run_underlying hu, run_sizeOf' hx, hns, h0, er, hf, newRow]
  · have e0 : (List.replicate len z.cells.toList).flatten.toArray = ((Array.range (len * x.size)).map (z.cells[· % z.cells.size]!)) := by
      rw [← hmade, hzs]
    rw [e0] at hf
    simp [Instr.buildSlice, run_underlying hu, run_sizeOf' hx, hns, h0, hz, hf, newRow]

theorem fplaces_spec {P : Program} {t : TypeId} {fields : Array Field} {pl : Array (Nat × Nat)} (hu : P.underlying t = some (.struct fields)) (h : fplaces P t = some pl) (w : World) :
    Sem.run P (fields.mapM fun f => do pure (f.offset, ← sizeOf f.type)) w = .ok pl w := by
  unfold fplaces at h
  rw [hu] at h
  exact prun_run h w

theorem abuild_sound (hH : HR E K H w) {t : TypeId} {parts : List (Nat × AV)} {ps : Array (Nat × Value)} {v : AV} (he : parts.map (·.1) = ps.toList.map (·.1)) (hp : VRL K (parts.map (·.2)) (ps.toList.map (·.2)))
    (h : abuild E t parts = some v) : QOK E K w (Instr.build t ps) v := by
  unfold abuild at h
  split at h
  · rename_i x hx
    obtain ⟨i, z, h1, hu, h3, h4, h5, h6, h7, _⟩ := tinfo_spec (E.ti_ok _ _ hx)
    obtain ⟨z', z1, z2, z3⟩ := run_zero (E.ti_ok _ _ hx) w
    obtain ⟨c1, c2⟩ := ofCells_sound (K := K) _ _ z2
    split at h
    · rename_i fields hd
      have hun : E.un t = some (.struct fields) := by simp [Env.un, hx, hd]
      split at h
      · rename_i pl hpl
        obtain ⟨cs, h8, h9⟩ := Option.map_eq_some_iff.1 h
        subst h9
        obtain ⟨us, g1, g2, g3, g4⟩ := afill_sound (us := z'.cells) c2 c1 he hp h8
        have hrun := fplaces_spec (Env.un_ok hun) (E.pl_ok _ _ hpl) w
        exact ⟨.agg us, by simp only [Instr.build, Sem.run_bind, z1, Result.andThen_ok, run_underlying (Env.un_ok hun), hrun, g1]; rfl, g3, us, rfl, g2⟩
      · cases h
    · rename_i n elem hd
      have hun : E.un t = some (.array n elem) := by simp [Env.un, hx, hd]
      split at h
      · rename_i y hy
        obtain ⟨cs, h8, h9⟩ := Option.map_eq_some_iff.1 h
        subst h9
        obtain ⟨us, g1, g2, g3, g4⟩ := afill_sound (us := z'.cells) c2 c1 he hp h8
        exact ⟨.agg us, by simp [Instr.build, z1, run_underlying (Env.un_ok hun), run_sizeOf' (E.ti_ok _ _ hy), g1], g3, us, rfl, g2⟩
      · cases h
    · cases h
  · cases h

theorem len_le_max {n : Nat} (h : n ≤ 281474976710656) : n ≤ maxLen := by simp only [maxLen]; omega

theorem abuildSlice_sound (hH : HR E K H w) {t : TypeId} {len : Nat} {parts : List (Nat × AV)} {ps : Array (Nat × Value)} {r : AV × Heap} (he : parts.map (·.1) = ps.toList.map (·.1)) (hp : VRL K (parts.map (·.2)) (ps.toList.map (·.2)))
    (h : abuildSlice E H t len parts = some r) : SOK E K w (Instr.buildSlice t len ps) r.1 r.2 := by
  unfold abuildSlice at h
  split at h
  · rename_i elem hu
    split at h
    · rename_i x hx
      split at h
      · rename_i hs
        obtain ⟨hs, hm⟩ := hs
        obtain ⟨z', z1, z2, z3⟩ := run_zero (E.ti_ok _ _ hx) w
        obtain ⟨c1, c2⟩ := ofCells_sound (K := K) _ _ z2
        obtain ⟨cs, h8, h9⟩ := Option.map_eq_some_iff.1 h
        subst h9
        obtain ⟨us, g1, g2, g3, g4⟩ := afill_sound (us := (List.replicate len z'.cells.toList).flatten.toArray) (reps_all c2) (by simpa using c1.reps len) he hp h8
        have hrun := run_buildSlice w (Env.un_ok hu) (E.ti_ok _ _ hx) hs z1 z3 g1
        have hl := g2.length
        have hl0 := c1.length
        have hl1 : cs.length = len * x.size := by
          rw [g4, reps_length, hl0]
          simp [z3]
        obtain ⟨e1, e2, e3⟩ := hH.push_cells (e := elem) (arr := us) g3 g2 (by rw [hl]; exact List.take_length) (by simp at hl; omega)
        refine ⟨_, _, _, e1, hrun, e2, VR.mk_osl e3 rfl (Nat.le_refl _) (len_le_max (by omega)) ?_⟩
        simp at hl
        simp
        omega
      · cases h
    · cases h
  · cases h

theorem amakeSlice_sound (hH : HR E K H w) {t : TypeId} {l c : AV} {lv cv : Value} {r : AV × Heap} (hl : VR K l lv) (hc : VR K c cv) (h : amakeSlice E H t l c = some r) : SOK E K w (Instr.makeSlice t lv cv) r.1 r.2 := by
  unfold amakeSlice at h
  split at h
  · rename_i elem k n k' m hu
    simp only [VR] at hl hc
    subst hl hc
    split at h
    · rename_i y hy
      split at h
      · rename_i hb
        obtain ⟨h0, h1, h2, h3⟩ := hb
        cases h
        obtain ⟨i, z, i1, i2, i3, i4, i5, i6, i7, _⟩ := tinfo_spec (E.ti_ok _ _ hy)
        have hrun := run_make (P := E.P) w t elem i z (Env.un_ok hu) i1 i3 k k' n m h0 h1 (by rw [i6]; have : (m.toNat : Int) = m := Int.toNat_of_nonneg (by omega); rw [← this, ← Int.natCast_mul]; omega) (by omega)
        obtain ⟨c1, c2⟩ := ofCells_sound (K := K) _ _ i4
        have hmade : (madeCells z.cells (m.toNat * i.size)).toList = (List.replicate m.toNat z.cells.toList).flatten := by
          have := toList_made z.cells m.toNat
          rw [i7] at this
          rw [← this]
          simp [madeCells, i7]
        have hzl : z.cells.toList.length = y.size := by simp [i7, i5]
        have hsplit : (List.replicate m.toNat z.cells.toList).flatten = (List.replicate n.toNat z.cells.toList).flatten ++ (List.replicate (m.toNat - n.toNat) z.cells.toList).flatten := by
          rw [← List.flatten_append, List.replicate_append_replicate, show n.toNat + (m.toNat - n.toNat) = m.toNat by omega]
        have hrl : (reps n.toNat y.zero).length = n.toNat * y.size := by rw [reps_length, c1.length, hzl]
        have hfl : (List.replicate n.toNat z.cells.toList).flatten.length = n.toNat * y.size := by simp [i7, i5]
        have hsz : (madeCells z.cells (m.toNat * i.size)).size = m.toNat * y.size := by simp [madeCells, i5]
        have hmul : n.toNat * y.size ≤ m.toNat * y.size := Nat.mul_le_mul_right _ (by omega)
        obtain ⟨e1, e2, e3⟩ := hH.push_cells (e := elem) (arr := madeCells z.cells (m.toNat * i.size)) (us := (List.replicate n.toNat z.cells.toList).flatten) (reps_all c2) (c1.reps _)
          (by rw [hmade, hsplit, hrl, ← hfl, List.take_left]) (by rw [hrl, hsz]; exact hmul)
        refine ⟨_, _, _, e1, hrun, e2, VR.mk_osl e3 rfl (by omega) (len_le_max (by omega)) ?_⟩
        simp [hsz]
      · cases h
    · cases h
  · cases h

end

end Go.Proofs.Ytoijfbdjlagooaa

/- Operations over abstract values, part 5: append; and all operations together. -/
namespace Go.Proofs.Ytoijfbdjlagooaa
open Go Go.RowKit
set_option linter.unusedVariables false
set_option linter.unusedSimpArgs false

section
variable {E : Env} {K : Conc} {H : Heap} {w : World} {N : Nat} {fr : Fr} {a : Act}

/-- What a slice leads to, in the machine's world. -/
theorem sliceCells_spec (hH : HR E K H w) {x : AV} {xv : Value} {cs : List AV} {m : Nat} (hx : VR K x xv) (h : sliceCells H x = some (cs, m)) :
    ∃ a c us, xv = .slice a m c ∧ VRL K cs us ∧ cs.all AV.one = true ∧ (us ≠ [] → ∃ b o, a = some ⟨b, o, none⟩ ∧ ∀ j u, us[j]? = some u → w.cell? ⟨b, o + j, none⟩ = some u) := by
  unfold sliceCells at h
  split at h
  · cases h
    simp only [VR] at hx
    subst hx
    exact ⟨none, 0, [], rfl, rfl, rfl, fun hne => absurd rfl hne⟩
  · rename_i cs' len
    cases h
    simp only [VR] at hx
    obtain ⟨a, c, rfl, _, hcr⟩ := hx
    cases cs with
    | nil => exact ⟨a, c, [], rfl, rfl, rfl, fun hne => absurd rfl hne⟩
    | cons d ds =>
      obtain ⟨b, o, rfl, hc⟩ := hcr (by simp)
      obtain ⟨us, h1, h2, h3⟩ := hc.values
      exact ⟨_, c, us, rfl, h1, h3, fun _ => ⟨b, o, rfl, fun j u hu => hH.imm _ _ _ (h2 j u hu)⟩⟩
  · rename_i b ver off len sz
    split at h
    · rename_i v e cs' hb
      split at h
      · rename_i hv
        subst hv
        cases h
        obtain ⟨i, arr, e', cs'', hb', hi, hver, harr, hroom, hone, hlen, hvr⟩ := live_spec hH (live_of hb)
        rw [hb] at hb'
        cases hb'
        obtain ⟨cap, rfl, _⟩ := hx.osl_eq hi hver
        refine ⟨_, cap, ((arr.toList.take cs'.length).drop off).take (m * sz), rfl, (hvr.drop off).take _, ?_, fun _ => ⟨i.c, off, rfl, fun j u hu => ?_⟩⟩
        · rw [List.all_eq_true] at hone ⊢
          exact fun y hy => hone y (List.mem_of_mem_drop (List.mem_of_mem_take hy))
        · rw [List.getElem?_take] at hu
          split at hu
          · rw [List.getElem?_drop, List.getElem?_take] at hu
            split at hu
            · simp [World.cell?, harr]
              simpa using hu
            · cases hu
          · cases hu
      · cases h
    · cases h
  · cases h

theorem VRL_u8 {K : Conc} : ∀ {cs : List AV} {us : List Value}, VRL K cs us → cs.all isU8 = true → us = (cs.map numOf).map (Value.int .u8)
  | [], us, h, _ => by simp only [VRL] at h; exact h
  | c :: cs, us, h, ha => by
    simp only [VRL] at h
    obtain ⟨u, us', rfl, h1, h2⟩ := h
    simp only [List.all_cons, Bool.and_eq_true] at ha
    rw [VRL_u8 h2 ha.2]
    unfold isU8 at ha
    split at ha
    · simp only [VR] at h1
      simp [h1, numOf]
    · cases ha.1

theorem abytes_sound (hH : HR E K H w) {src dst : TypeId} {x v : AV} {xv : Value} (hx : VR K x xv) (h : abytes E H src dst x = some v) : QOK E K w (convert src dst xv) v := by
  unfold abytes at h
  split at h
  · rename_i e hs hd
    split at h
    · rename_i cs m he hc
      split at h
      · rename_i hl
        cases h
        obtain ⟨a, c, us, rfl, hvr, hone, hcell⟩ := sliceCells_spec hH hx hc
        have hu := VRL_u8 hvr hl.2
        have hs := Env.un_ok hs
        have hd := Env.un_ok hd
        have he := Env.un_ok he
        cases cs with
        | nil =>
          have hm : m = 0 := by simpa using hl.1.symm
          subst hm
          cases a with
          | none => exact ⟨_, run_convert_bytes_nil w src e hs he 0 c dst hd, rfl⟩
          | some p =>
            refine ⟨.string ByteArray.empty, ?_, rfl⟩
            rw [run_convert_bytes_string w src dst e _ 0 c hs he hd]
            exact run_bytesToString w p 0 c [] (by simpa using run_loadCells_list (P := E.P) w p [] (by simp))
        | cons d ds =>
          obtain ⟨b, o, rfl, hcl⟩ := hcell (by rw [hu]; simp)
          refine ⟨_, run_convert_bytes_arg w src e hs he b o m c ((d :: ds).map numOf) (by simpa using hl.1) (fun i hi => hcl i _ ?_) dst hd, rfl⟩
          rw [hu, List.getElem?_map]
          have : i < ((d :: ds).map numOf).length := by rw [List.length_map]; omega
          rw [List.getElem?_eq_getElem this, List.getD_eq_getElem?_getD, List.getElem?_eq_getElem this]
          rfl
      · cases h
    · cases h
  · cases h

theorem append_types {P : Program} {t u e e' : TypeId} {ty : TypeId} {s x : Value} {w : World} {y : TI} (ht : P.underlying t = some (.slice e)) (hu : P.underlying u = some (.slice e')) (hy : tinfo P e = some y) :
    (Builtin.append_ #[t, u] ty #[s, x]).run P w = (Builtin.append_ #[t, t] ty #[s, x]).run P w := by
  cases s <;> simp [Builtin.append_, run_underlying ht, run_underlying hu, run_sizeOf' hy]

theorem run_append_zero {P : Program} {t e : TypeId} {ty : TypeId} {x : TI} (ht : P.underlying t = some (.slice e)) (hx : tinfo P e = some x) {base ax : Option Addr} {n cap c : Nat} (hn : n ≤ cap) (w : World) :
    (Builtin.append_ #[t, t] ty #[.slice base n cap, .slice ax 0 c]).run P w = .ok (.slice base n cap) w := by
  cases ax with
  | none => cases base <;> simp [Builtin.append_, run_underlying ht, run_sizeOf' hx, Builtin.lenOf, Builtin.firstCells, hn, storeCells]
  | some ad => cases base <;> simp [Builtin.append_, run_underlying ht, run_sizeOf' hx, Builtin.lenOf, Builtin.firstCells, hn, storeCells, loadCells, loadCellsFrom]

theorem OR.cells_mk {ver e : Nat} {cs : List AV} {i : BI} {arr : Array Value} (h1 : i.ver = ver) (h2 : w.heap[i.c]? = some (.cells arr e (0, 0))) (h3 : arr.size = i.room) (h4 : cs.all AV.one = true)
    {us : List Value} (h5 : VRL K cs us) (h6 : arr.toList.take us.length = us) : OR K (.cells ver e cs) i w := by
  have hl := h5.length
  refine ⟨h1, arr, h2, h3, h4, ?_, ?_⟩
  · have : (arr.toList.take us.length).length = us.length := congrArg List.length h6
    simp at this
    omega
  · rw [hl, h6]
    exact h5

theorem aappend_sound (hH : HR E K H w) {t u ty : TypeId} {s x : AV} {sv xv : Value} {r : AV × Heap} (hs : VR K s sv) (hx : VR K x xv) (h : aappend E H t u s x = some r) : SOK E K w (Builtin.append_ #[t, u] ty #[sv, xv]) r.1 r.2 := by
  unfold aappend at h
  split at h
  · rename_i elem elem' ht hu
    split at h
    · rename_i y news m hy hn
      unfold SOK
      rw [append_types (Env.un_ok ht) (Env.un_ok hu) (E.ti_ok _ _ hy)]
      split at h
      · rename_i hc
        obtain ⟨hnl, hsz⟩ := hc
        obtain ⟨i, z, i1, i2, i3, i4, i5, i6, i7, _⟩ := tinfo_spec (E.ti_ok _ _ hy)
        obtain ⟨ax, c, us, rfl, hvr, hone, hcell⟩ := sliceCells_spec hH hx hn
        have hul := hvr.length
        have husl : us.length = m * y.size := by omega
        have hone' := VRL.one hone hvr
        split at h
        · -- onto nil
          simp only [VR] at hs
          subst hs
          split at h
          · rename_i hm
            subst hm
            cases h
            exact ⟨K, _, w, Ext.refl K, run_append_zero (Env.un_ok ht) (E.ti_ok _ _ hy) (Nat.le_refl _) w, hH, rfl⟩
          · rename_i hm
            split at h
            · rename_i hb
              cases h
              have hne : us ≠ [] := by
                intro h0
                have h1 := Nat.mul_pos (show 0 < m by omega) hsz
                rw [h0, List.length_nil] at husl
                omega
              obtain ⟨b, o, rfl, hcells⟩ := hcell hne
              obtain ⟨v', w', hrun, hown, hg, hnil, hat⟩ := run_append_own_at (P := E.P) w K.B t ty elem i z y.size y.bytes (Env.un_ok ht) i1 i3 i5 i6 (by rw [i7, i5]) hsz (.slice none 0 0) 0 [] (World.ownsRow_nil w K.B elem y.size)
                ⟨b, o, none⟩ m c us husl (fun j q hq => by rw [add_off]; exact hcells j q hq) hone' (by simp only [maxLen]; omega) (by rw [Nat.zero_add]; exact hb.1) (Nat.le_trans hH.hB hH.below.size)
              rcases hat with hat | hat
              · exfalso
                rcases hown.2 with ⟨rfl, h0⟩ | ⟨g, cap, cur, rfl, _⟩
                · omega
                · simp [Value.ownBlock] at hat
              · rcases hown.2 with ⟨rfl, h0⟩ | ⟨g, cap, cur, rfl, hbg, hg2, hnc, hcm, hcs, htake⟩
                · simp [Value.ownBlock] at hat
                · have hgw : g = w.heap.size := by simpa [Value.ownBlock] using hat
                  subst hgw
                  simp only [Nat.zero_add, List.nil_append] at *
                  have hx' := Conc.ext_push K ⟨w.heap.size, cur.size, 0⟩
                  refine ⟨K.push ⟨w.heap.size, cur.size, 0⟩, _, w', hx', hrun, hH.push (Nat.le_refl _) (by simpa [Value.ownBlock] using hg) (OR.cells_mk rfl hg2 rfl hone (VRL.ext hx' _ _ hvr) (by rw [husl]; exact htake)), ?_⟩
                  refine VR.mk_osl (i := ⟨w.heap.size, cur.size, 0⟩) ?_ rfl hnc hcm ?_
                  · rw [← hH.len]; simp [Conc.push]
                  · simp [hcs]
            · cases h
        · -- onto a row of the call's own
          rename_i b ver len sz
          split at h
          · rename_i v e cs hb
            split at h
            · rename_i hc2
              obtain ⟨rfl, rfl, rfl, hfit, hby, hmx⟩ := hc2
              cases h
              obtain ⟨j, arr, e', cs', hb', hj, hver, harr, hroom, hone2, hlen2, hvr2⟩ := live_spec hH (live_of hb)
              rw [hb] at hb'
              cases hb'
              obtain ⟨cap, rfl, hc1, hcm, hcr⟩ := hs.osl_eq hj hver
              have hb2 : b < H.length := (List.getElem?_eq_some_iff.1 hb).1
              have hl2 := hvr2.length
              have hown0 : w.ownsRow K.B e y.size (.slice (some ⟨j.c, 0, none⟩) len cap) len (arr.toList.take (len * y.size)) := by
                refine ⟨by simp at hl2 ⊢; omega, .inr ⟨j.c, cap, arr, rfl, hH.low _ _ hj, harr, hc1, hcm, by omega, rfl⟩⟩
              have hvr3 : VRL K (cs.take (len * y.size)) (arr.toList.take (len * y.size)) := by
                have := hvr2.take (len * y.size)
                rwa [List.take_take, Nat.min_eq_left hfit] at this
              have hone3 : (cs.take (len * y.size) ++ news).all AV.one = true := by
                rw [List.all_append, hone]
                rw [List.all_eq_true] at hone2
                simp only [Bool.and_true, List.all_eq_true]
                exact fun q hq => hone2 q (List.mem_of_mem_take hq)
              by_cases hm : m = 0
              · subst hm
                have hnn : news = [] := List.eq_nil_of_length_eq_zero (by simpa using hnl)
                subst hnn
                have hx' := Conc.ext_upd (K := K) (i' := { j with ver := v + 1 }) hj (by simp; omega) (fun hh => by simp at hh; omega)
                refine ⟨K.upd b { j with ver := v + 1 }, _, w, hx', run_append_zero (Env.un_ok ht) (E.ti_ok _ _ hy) hc1 w, hH.upd hb rfl (i' := { j with ver := v + 1 }) hj (by simp; omega) (fun hh => by simp at hh; omega) (.inl rfl) ⟨rfl, rfl, rfl, Nat.le_refl _, fun _ _ _ => rfl⟩ (OR.cells_mk rfl harr hroom (by simpa using hone3) (VRL.ext hx' _ _ (by simpa using hvr3)) ?_), ?_⟩
                · simp at hl2
                  simp [Nat.min_eq_left (show len * y.size ≤ arr.size by omega)]
                · refine VR.mk_osl (i := { j with ver := v + 1 }) (by simp [Conc.upd, hH.len, hb2]) rfl hc1 hcm hcr
              · have hne : us ≠ [] := by
                  intro h0
                  have h1 := Nat.mul_pos (show 0 < m by omega) hsz
                  rw [h0, List.length_nil] at husl
                  omega
                obtain ⟨bb, o, rfl, hcells⟩ := hcell hne
                obtain ⟨v', w', hrun, hown, hg, hnil, hat⟩ := run_append_own_at (P := E.P) w K.B t ty e i z y.size y.bytes (Env.un_ok ht) i1 i3 i5 i6 (by rw [i7, i5]) hsz _ len _ hown0
                  ⟨bb, o, none⟩ m c us husl (fun j q hq => by rw [add_off]; exact hcells j q hq) hone' (by simp only [maxLen]; omega) (by omega) (Nat.le_trans hH.hB hH.below.size)
                rcases hown.2 with ⟨rfl, h0⟩ | ⟨g, cap', cur, rfl, hbg, hg2, hnc, hcm', hcs, htake⟩
                · omega
                · have hgc : g = j.c ∨ w.heap.size ≤ g := by
                    rcases hat with hat | hat
                    · left; simpa [Value.ownBlock] using hat
                    · right
                      have : g = w.heap.size := by simpa [Value.ownBlock] using hat
                      omega
                  have hx' := Conc.ext_upd (K := K) (i' := ⟨g, cur.size, v + 1⟩) hj (by simp; omega) (fun hh => by simp at hh; omega)
                  refine ⟨K.upd b ⟨g, cur.size, v + 1⟩, _, w', hx', hrun, hH.upd hb rfl (i' := ⟨g, cur.size, v + 1⟩) hj (by simp; omega) (fun hh => by simp at hh; omega) hgc (by simpa [Value.ownBlock] using hg) (OR.cells_mk rfl hg2 rfl hone3 (VRL.ext hx' _ _ (hvr3.append hvr)) ?_), ?_⟩
                  · have hlx : (arr.toList.take (len * y.size) ++ us).length = (len + m) * y.size := by
                      simp at hl2
                      rw [List.length_append, husl, Nat.add_mul]
                      simp
                      omega
                    rw [hlx]
                    exact htake
                  · refine VR.mk_osl (i := ⟨g, cur.size, v + 1⟩) (by simp [Conc.upd, hH.len, hb2]) rfl hnc hcm' ?_
                    simp [hcs]
            · cases h
          · cases h
        · cases h
      · cases h
    · cases h
  · cases h

theorem evo_sound (hH : HR E K H w) (hF : FR K N fr a.tmps) {x : Option Operand} {v : Option AV} (h : evo E fr x = some v) : (v = none ∧ x.map a.eval = none) ∨ ∃ b u, v = some b ∧ x.map a.eval = some u ∧ VR K b u := by
  cases x with
  | none => simp only [evo] at h; cases h; exact .inl ⟨rfl, rfl⟩
  | some x =>
    obtain ⟨b, h1, h2⟩ := Option.map_eq_some_iff.1 h
    subst h2
    exact .inr ⟨b, _, rfl, rfl, ev_sound hH hF h1⟩

theorem run_zv {t : TypeId} {x : TI} {v : AV} (h : tinfo E.P t = some x) (hz : x.zv = some v) : ∃ z, (zeroValue t).run E.P w = .ok z w ∧ VR K v z := by
  obtain ⟨i, z, h1, h2, h3, h4, h5, h6, h7, h8⟩ := tinfo_spec h
  obtain ⟨c1, c2⟩ := ofCells_sound (K := K) _ _ h4
  refine ⟨z, by simp [zeroValue, typeInfo, h1, h3], ?_⟩
  unfold TI.zv TI.isAgg at hz
  split at hz
  · rename_i hagg
    cases hz
    rw [hagg] at h8
    cases z <;> simp [valAgg] at h8
    rename_i us
    exact ⟨c2, us, rfl, by simpa [Value.cells] using c1⟩
  · rename_i hagg
    split at hz
    · rename_i y hy
      cases hz
      rw [hy] at c1
      have hf : valAgg z = false := by
        rw [h8]
        cases hd : descAgg x.desc
        · rfl
        · exact absurd hd hagg
      have hc : z.cells = #[z] := by cases z <;> first | rfl | (simp [valAgg] at hf)
      rw [hc] at c1
      simp only [VRL] at c1
      obtain ⟨u, us, e, hu, _⟩ := c1
      have : u = z := by
        have := congrArg List.head? e
        simpa using this.symm
      rw [← this]
      exact hu
    · cases hz

theorem aassert_sound {x v : AV} {xv : Value} {xt asserted : TypeId} {ok : Bool} (hx : VR K x xv) (h : aassert E x asserted ok = some v) : QOK E K w (Instr.typeAssert xv xt asserted ok) v := by
  unfold aassert at h
  split at h
  · cases h
  · rename_i d t u hni hu
    simp only [VR] at hx
    obtain ⟨y, rfl, hy⟩ := hx
    split at h
    · rename_i ht
      cases h
      refine ⟨if ok then .tuple #[y, .bool true] else y, ?_, ?_⟩
      · unfold Instr.typeAssert
        simp only [Sem.run_bind, run_underlying (Env.un_ok hu), Result.andThen_ok]
        cases d <;> first | exact absurd rfl (hni _) | (cases ok <;> simp [ht])
      · cases ok
        · exact hy
        · exact ⟨_, rfl, y, _, rfl, hy, _, _, rfl, rfl, rfl⟩
    · rename_i ht
      split at h
      · rename_i hok
        split at h
        · rename_i z hz
          obtain ⟨q, h1, h2⟩ := Option.map_eq_some_iff.1 h
          subst h2 hok
          obtain ⟨zv, z1, z2⟩ := run_zv (K := K) (w := w) (E.ti_ok _ _ hz) h1
          refine ⟨.tuple #[zv, .bool false], ?_, _, rfl, zv, _, rfl, z2, _, _, rfl, rfl, rfl⟩
          unfold Instr.typeAssert
          simp only [Sem.run_bind, run_underlying (Env.un_ok hu), Result.andThen_ok]
          cases d <;> first | exact absurd rfl (hni _) | simp [ht, z1]
        · cases h
      · cases h
  · cases h

theorem abuiltin_sound (hH : HR E K H w) {b : Builtin} {ts : Array TypeId} {ty : TypeId} {cs : Array Bool} {xs : List AV} {vs : Array Value} {v : AV} (hx : VRL K xs vs.toList) (h : abuiltin E H b ts ty xs = some v) :
    ∃ cv, (builtin b ts ty cs vs).run E.P w = .ok (.value cv) w ∧ VR K v cv := by
  have wrap : ∀ {s : Sem Value} {u : AV}, QOK E K w s u → u = v → ((builtin b ts ty cs vs).run E.P w = (do pure (Next.value (← s)) : Sem Next).run E.P w) → ∃ cv, (builtin b ts ty cs vs).run E.P w = .ok (.value cv) w ∧ VR K v cv := by
    rintro s u ⟨cv, h1, h2⟩ rfl hr
    exact ⟨cv, by rw [hr]; simp [h1], h2⟩
  unfold abuiltin at h
  split at h
  · -- len
    rename_i x
    simp only [VRL] at hx
    obtain ⟨u, us, e1, hu, e3⟩ := hx
    subst e3
    have hvs : vs = #[u] := by apply Array.ext'; simpa using e1
    subst hvs
    split at h
    · rename_i t ht
      refine wrap (s := Builtin.len_ ts ty #[u]) ?_ rfl rfl
      have hsame : (Builtin.len_ ts ty #[u]) = (Builtin.len_ #[t] ty #[u]) := by
        simp only [Builtin.len_, ht]
        simp
      rw [hsame]
      exact alen_sound hH hu h
    · cases h
  · rename_i k p k' q
    simp only [VRL, VR] at hx
    obtain ⟨u, us, e1, rfl, u2, us2, e2, rfl, e3⟩ := hx
    subst e3 e2
    have hvs : vs = #[.int k p, .int k' q] := by apply Array.ext'; simpa using e1
    subst hvs
    cases h
    exact wrap (u := .int k (if q > p then q else p)) (s := Builtin.max_ ts ty #[.int k p, .int k' q]) ⟨.int k (if q > p then q else p), by simp [Builtin.max_, Builtin.max2], rfl⟩ rfl rfl
  · rename_i k p k' q
    simp only [VRL, VR] at hx
    obtain ⟨u, us, e1, rfl, u2, us2, e2, rfl, e3⟩ := hx
    subst e3 e2
    have hvs : vs = #[.int k p, .int k' q] := by apply Array.ext'; simpa using e1
    subst hvs
    cases h
    exact wrap (u := .int k (if q < p then q else p)) (s := Builtin.min_ ts ty #[.int k p, .int k' q]) ⟨.int k (if q < p then q else p), by simp [Builtin.min_, Builtin.min2], rfl⟩ rfl rfl
  · split at h
    · rename_i us hus
      have := toVL_sound _ _ _ hus hx
      have hvs : vs = us.toArray := by apply Array.ext'; simpa using this
      subst hvs
      exact wrap (apure_sound h) rfl rfl
    · cases h
  · split at h
    · rename_i us hus
      have := toVL_sound _ _ _ hus hx
      have hvs : vs = us.toArray := by apply Array.ext'; simpa using this
      subst hvs
      exact wrap (apure_sound h) rfl rfl
    · cases h
  · cases h

set_option maxHeartbeats 4000000 in
/-- One operation that leaves the memory alone. -/
theorem aopQ_sound (hH : HR E K H w) (hF : FR K N fr a.tmps) {o : Oper} {r : AV} (h : aopQ E fr H o.op o.type = some r) :
    (∀ c, o.op ≠ .defer c) ∧ ∃ cv, (execOp a.eval o).run E.P w = .ok (.value cv) w ∧ VR K r cv := by
  obtain ⟨dst, op, ty, pos, after, guard⟩ := o
  simp only at h
  have qok : ∀ {s : Sem Value} {v : AV}, QOK E K w s v → v = r → ((execOp a.eval ⟨dst, op, ty, pos, after, guard⟩).run E.P w = (do pure (Next.value (← s)) : Sem Next).run E.P w) →
      ∃ cv, (execOp a.eval ⟨dst, op, ty, pos, after, guard⟩).run E.P w = .ok (.value cv) w ∧ VR K r cv := by
    rintro s v ⟨cv, h1, h2⟩ rfl hr
    exact ⟨cv, by rw [hr]; simp [h1], h2⟩
  unfold aopQ at h
  split at h
  · rename_i x
    exact ⟨fun c => by simp, qok (s := pure (a.eval x)) ⟨_, rfl, ev_sound hH hF h⟩ rfl rfl⟩
  · rename_i x
    exact ⟨fun c => by simp, qok (s := pure (a.eval x)) ⟨_, rfl, ev_sound hH hF h⟩ rfl rfl⟩
  · rename_i c x y
    split at h
    · rename_i t u v h1 h2 h3
      cases h
      have e1 := ev_sound hH hF h1
      simp only [VR] at e1
      refine ⟨fun c => by simp, qok (s := pure (if t then a.eval x else a.eval y)) (v := if t then u else v) ⟨_, rfl, ?_⟩ rfl ?_⟩
      · cases t
        · exact ev_sound hH hF h3
        · exact ev_sound hH hF h2
      · simp [execOp, e1, asBool]
    · cases h
  · rename_i t ps
    split at h
    · rename_i l h1
      obtain ⟨p1, p2⟩ := evp_sound (K := K) hH hF h1
      refine ⟨fun c => by simp, qok (abuild_sound (ps := ps.map fun (i, x) => (i, a.eval x)) hH (by rw [p1]; simp [Function.comp_def]) (by simpa [Function.comp_def] using p2) h) rfl rfl⟩
    · cases h
  · split at h
    · rename_i p h1
      exact ⟨fun c => by simp, qok (aload_sound hH (ev_sound hH hF h1) h) rfl rfl⟩
    · cases h
  · -- nilCheck
    rename_i x
    split at h
    · rename_i b ver off h1
      split at h
      · rename_i hl
        cases h
        have e1 := ev_sound hH hF h1
        obtain ⟨i, arr, e', cs'', hb', hi, hver, _⟩ := live_spec hH hl
        have e2 := e1.ptr_eq hi hver
        exact ⟨fun c => by simp, qok (s := pure (a.eval x)) ⟨_, rfl, e1⟩ rfl (by simp [execOp, e2])⟩
      · cases h
    · rename_i cs h1
      cases h
      have e1 := ev_sound hH hF h1
      have e2 := e1
      simp only [VR] at e2
      obtain ⟨b, o, e2, _⟩ := e2
      exact ⟨fun c => by simp, qok (s := pure (a.eval x)) ⟨_, rfl, e1⟩ rfl (by simp [execOp, e2])⟩
    · rename_i t v h1
      cases h
      have e1 := ev_sound hH hF h1
      have e2 := e1
      simp only [VR] at e2
      obtain ⟨u, e2, _⟩ := e2
      exact ⟨fun c => by simp, qok (s := pure (a.eval x)) ⟨_, rfl, e1⟩ rfl (by simp [execOp, e2])⟩
    · rename_i f p q h1
      cases h
      have e1 := ev_sound hH hF h1
      have e2 := e1
      simp only [VR] at e2
      obtain ⟨_, fs, cs, e2, _⟩ := e2
      exact ⟨fun c => by simp, qok (s := pure (a.eval x)) ⟨_, rfl, e1⟩ rfl (by simp [execOp, e2])⟩
    · rename_i b h1
      split at h
      · rename_i hb
        cases h
        have e1 := ev_sound hH hF h1
        obtain ⟨i, hi, ho⟩ := hH.info hb
        have e2 := e1
        simp only [VR] at e2
        obtain ⟨_, j, hj, e2⟩ := e2
        have : j = i := Option.some.inj (hj.symm.trans hi)
        subst this
        have e3 := e2 ho.1
        exact ⟨fun c => by simp, qok (s := pure (a.eval x)) ⟨_, rfl, e1⟩ rfl (by simp [execOp, e3])⟩
      · cases h
    · cases h
  · rename_i bop t x y yt
    split at h
    · rename_i u v h1 h2
      split at h
      · rename_i rr h3
        cases h
        exact ⟨fun c => by simp, qok (abin_sound (ev_sound hH hF h1) (ev_sound hH hF h2) h3) rfl rfl⟩
      · exact ⟨fun c => by simp, qok (anil_sound (xo := x) (yo := y) hH (ev_sound hH hF h1) (ev_sound hH hF h2) h) rfl rfl⟩
    · cases h
  · rename_i uop t x
    split at h
    · rename_i u h1
      split at h
      · rename_i v h2
        have e1 := toV_sound _ _ _ h2 (ev_sound hH hF h1)
        exact ⟨fun c => by simp, qok (s := Op.unary uop (a.eval x)) (by rw [e1]; exact apure_sound h) rfl rfl⟩
      · cases h
    · cases h
  · split at h
    · rename_i u el h1 h2
      exact ⟨fun c => by simp, qok (abytes_sound hH (ev_sound hH hF h1) h) rfl rfl⟩
    · rename_i u d _ h1 h2
      exact ⟨fun c => by simp, qok (aconv_sound ⟨d, Env.un_ok h2⟩ (ev_sound hH hF h1) h) rfl rfl⟩
    · cases h
  · rename_i t x
    split at h
    · cases h
    · rename_i u d hni h1 h2
      cases h
      refine ⟨fun c => by simp, qok (s := Instr.makeInterface t (a.eval x)) (v := .iface t u) ⟨.iface t (a.eval x), ?_, _, rfl, ev_sound hH hF h1⟩ rfl rfl⟩
      simp only [Instr.makeInterface, Sem.run_bind, run_underlying (Env.un_ok h2), Result.andThen_ok]
      cases d <;> first | exact absurd rfl (hni _) | rfl
    · cases h
  · rename_i f p q
    split at h
    · rename_i u v h1 h2
      cases h
      refine ⟨fun c => by simp, qok (s := Instr.makeFunc (.func f) (p.map a.eval) (q.map a.eval)) (v := .fn (.func f) u v) ⟨.func (.func f) (p.map a.eval) (q.map a.eval), rfl, fun l => (by simp), _, _, rfl, ?_, ?_⟩ rfl rfl⟩
      · simpa using evs_sound hH hF h1
      · simpa using evs_sound hH hF h2
    · cases h
  · split at h
    · rename_i u l q h1 h2 h3
      exact ⟨fun c => by simp, qok (aslice_sound hH (ev_sound hH hF h1) (evo_sound hH hF h2) (evo_sound hH hF h3) h) rfl rfl⟩
    · cases h
  · split at h
    · rename_i u h1
      exact ⟨fun c => by simp, qok (afieldAddr_sound hH (ev_sound hH hF h1) h) rfl rfl⟩
    · cases h
  · split at h
    · rename_i u h1
      exact ⟨fun c => by simp, qok (afield_sound (ev_sound hH hF h1) h) rfl rfl⟩
    · cases h
  · split at h
    · rename_i u v h1 h2
      exact ⟨fun c => by simp, qok (aindexAddr_sound hH (ev_sound hH hF h1) (ev_sound hH hF h2) h) rfl rfl⟩
    · cases h
  · split at h
    · rename_i u v h1 h2
      exact ⟨fun c => by simp, qok (aindex_sound (ev_sound hH hF h1) (ev_sound hH hF h2) h) rfl rfl⟩
    · cases h
  · split at h
    · rename_i u h1
      exact ⟨fun c => by simp, qok (aassert_sound (ev_sound hH hF h1) h) rfl rfl⟩
    · cases h
  · rename_i x i
    split at h
    · rename_i vs h1
      have e1 := ev_sound hH hF h1
      simp only [VR] at e1
      obtain ⟨us, e2, e3⟩ := e1
      obtain ⟨y, y1, y2⟩ := e3.get i r h
      refine ⟨fun c => by simp, qok (s := Instr.extract (a.eval x) i) ⟨y, ?_, y2⟩ rfl rfl⟩
      have : us[i]? = some y := by simpa using y1
      simp [Instr.extract, e2, this]
    · cases h
  · rename_i b args ts
    split at h
    · rename_i xs h1
      have e1 := evs_sound (K := K) hH hF h1
      obtain ⟨cv, x2, x4⟩ := abuiltin_sound (cs := args.map fun | .const _ => true | _ => false) (vs := args.map a.eval) hH (by simpa using e1) h
      exact ⟨fun c => by simp, cv, (by simp [execOp, resolve, invoke]; exact x2), x4⟩
    · cases h
  · cases h

set_option maxHeartbeats 4000000 in
/-- One operation that writes or makes memory. -/
theorem aopW_sound (hH : HR E K H w) (hF : FR K N fr a.tmps) {o : Oper} {r : AV × Heap} (h : aopW E fr H o.op o.type = some r) :
    (∀ c, o.op ≠ .defer c) ∧ ∃ K' cv w' nx, Ext K K' ∧ (execOp a.eval o).run E.P w = .ok nx w' ∧ (nx = .value cv ∨ (nx = .skip ∧ cv = undef)) ∧ HR E K' r.2 w' ∧ VR K' r.1 cv := by
  obtain ⟨dst, op, ty, pos, after, guard⟩ := o
  simp only at h
  have sok : ∀ {s : Sem Value} {v : AV} {H' : Heap}, SOK E K w s v H' → (v, H') = r → ((execOp a.eval ⟨dst, op, ty, pos, after, guard⟩).run E.P w = (do pure (Next.value (← s)) : Sem Next).run E.P w) →
      ∃ K' cv w' nx, Ext K K' ∧ (execOp a.eval ⟨dst, op, ty, pos, after, guard⟩).run E.P w = .ok nx w' ∧ (nx = .value cv ∨ (nx = .skip ∧ cv = undef)) ∧ HR E K' r.2 w' ∧ VR K' r.1 cv := by
    rintro s v H' ⟨K', cv, w', h1, h2, h3, h4⟩ rfl hr
    exact ⟨K', cv, w', .value cv, h1, by rw [hr]; simp [h2], .inl rfl, h3, h4⟩
  unfold aopW at h
  split at h
  · exact ⟨fun c => by simp, sok (aalloc_sound hH h) rfl rfl⟩
  · split at h
    · rename_i v h1
      exact ⟨fun c => by simp, sok (abox_sound hH (ev_sound hH hF h1) h) rfl rfl⟩
    · cases h
  · rename_i t n ps
    split at h
    · rename_i l h1
      obtain ⟨p1, p2⟩ := evp_sound (K := K) hH hF h1
      refine ⟨fun c => by simp, sok (abuildSlice_sound (ps := ps.map fun (i, x) => (i, a.eval x)) hH (by rw [p1]; simp [Function.comp_def]) (by simpa [Function.comp_def] using p2) h) rfl rfl⟩
    · cases h
  · split at h
    · rename_i p v h1 h2
      obtain ⟨H', h3, h4⟩ := Option.map_eq_some_iff.1 h
      subst h4
      obtain ⟨K', w', x1, x2, x3⟩ := astore_sound hH (ev_sound hH hF h1) (ev_sound hH hF h2) h3
      exact ⟨fun c => by simp, K', undef, w', .skip, x1, by simp [execOp, x2], .inr ⟨rfl, rfl⟩, x3, #[], rfl, rfl⟩
    · cases h
  · split at h
    · rename_i u v h1 h2
      exact ⟨fun c => by simp, sok (amakeSlice_sound hH (ev_sound hH hF h1) (ev_sound hH hF h2) h) rfl rfl⟩
    · cases h
  · rename_i args ts
    split at h
    · rename_i s x h1
      split at h
      · rename_i t u ht hu
        have e1 := evs_sound (K := K) hH hF h1
        simp only [VRL] at e1
        obtain ⟨c1, r1, q1, v1, c2, r2, q2, v2, q3⟩ := e1
        subst q3 q2
        have hvs : args.map a.eval = #[c1, c2] := by apply Array.ext'; simpa using q1
        refine ⟨fun c => by simp, sok (s := Builtin.append_ ts ty #[c1, c2]) (v := r.1) (H' := r.2) ?_ rfl ?_⟩
        · have hsame : (Builtin.append_ ts ty #[c1, c2]) = (Builtin.append_ #[t, u] ty #[c1, c2]) := by
            simp only [Builtin.append_, ht, hu]
            simp
          rw [hsame]
          exact aappend_sound hH v1 v2 h
        · simp [execOp, resolve, invoke, hvs, builtin]
      · cases h
    · cases h
  · cases h

/-- ONE OPERATION. -/
theorem aop_sound (hH : HR E K H w) (hF : FR K N fr a.tmps) {o : Oper} {r : AV × Heap} (h : aop E fr H o.op o.type = some r) :
    (∀ c, o.op ≠ .defer c) ∧ ∃ K' cv w' nx, Ext K K' ∧ (execOp a.eval o).run E.P w = .ok nx w' ∧ (nx = .value cv ∨ (nx = .skip ∧ cv = undef)) ∧ HR E K' r.2 w' ∧ VR K' r.1 cv := by
  unfold aop at h
  split at h
  · rename_i v hv
    cases h
    obtain ⟨h1, cv, h2, h3⟩ := aopQ_sound hH hF hv
    exact ⟨h1, K, cv, w, _, Ext.refl K, h2, .inl rfl, hH, h3⟩
  · exact aopW_sound hH hF h

end

end Go.Proofs.Ytoijfbdjlagooaa
