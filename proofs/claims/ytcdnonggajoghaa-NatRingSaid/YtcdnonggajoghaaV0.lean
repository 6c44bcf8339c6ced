/- What has to hold ahead of an operation, as a proposition that unfolds. -/
import Derived.Test.YtcdnonggajoghaaE9
namespace Go.Proofs.Ytcdnonggajoghaa
open Go Go.RowKit
set_option linter.unusedVariables false
set_option linter.unusedSimpArgs false

structure VB (b : Bool) (A B : Prop) : Prop where
  t : b = true → A
  f : b = false → B
theorem VB.tt {A B : Prop} (h : A) : VB true A B := ⟨fun _ => h, fun hh => Bool.noConfusion hh⟩
theorem VB.ff {A B : Prop} (h : B) : VB false A B := ⟨fun hh => Bool.noConfusion hh, fun _ => h⟩

theorem VB.dec {p : Prop} [Decidable p] {A B : Prop} (h : p → A) (k : ¬ p → B) : VB (decide p) A B := ⟨fun e => h (of_decide_eq_true e), fun e => k (of_decide_eq_false e)⟩
theorem VB.eq {a b : Int} {A B : Prop} (h : a = b → A) (k : a ≠ b → B) : VB (a == b) A B := ⟨fun e => h (by simpa using e), fun e => k (by simpa using e)⟩
theorem VB.ne {a b : Int} {A B : Prop} (h : a ≠ b → A) (k : a = b → B) : VB (a != b) A B := ⟨fun e => h (by simpa using e), fun e => k (by simpa using e)⟩
theorem VB.not {b : Bool} {A B : Prop} (h : VB b B A) : VB (!b) A B := ⟨fun e => h.f (by simpa using e), fun e => h.t (by simpa using e)⟩

structure InR (k : IntKind) (n : Int) : Prop where
  eq : k.wrap n = n
structure IntAt (k : IntKind) (cs : List AV) : Prop where
  ex : ∃ n, cs.head? = some (.int k n)
structure BoolAt (cs : List AV) : Prop where
  ex : ∃ n, cs.head? = some (.bool n)
def getInt : List AV → Int
  | .int _ n :: _ => n
  | _ => 0
def getBool : List AV → Bool
  | .bool b :: _ => b
  | _ => false

theorem IntAt.get {k : IntKind} {cs : List AV} (h : IntAt k cs) : cs.head? = some (.int k (getInt cs)) := by
  obtain ⟨n, hn⟩ := h.ex
  cases cs with
  | nil => cases hn
  | cons c cs => simp at hn; subst hn; rfl
theorem BoolAt.get {cs : List AV} (h : BoolAt cs) : cs.head? = some (.bool (getBool cs)) := by
  obtain ⟨n, hn⟩ := h.ex
  cases cs with
  | nil => cases hn
  | cons c cs => simp at hn; subst hn; rfl

def AV.force (Q : AV → Prop) : AV → Prop
  | .bool b => Q (.bool b)
  | .int k n => Q (.int k n)
  | .str s => Q (.str s)
  | .nptr => Q .nptr
  | .ptr b ver off => Q (.ptr b ver off)
  | .dptr cs => Q (.dptr cs)
  | .nsl => Q .nsl
  | .dsl cs len => Q (.dsl cs len)
  | .osl b ver off len sz => Q (.osl b ver off len sz)
  | .nmap => Q .nmap
  | .mapr b => Q (.mapr b)
  | .fn f first captured => Q (.fn f first captured)
  | .yld b => Q (.yld b)
  | .nfn => Q .nfn
  | .iface t v => Q (.iface t v)
  | .niface => Q .niface
  | .agg cs => Q (.agg cs)
  | .tup vs => Q (.tup vs)
theorem AV.of_force {Q : AV → Prop} : ∀ {v : AV}, v.force Q → Q v := by intro v; cases v <;> exact id

def AObj.force (Q : AObj → Prop) : AObj → Prop
  | .cells ver e cs => Q (.cells ver e cs)
  | .map es => Q (.map es)
  | .dfr => Q .dfr
  | .gone => Q .gone
  | .loop st pend fr n ps asg body d => Q (.loop st pend fr n ps asg body d)
theorem AObj.of_force {Q : AObj → Prop} : ∀ {v : AObj}, v.force Q → Q v := by intro v; cases v <;> exact id

def forceH : Heap → (Heap → Prop) → Prop
  | [], Q => Q []
  | o :: r, Q => o.force fun o' => forceH r fun r' => Q (o' :: r')
theorem of_forceH : ∀ {H : Heap} {Q : Heap → Prop}, forceH H Q → Q H
  | [], Q, h => h
  | o :: r, Q, h => of_forceH (Q := fun r' => Q (o :: r')) (AObj.of_force h)

theorem AV.to_force {Q : AV → Prop} : ∀ {v : AV}, Q v → v.force Q := by intro v; cases v <;> exact id
theorem AObj.to_force {Q : AObj → Prop} : ∀ {v : AObj}, Q v → v.force Q := by intro v; cases v <;> exact id
theorem to_forceH : ∀ {H : Heap} {Q : Heap → Prop}, Q H → forceH H Q
  | [], Q, h => h
  | o :: r, Q, h => AObj.to_force (Q := fun o' => forceH r fun r' => Q (o' :: r')) (to_forceH (Q := fun r' => Q (o :: r')) h)

def forceL : List AV → (List AV → Prop) → Prop
  | [], Q => Q []
  | c :: cs, Q => c.force fun c' => forceL cs fun cs' => Q (c' :: cs')
theorem of_forceL : ∀ {cs : List AV} {Q : List AV → Prop}, forceL cs Q → Q cs
  | [], Q, h => h
  | c :: cs, Q, h => of_forceL (Q := fun r' => Q (c :: r')) (AV.of_force (v := c) (Q := fun c' => forceL cs fun cs' => Q (c' :: cs')) h)

def forceO (Q : AV → Prop) : Option AV → Prop
  | some v => v.force Q
  | none => False
theorem of_forceO {Q : AV → Prop} : ∀ {x : Option AV}, forceO Q x → ∃ v, x = some v ∧ Q v
  | some v, h => ⟨v, rfl, AV.of_force h⟩
  | none, h => h.elim

def forceP (Q : AV → Heap → Prop) : Option (AV × Heap) → Prop
  | some (v, H) => v.force fun v' => forceH H (Q v')
  | none => False
theorem of_forceP {Q : AV → Heap → Prop} : ∀ {x : Option (AV × Heap)}, forceP Q x → ∃ r, x = some r ∧ Q r.1 r.2
  | some (v, H), h => ⟨(v, H), rfl, of_forceH (AV.of_force (v := v) (Q := fun v' => forceH H (Q v')) h)⟩
  | none, h => h.elim

section
variable (E : Env) (m : Bool) (fr : Fr) (H : Heap) (Q : AV → Prop)

def vloadC (x : TI) (cs : List AV) : Prop :=
  match x.desc with
  | .int k => IntAt k cs ∧ Q (.int k (getInt cs))
  | .bool => BoolAt cs ∧ Q (.bool (getBool cs))
  | .struct _ | .array _ _ => x.size ≤ cs.length ∧ Q (.agg (cs.take x.size))
  | _ => forceO Q cs.head?

def vload (t : TypeId) (p : AV) : Prop :=
  match E.ti t with
  | none => False
  | some x => match p with
    | .ptr b ver off => match H[b]? with
      | some (.cells v _ cs) => v = ver ∧ vloadC Q x (cs.drop off)
      | _ => False
    | .dptr cs => vloadC Q x cs
    | _ => False

def vint (op : BinOp) (t : TypeId) (k k' : IntKind) (a b : Int) : Prop :=
  match op, decide (k = k') with
  | .add, true => InR k (a + b) ∧ Q (.int k (a + b))
  | .sub, true => InR k (a - b) ∧ Q (.int k (a - b))
  | .mul, true => InR k (a * b) ∧ Q (.int k (a * b))
  | .quo, true => b ≠ 0 ∧ InR k (a.tdiv b) ∧ Q (.int k (a.tdiv b))
  | .rem, true => b ≠ 0 ∧ Q (.int k (a.tmod b))
  | .shl, _ => 0 ≤ b ∧ InR k (a * 2 ^ (min b.toNat k.bits)) ∧ Q (.int k (a * 2 ^ (min b.toNat k.bits)))
  | .shr, _ => 0 ≤ b ∧ Q (.int k (a.fdiv (2 ^ (min b.toNat k.bits))))
  | op, _ => forceO Q (aint E op t k k' a b)

def vbin (op : BinOp) (t : TypeId) (xo yo : Operand) (x y : AV) : Prop :=
  match m, x, y with
  | true, .int k a, .int k' b => vint E Q op t k k' a b
  | true, .osl b ver off len sz, .nsl => match op, E.un t with
    | .eql, some (.slice _) => live H b ver = true ∧ Q (.bool false)
    | .neq, some (.slice _) => live H b ver = true ∧ Q (.bool true)
    | _, _ => False
  | true, .ptr b ver off, .nptr => match op, E.un t with
    | .eql, some (.pointer _) => live H b ver = true ∧ Q (.bool false)
    | .neq, some (.pointer _) => live H b ver = true ∧ Q (.bool true)
    | _, _ => False
  | _, x, y => forceO Q (match abin E op t xo yo x y with
    | some r => some r
    | none => anil E H op t x y)

def vconv (src dst : TypeId) (x : AV) : Prop :=
  match m, E.un dst, x with
  | true, some (.int k), .int _ n => InR k n ∧ Q (.int k n)
  | _, _, x => forceO Q (aconv E src dst x)

def vindexAddr (t : TypeId) (x ix : AV) : Prop :=
  match E.un t, ix with
  | some (.slice elem), .int _ i => match E.ti elem with
    | some ⟨ysz, _, _, _⟩ => match x with
      | .osl b ver off len sz => match Nat.beq sz ysz with
        | true => live H b ver = true ∧ (0 ≤ i ∧ i < len) ∧ Q (.ptr b ver (off + i.toNat * sz))
        | false => False
      | .dsl cs len => (0 ≤ i ∧ i < len ∧ i.toNat * ysz < cs.length) ∧ Q (.dptr (cs.drop (i.toNat * ysz)))
      | _ => False
    | none => False
  | some (.array n elem), .int _ i => match E.ti elem with
    | some ⟨ysz, _, _, _⟩ => match x with
        | .ptr b ver off => live H b ver = true ∧ (0 ≤ i ∧ i < n) ∧ Q (.ptr b ver (off + i.toNat * ysz))
        | .dptr cs => (0 ≤ i ∧ i < n) ∧ Q (.dptr (cs.drop (i.toNat * ysz)))
        | _ => False
    | none => False
  | _, _ => False

def vbound (d : Nat) (x : Option AV) (K : Nat → Prop) : Prop :=
  match x with
  | none => K d
  | some (.int _ i) => 0 ≤ i ∧ K i.toNat
  | _ => False

def vslice (t : TypeId) (x : AV) (lo hi : Option AV) : Prop :=
  match E.un t, x with
  | some (.slice elem), .dsl cs len => match E.ti elem with
    | some ⟨ysz, _, _, _⟩ => vbound len hi fun h => vbound 0 lo fun l => (l ≤ h ∧ h ≤ len) ∧ Q (.dsl ((cs.drop (l * ysz)).take ((h - l) * ysz)) (h - l))
    | none => False
  | some (.slice elem), .osl b ver off len sz => match E.ti elem with
    | some ⟨ysz, _, _, _⟩ => match Nat.beq sz ysz with
      | true => live H b ver = true ∧ (match lo with
        | none => vbound len hi fun h => h ≤ len ∧ Q (.osl b ver off h sz)
        | some _ => vbound len hi fun h => vbound 0 lo fun l => ((l = 0 ∨ l < h) ∧ h ≤ len) ∧ Q (.osl b ver (off + l * sz) (h - l) sz))
      | false => False
    | none => False
  | _, x => forceO Q (aslice E H t x lo hi)

def vlen (ts : Array TypeId) (ty : TypeId) (xs : List AV) : Prop :=
  match xs, ts[0]? with
  | [.osl b ver off len sz], some t => match E.un t with
    | some (.slice _) => live H b ver = true ∧ Q (.int .i64 len)
    | _ => False
  | xs, _ => forceO Q (abuiltin E H .len ts ty xs)

def vnil (p : AV) : Prop :=
  match p with
  | .ptr b ver off => live H b ver = true ∧ Q (.ptr b ver off)
  | .dptr cs => Q (.dptr cs)
  | .iface t v => Q (.iface t v)
  | .fn (.func f) a b => Q (.fn (.func f) a b)
  | .yld b => match H[b]? with
    | some (.loop ..) => Q (.yld b)
    | _ => False
  | _ => False

def vfieldAddr (s : TypeId) (p : AV) (f : Nat) : Prop :=
  match E.un s with
  | some (.struct fields) => match fields.toList[f]? with
    | some fd => match E.ti fd.type with
      | some ⟨sz, _, _, _⟩ => match Nat.blt 0 sz with
        | true => match p with
          | .ptr b ver off => live H b ver = true ∧ Q (.ptr b ver (off + fd.offset))
          | .dptr cs => Q (.dptr (cs.drop fd.offset))
          | _ => False
        | false => False
      | none => False
    | none => False
  | _ => False

def vbuild (t : TypeId) (parts : List (Nat × AV)) : Prop :=
  match abuild E t parts with
  | some (.agg cs) => forceL cs fun cs' => Q (.agg cs')
  | _ => False

/-- One quiet operation. -/
def vopQ (op : Op) (ty : TypeId) : Prop :=
  match op with
  | .load t x => match ev E fr x with
    | some p => vload E H Q t p
    | none => False
  | .binOp op t x y _ => match ev E fr x, ev E fr y with
    | some u, some v => vbin E m H Q op t x y u v
    | _, _ => False
  | .convert src dst x => match ev E fr x, E.un src with
    | some u, some _ => vconv E m Q src dst u
    | _, _ => False
  | .slice t x lo hi none => match ev E fr x, evo E fr lo, evo E fr hi with
    | some u, some l, some h => vslice E H Q t u l h
    | _, _, _ => False
  | .indexAddr t x i => match ev E fr x, ev E fr i with
    | some u, some v => vindexAddr E H Q t u v
    | _, _ => False
  | .nilCheck x => match ev E fr x with
    | some p => vnil H Q p
    | none => False
  | .build t ps => match evp E fr ps.toList with
    | some l => vbuild E Q t l
    | none => False
  | .fieldAddr s x f => match ev E fr x with
    | some p => vfieldAddr E H Q s p f
    | none => False
  | .call { callee := .builtin .len, args, argTypes } => match evs E fr args.toList with
    | some xs => vlen E H Q argTypes ty xs
    | none => False
  | op => forceO Q (aopQ E fr H op ty)

variable {E m fr H Q}

theorem vloadC_ok {t : TypeId} {p : AV} {x : TI} {cs : List AV} (hx : E.ti t = some x) (hc : cellsAt H p = some cs) (h : vloadC Q x cs) : ∃ v, aload E H t p = some v ∧ Q v := by
  have key : x.isAgg = false → aload E H t p = cs.head? := by
    intro ha
    simp [aload, hx, hc, ha]
  have key2 : x.isAgg = true → x.size ≤ cs.length → aload E H t p = some (.agg (cs.take x.size)) := by
    intro ha hl
    simp [aload, hx, hc, ha, hl]
  unfold vloadC at h
  split at h
  · rename_i k hd
    exact ⟨_, (key (by simp [TI.isAgg, hd, descAgg])).trans h.1.get, h.2⟩
  · rename_i hd
    exact ⟨_, (key (by simp [TI.isAgg, hd, descAgg])).trans h.1.get, h.2⟩
  · rename_i fs hd
    exact ⟨_, key2 (by simp [TI.isAgg, hd, descAgg]) h.1, h.2⟩
  · rename_i n e hd
    exact ⟨_, key2 (by simp [TI.isAgg, hd, descAgg]) h.1, h.2⟩
  · rename_i h1 h2 h3 h4
    have ha : x.isAgg = false := by
      unfold TI.isAgg descAgg
      split
      · rename_i fs hd; exact absurd hd (h3 fs)
      · rename_i n e hd; exact absurd hd (h4 n e)
      · rfl
    rw [key ha]
    exact of_forceO h

theorem vload_ok {t : TypeId} {p : AV} (h : vload E H Q t p) : ∃ v, aload E H t p = some v ∧ Q v := by
  unfold vload at h
  split at h
  · exact h.elim
  · rename_i x hx
    split at h
    · rename_i b ver off
      split at h
      · rename_i v e cs hb
        exact vloadC_ok hx (by simp only [cellsAt, hb, if_pos h.1]) h.2
      · exact h.elim
    · exact vloadC_ok hx rfl h
    · exact h.elim

theorem vint_ok {op : BinOp} {t : TypeId} {k k' : IntKind} {a b : Int} (h : vint E Q op t k k' a b) : ∃ v, aint E op t k k' a b = some v ∧ Q v := by
  unfold vint at h
  split at h
  · rename_i hk; have hk := of_decide_eq_true hk; exact ⟨_, by simp only [aint, if_pos hk, h.1.eq], h.2⟩
  · rename_i hk; have hk := of_decide_eq_true hk; exact ⟨_, by simp only [aint, if_pos hk, h.1.eq], h.2⟩
  · rename_i hk; have hk := of_decide_eq_true hk; exact ⟨_, by simp only [aint, if_pos hk, h.1.eq], h.2⟩
  · rename_i hk; have hk := of_decide_eq_true hk; exact ⟨_, by simp only [aint, if_pos (⟨hk, h.1⟩ : k = k' ∧ b ≠ 0), h.2.1.eq], h.2.2⟩
  · rename_i hk; have hk := of_decide_eq_true hk; exact ⟨_, by simp only [aint, if_pos (⟨hk, h.1⟩ : k = k' ∧ b ≠ 0)], h.2⟩
  · exact ⟨_, by simp only [aint, if_pos h.1, h.2.1.eq], h.2.2⟩
  · exact ⟨_, by simp only [aint, if_pos h.1], h.2⟩
  · exact of_forceO h

theorem vbin_ok {op : BinOp} {t : TypeId} {xo yo : Operand} {x y : AV} (h : vbin E m H Q op t xo yo x y) : ∃ v, (match abin E op t xo yo x y with
    | some r => some r
    | none => anil E H op t x y) = some v ∧ Q v := by
  unfold vbin at h
  split at h
  · obtain ⟨v, h1, h2⟩ := vint_ok h
    exact ⟨v, by simp only [abin, h1], h2⟩
  · split at h
    · rename_i hu
      exact ⟨_, by simp only [abin, toV, anil, isNil, hu, h.1, if_true], h.2⟩
    · rename_i hu
      exact ⟨_, by simp only [abin, toV, anil, isNil, hu, h.1, if_true], h.2⟩
    · exact h.elim
  · split at h
    · rename_i hu
      exact ⟨_, by simp only [abin, toV, anil, isNil, hu, h.1, if_true], h.2⟩
    · rename_i hu
      exact ⟨_, by simp only [abin, toV, anil, isNil, hu, h.1, if_true], h.2⟩
    · exact h.elim
  · exact of_forceO h

theorem vlen_ok {ts : Array TypeId} {ty : TypeId} {xs : List AV} (h : vlen E H Q ts ty xs) : ∃ v, abuiltin E H .len ts ty xs = some v ∧ Q v := by
  unfold vlen at h
  split at h
  · rename_i ht
    split at h
    · rename_i hu
      exact ⟨_, by simp only [abuiltin, ht, alen, hu, h.1, if_true], h.2⟩
    · exact h.elim
  · exact of_forceO h

theorem vnil_ok {x : Operand} {p : AV} {ty : TypeId} (hp : ev E fr x = some p) (h : vnil H Q p) : ∃ v, aopQ E fr H (.nilCheck x) ty = some v ∧ Q v := by
  unfold vnil at h
  split at h
  · exact ⟨_, by simp only [aopQ, hp, h.1, if_true], h.2⟩
  · exact ⟨_, by simp only [aopQ, hp], h⟩
  · exact ⟨_, by simp only [aopQ, hp], h⟩
  · exact ⟨_, by simp only [aopQ, hp], h⟩
  · split at h
    · rename_i hb; exact ⟨_, by simp only [aopQ, hp, hb], h⟩
    · exact h.elim
  · exact h.elim

theorem vfieldAddr_ok {s : TypeId} {p : AV} {f : Nat} (h : vfieldAddr E H Q s p f) : ∃ v, afieldAddr E H s p f = some v ∧ Q v := by
  unfold vfieldAddr at h
  split at h
  · rename_i fields hu
    rw [Array.getElem?_toList] at h
    split at h
    · rename_i fd hf
      split at h
      · rename_i sz yb yz yd hx
        split at h
        · rename_i hsz
          have hsz : 0 < sz := Nat.le_of_ble_eq_true hsz
          have hne : ¬ sz = 0 := by omega
          split at h
          · exact ⟨_, by simp only [afieldAddr, hu, hf, hx, if_neg hne, h.1, if_true], h.2⟩
          · exact ⟨_, by simp only [afieldAddr, hu, hf, hx, if_neg hne], h⟩
          · exact h.elim
        · exact h.elim
      · exact h.elim
    · exact h.elim
  · exact h.elim

theorem vconv_ok {src dst : TypeId} {x : AV} (h : vconv E m Q src dst x) : ∃ v, aconv E src dst x = some v ∧ Q v := by
  unfold vconv at h
  split at h
  · rename_i hd; exact ⟨_, by simp only [aconv, hd, h.1.eq], h.2⟩
  · exact of_forceO h

theorem vindexAddr_ok {t : TypeId} {x ix : AV} (h : vindexAddr E H Q t x ix) : ∃ v, aindexAddr E H t x ix = some v ∧ Q v := by
  unfold vindexAddr at h
  split at h
  · rename_i elem kk i hu
    split at h
    · rename_i ysz yb yz yd hy
      split at h
      · split at h
        · rename_i hs
          have hs := Nat.eq_of_beq_eq_true hs
          exact ⟨_, by simp only [aindexAddr, hu, hy]; rw [if_pos ⟨h.1, hs, h.2.1.1, h.2.1.2⟩], h.2.2⟩
        · exact h.elim
      · exact ⟨_, by simp only [aindexAddr, hu, hy]; rw [if_pos h.1], h.2⟩
      · exact h.elim
    · exact h.elim
  · rename_i n elem kk i hu
    split at h
    · rename_i ysz yb yz yd hy
      split at h
      · exact ⟨_, by simp only [aindexAddr, hu, hy]; rw [if_pos h.2.1, if_pos h.1], h.2.2⟩
      · exact ⟨_, by simp only [aindexAddr, hu, hy]; rw [if_pos h.1], h.2⟩
      · exact h.elim
    · exact h.elim
  · exact h.elim

theorem vbound_ok {d : Nat} {x : Option AV} {K : Nat → Prop} (h : vbound d x K) : ∃ n, bound d x = some n ∧ K n := by
  unfold vbound at h
  split at h
  · exact ⟨d, rfl, h⟩
  · exact ⟨_, by simp only [bound, if_pos h.1], h.2⟩
  · exact h.elim

theorem vslice_ok {t : TypeId} {x : AV} {lo hi : Option AV} (h : vslice E H Q t x lo hi) : ∃ v, aslice E H t x lo hi = some v ∧ Q v := by
  unfold vslice at h
  split at h
  · rename_i elem cs len hu
    split at h
    · rename_i ysz yb yz yd hy
      obtain ⟨hh, h1, h⟩ := vbound_ok h
      obtain ⟨ll, h2, h⟩ := vbound_ok h
      exact ⟨_, by simp only [aslice, hu, hy, h1, h2, if_pos h.1], h.2⟩
    · exact h.elim
  · rename_i elem b ver off len sz hu
    split at h
    · rename_i ysz yb yz yd hy
      split at h
      · rename_i hs
        have hs := Nat.eq_of_beq_eq_true hs
        obtain ⟨hl, h⟩ := h
        split at h
        · obtain ⟨hh, h1, h⟩ := vbound_ok h
          have : live H b ver = true ∧ sz = ysz ∧ 0 ≤ hh ∧ hh ≤ len := ⟨hl, hs, by omega, h.1⟩
          have hb0 : bound 0 none = some 0 := rfl
          exact ⟨_, by simp only [aslice, hu, hy, h1, hb0, if_pos this]; rfl, h.2⟩
        · obtain ⟨hh, h1, h⟩ := vbound_ok h
          obtain ⟨ll, h2, h⟩ := vbound_ok h
          have : live H b ver = true ∧ sz = ysz ∧ ll ≤ hh ∧ hh ≤ len := ⟨hl, hs, by omega, h.1.2⟩
          refine ⟨_, ?_, h.2⟩
          simp only [aslice, hu, hy, h1, h2, if_pos this]
          rcases h.1.1 with h0 | h0
          · subst h0; simp
          · by_cases h00 : ll = 0
            · subst h00; simp
            · simp [h00, h0]
      · exact h.elim
    · exact h.elim
  · exact of_forceO h

theorem vopQ_ok {op : Op} {ty : TypeId} (h : vopQ E m fr H Q op ty) : ∃ v, aopQ E fr H op ty = some v ∧ Q v := by
  unfold vopQ at h
  split at h
  · split at h
    · rename_i hp; obtain ⟨v, h1, h2⟩ := vload_ok h; exact ⟨v, by simp only [aopQ, hp, h1], h2⟩
    · exact h.elim
  · split at h
    · rename_i hx hy; obtain ⟨v, h1, h2⟩ := vbin_ok h; exact ⟨v, by simp only [aopQ, hx, hy]; exact h1, h2⟩
    · exact h.elim
  · split at h
    · rename_i hx hy; obtain ⟨v, h1, h2⟩ := vconv_ok h; exact ⟨v, by simp only [aopQ, hx, hy]; exact h1, h2⟩
    · exact h.elim
  · split at h
    · rename_i hx hy hz; obtain ⟨v, h1, h2⟩ := vslice_ok h; exact ⟨v, by simp only [aopQ, hx, hy, hz]; exact h1, h2⟩
    · exact h.elim
  · split at h
    · rename_i hx hy; obtain ⟨v, h1, h2⟩ := vindexAddr_ok h; exact ⟨v, by simp only [aopQ, hx, hy]; exact h1, h2⟩
    · exact h.elim
  · split at h
    · rename_i hp; exact vnil_ok hp h
    · exact h.elim
  · split at h
    · rename_i l hp
      unfold vbuild at h
      split at h
      · rename_i cs hb; exact ⟨_, by simp only [aopQ, hp, hb], of_forceL h⟩
      · exact h.elim
    · exact h.elim
  · split at h
    · rename_i hp; obtain ⟨v, h1, h2⟩ := vfieldAddr_ok h; exact ⟨v, by simp only [aopQ, hp]; exact h1, h2⟩
    · exact h.elim
  · split at h
    · rename_i hp; obtain ⟨v, h1, h2⟩ := vlen_ok h; exact ⟨v, by simp only [aopQ, hp]; exact h1, h2⟩
    · exact h.elim
  · exact of_forceO h

end

section
variable (E : Env) (fr : Fr) (H : Heap) (Q : AV → Heap → Prop)

def vstore (t : TypeId) (p v : AV) : Prop :=
  match E.ti t, p, v.cells with
  | some x, .ptr b ver off, some vs => match H[b]? with
    | some (.cells v' e cs) => match Nat.beq vs.length x.size with
      | true => v' = ver ∧ off + vs.length ≤ cs.length ∧ forceH (H.set b (.cells ver e (splice cs off vs))) (Q (.tup []))
      | false => False
    | _ => False
  | _, _, _ => False

def vmakeSlice (t : TypeId) (l c : AV) : Prop :=
  match E.un t, l, c with
  | some (.slice elem), .int _ n, .int _ m => match E.ti elem with
    | some ⟨ysz, yby, yz, _⟩ => (0 ≤ n ∧ n ≤ m ∧ yby * m.toNat ≤ 281474976710656 ∧ m ≤ 281474976710656) ∧ forceH (H ++ [.cells 0 elem (reps n.toNat yz)]) (Q (.osl H.length 0 0 n.toNat ysz))
    | none => False
  | _, _, _ => False

def vbuildSlice (t : TypeId) (len : Nat) (parts : List (Nat × AV)) : Prop :=
  match abuildSlice E H t len parts, E.un t with
  | some (.osl b ver off l sz, H'), some (.slice elem) => match H'.getLast? with
    | some (.cells v e cs) => match Nat.beq b H.length, Nat.beq e elem with
      | true, true => forceL cs fun cs' => (H' = H ++ [.cells v e cs']) ∧ forceH (H ++ [.cells v e cs']) (Q (.osl b ver off l sz))
      | _, _ => False
    | _ => False
  | _, _ => False

def vappend (t u : TypeId) (s x : AV) : Prop :=
  match E.un t, E.un u with
  | some (.slice elem), some (.slice _) => match E.ti elem, sliceCells H x with
    | some ⟨ysz, yby, _, _⟩, some (news, m) => match Nat.blt 0 ysz with
      | true => match s with
        | .osl b ver 0 len sz => match H[b]? with
          | some (.cells v e cs) => match Nat.beq e elem, Nat.beq sz ysz with
            | true, true => v = ver ∧ (news.length = m * ysz ∧ len * sz ≤ cs.length ∧ (len + m) * yby ≤ 140737488355328 ∧ len + m ≤ 140737488355328) ∧
                forceH (H.set b (.cells (ver + 1) elem (cs.take (len * sz) ++ news))) (Q (.osl b (ver + 1) 0 (len + m) sz))
            | _, _ => False
          | _ => False
        | .nsl => news.length = m * ysz ∧ VB (decide (m = 0)) (Q .nsl H) ((m * yby ≤ 140737488355328 ∧ m ≤ 140737488355328) ∧ forceH (H ++ [.cells 0 elem news]) (Q (.osl H.length 0 0 m ysz)))
        | _ => False
      | false => False
    | _, _ => False
  | _, _ => False

def vopW (op : Op) (ty : TypeId) : Prop :=
  match op with
  | .store t a x => match ev E fr a, ev E fr x with
    | some p, some v => vstore E H Q t p v
    | _, _ => False
  | .makeSlice t l c => match ev E fr l, ev E fr c with
    | some u, some v => vmakeSlice E H Q t u v
    | _, _ => False
  | .call { callee := .builtin .append, args, argTypes } => match evs E fr args.toList with
    | some [s, x] => match argTypes[0]?, argTypes[1]? with
      | some t, some u => vappend E H Q t u s x
      | _, _ => False
    | _ => False
  | .buildSlice t n ps => match evp E fr ps.toList with
    | some l => vbuildSlice E H Q t n l
    | none => False
  | op => forceP Q (aopW E fr H op ty)

variable {E fr H Q}

theorem vstore_ok {t : TypeId} {p v : AV} (h : vstore E H Q t p v) : ∃ H', astore E H t p v = some H' ∧ Q (.tup []) H' := by
  unfold vstore at h
  split at h
  · rename_i x b ver off vs hx hv
    split at h
    · rename_i v' e cs hb
      split at h
      · rename_i h2
        have h2 := Nat.eq_of_beq_eq_true h2
        exact ⟨_, by simp only [astore, hx, hv, hb]; rw [if_pos ⟨h.1, h2, h.2.1⟩], of_forceH h.2.2⟩
      · exact h.elim
    · exact h.elim
  · exact h.elim

theorem vmakeSlice_ok {t : TypeId} {l c : AV} (h : vmakeSlice E H Q t l c) : ∃ r, amakeSlice E H t l c = some r ∧ Q r.1 r.2 := by
  unfold vmakeSlice at h
  split at h
  · rename_i hu
    split at h
    · rename_i ysz yb yz yd hy
      exact ⟨(_, _), by simp only [amakeSlice, hu, hy]; rw [if_pos h.1], of_forceH h.2⟩
    · exact h.elim
  · exact h.elim

theorem vappend_ok {t u : TypeId} {s x : AV} (h : vappend E H Q t u s x) : ∃ r, aappend E H t u s x = some r ∧ Q r.1 r.2 := by
  unfold vappend at h
  split at h
  · rename_i elem e2 hu hv
    split at h
    · rename_i ysz yb yz yd news m hy hs
      split at h
      · rename_i h0
        have h0 : 0 < ysz := Nat.le_of_ble_eq_true h0
        split at h
        · rename_i b ver len sz
          split at h
          · rename_i v e cs hb
            split at h
            · rename_i h2 h3
              have h2 := Nat.eq_of_beq_eq_true h2
              have h3 := Nat.eq_of_beq_eq_true h3
              refine ⟨(_, _), ?_, of_forceH h.2.2⟩
              simp only [aappend, hu, hv, hy, hs, hb]
              rw [if_pos ⟨h.2.1.1, h0⟩, if_pos ⟨h.1, h2, h3, h.2.1.2⟩]
            · exact h.elim
          · exact h.elim
        · by_cases hm : m = 0
          · refine ⟨(_, _), ?_, h.2.t (decide_eq_true hm)⟩
            simp only [aappend, hu, hv, hy, hs]
            rw [if_pos ⟨h.1, h0⟩, if_pos hm]
          · have h2 := h.2.f (decide_eq_false hm)
            refine ⟨(_, _), ?_, of_forceH h2.2⟩
            simp only [aappend, hu, hv, hy, hs]
            rw [if_pos ⟨h.1, h0⟩, if_neg hm, if_pos h2.1]
        · exact h.elim
      · exact h.elim
    · exact h.elim
  · exact h.elim

theorem vopW_ok {op : Op} {ty : TypeId} (h : vopW E fr H Q op ty) : ∃ r, aopW E fr H op ty = some r ∧ Q r.1 r.2 := by
  unfold vopW at h
  split at h
  · split at h
    · rename_i hp hx
      obtain ⟨H', h1, h2⟩ := vstore_ok h
      exact ⟨_, by simp only [aopW, hp, hx, h1, Option.map]; rfl, h2⟩
    · exact h.elim
  · split at h
    · rename_i hx hy
      obtain ⟨r, h1, h2⟩ := vmakeSlice_ok h
      exact ⟨r, by simp only [aopW, hx, hy]; exact h1, h2⟩
    · exact h.elim
  · split at h
    · rename_i hx
      split at h
      · rename_i ht hu
        obtain ⟨r, h1, h2⟩ := vappend_ok h
        exact ⟨r, by simp only [aopW, hx, ht, hu]; exact h1, h2⟩
      · exact h.elim
    · exact h.elim
  · split at h
    · rename_i l hp
      unfold vbuildSlice at h
      split at h
      · rename_i b ver off len sz H' elem hb hu
        split at h
        · rename_i v e cs hl
          split at h
          · have h2 := of_forceL (Q := fun cs' => (H' = H ++ [.cells v e cs']) ∧ forceH (H ++ [.cells v e cs']) (Q (.osl b ver off len sz))) h
            exact ⟨(.osl b ver off len sz, H'), by simp only [aopW, hp, hb], by dsimp only; rw [h2.1]; exact of_forceH h2.2⟩
          · exact h.elim
        · exact h.elim
      · exact h.elim
    · exact h.elim
  · exact of_forceP h

end

end Go.Proofs.Ytcdnonggajoghaa
