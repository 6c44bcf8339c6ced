/- The program logic and the contracts that a law leans on, part 8. -/
import Derived.Test.YtoijfbdjlagooaaA2
import Derived.Test.YtoijfbdjlagooaaA5
import Derived.ChangeArms
import Derived.ChangeSlices
import Derived.WideShapes
/- From a law's contract to the machine's call. -/
namespace Go.Proofs.Ytoijfbdjlagooaa
open Go Go.RowKit
set_option linter.unusedVariables false
set_option linter.unusedSimpArgs false

/-- The view ahead of a law: all that lies in memory is data. -/
def Conc.start (W : World) : Conc := Conc.alone (fun c o => W.cell? ⟨c, o, none⟩) W

theorem HR.start {E : Env} {W : World} (hG : ∀ g cs, E.G g = some cs → CR (Conc.start W) cs g 0) : HR E (Conc.start W) [] W :=
  ⟨rfl, fun b o i e => by simp at e, fun b i e => by simp [Conc.start, Conc.alone] at e, fun b b' i i' e => by simp [Conc.start, Conc.alone] at e, fun b i o ob eo ek e => by simp [Conc.start, Conc.alone] at e,
    fun _ _ _ h => h, Below.refl _ _, Nat.le_refl _, hG⟩

theorem law_walk {E : Env} {f : FuncId} {args : List AV} {cargs : List Value} {W : World} (hG : ∀ g cs, E.G g = some cs → CR (Conc.start W) cs g 0) (h : VCall E f args [] fun v H => v = .bool true) (hv : VRL (Conc.start W) args cargs) :
    Calls E.P f cargs.toArray W fun e W' => e = .returned (.bool true) ∧ Below W.heap.size W W' := by
  have h1 := callsIn_wide.1 (h.call _ cargs W (HR.start hG) hv)
  refine h1.mono fun e W' q => ?_
  obtain ⟨v, cv, K', H', rfl, hx, hH, hr, rfl⟩ := q
  simp only [VR] at hr
  subst hr
  refine ⟨rfl, ?_⟩
  have h2 := hH.below
  rw [hx.hB, hx.hw] at h2
  exact h2

/-- A slice of whole numbers, as it lies ahead of a law. -/
def IsRow (k : IntKind) (w : World) (a : Option Addr) (len cap : Nat) (zs : List Int) : Prop :=
  (a = none ∧ len = 0 ∧ cap = 0 ∧ zs = []) ∨
  ∃ x, a = some x ∧ len ≤ cap ∧ cap ≤ maxLen ∧ zs.length = cap ∧ (∀ i, i < zs.length → w.cell? (x.add i) = some (.int k (zs.getD i 0))) ∧ ∀ n ∈ zs, (Lit.int k n).wf = true

def ints (k : IntKind) (l : List Int) : List AV := l.map (.int k)
theorem VRL.ints {K : Conc} {k : IntKind} : ∀ (l : List Int), VRL K (Go.Proofs.Ytoijfbdjlagooaa.ints k l) (l.map (.int k))
  | [] => rfl
  | n :: l => ⟨_, _, rfl, rfl, VRL.ints l⟩

theorem IsRow.vr {k : IntKind} {w : World} {a : Option Addr} {len cap : Nat} {zs : List Int} (h : IsRow k w a len cap zs) : VR (Conc.start w) (.dsl (ints k (zs.take len)) len) (.slice a len cap) ∧ len ≤ maxLen ∧ (zs.take len).length = len := by
  rcases h with ⟨rfl, rfl, rfl, rfl⟩ | ⟨x, rfl, hl, hm, hz, hc, hw⟩
  · exact ⟨⟨none, 0, rfl, Nat.le_refl _, fun hne => absurd rfl hne⟩, Nat.zero_le _, rfl⟩
  · refine ⟨?_, by omega, by rw [List.length_take]; omega⟩
    simp only [VR]
    refine ⟨some x, cap, rfl, hl, fun hne => ?_⟩
    have hlen : 0 < len := by
      rcases Nat.eq_zero_or_pos len with h0 | h0
      · subst h0; exact absurd rfl hne
      · exact h0
    have hx : x = ⟨x.block, x.off, none⟩ := by
      have h0 := hc 0 (by omega)
      rw [show x.add 0 = x from rfl] at h0
      unfold World.cell? at h0
      split at h0
      · split at h0
        · cases h0
        · rename_i hs
          obtain ⟨b, o, s⟩ := x
          cases s with
          | none => rfl
          | some y => exact absurd rfl hs
      · cases h0
    refine ⟨x.block, x.off, by rw [← hx], CR.of (VRL.ints _) (fun j u hj => ?_) (List.all_eq_true.2 fun y hy => by obtain ⟨n, _, rfl⟩ := List.mem_map.1 hy; rfl)⟩
    rw [List.getElem?_map, List.getElem?_take] at hj
    split at hj
    · obtain ⟨n, hn, rfl⟩ := Option.map_eq_some_iff.1 hj
      have hjz := (List.getElem?_eq_some_iff.1 hn).1
      have h1 := hc j hjz
      rw [hx, add_off, List.getD_eq_getElem?_getD, hn] at h1
      exact h1
    · cases hj

theorem wf_u32 {n : Int} (h : (Lit.int .u32 n).wf = true) : 0 ≤ n ∧ n < 4294967296 := by
  simp only [Lit.wf, Bool.and_eq_true, decide_eq_true_eq] at h
  have h1 : IntKind.min .u32 = 0 := rfl
  have h2 : IntKind.max .u32 = 4294967295 := rfl
  omega
theorem wf_i64 {n : Int} (h : (Lit.int .i64 n).wf = true) : -9223372036854775808 ≤ n ∧ n < 9223372036854775808 := by
  simp only [Lit.wf, Bool.and_eq_true, decide_eq_true_eq] at h
  have h1 : IntKind.min .i64 = -9223372036854775808 := rfl
  have h2 : IntKind.max .i64 = 9223372036854775807 := rfl
  omega

theorem IsRow.nat {w : World} {a : Option Addr} {len cap : Nat} {zs : List Int} (h : IsRow .u32 w a len cap zs) :
    ∃ l : List Nat, VR (Conc.start w) (natL l) (.slice a len cap) ∧ l.length < 9223372036854775808 ∧ ∀ x ∈ l, x < 4294967296 := by
  obtain ⟨h1, h2, h3⟩ := h.vr
  have hw : ∀ n ∈ zs.take len, 0 ≤ n ∧ n < 4294967296 := by
    rcases h with ⟨rfl, rfl, rfl, rfl⟩ | ⟨x, rfl, hl, hm, hz, hc, hw⟩
    · intro n hn; simp at hn
    · exact fun n hn => wf_u32 (hw n (List.mem_of_mem_take hn))
  have e : ints .u32 (zs.take len) = limbs ((zs.take len).map Int.toNat) := by
    simp only [ints, limbs, List.map_map]
    refine List.map_congr_left fun n hn => ?_
    simp [Int.toNat_of_nonneg (hw n hn).1]
  refine ⟨(zs.take len).map Int.toNat, ?_, ?_, ?_⟩
  · rw [natL, ← e, List.length_map, h3]; exact h1
  · rw [List.length_map, h3]; simp only [maxLen] at h2; omega
  · intro x hx
    obtain ⟨n, hn, rfl⟩ := List.mem_map.1 hx
    have := hw n hn
    omega

end Go.Proofs.Ytoijfbdjlagooaa


/- Fractions as they lie ahead of a law. -/
namespace Go.Proofs.Ytoijfbdjlagooaa
open Go Go.RowKit
set_option linter.unusedVariables false
set_option linter.unusedSimpArgs false

theorem isRow_of {H : Type} {enc : TypeId × Value → H} {P : Program} {W : World} {held : Bool} {fuel : Nat} {t e : TypeId} {cs : List Value} {x : DataW H × List MemPlace} (ht : P.underlying t = some (.slice e)) (he : P.underlying e = some (.int .u32)) (hc : P.cellsOf e = 1)
    (h : DataW.trod enc P W 0 (fun _ => true) held fuel t cs = some x) : ∃ l : List Nat, VRL (Conc.start W) [natL l] cs ∧ l.length < 9223372036854775808 ∧ ∀ y ∈ l, y < 4294967296 := by
  have key : ∀ {a : Option Addr} {len cap : Nat} {zs : List Int}, IsRow .u32 W a len cap zs → ∃ l : List Nat, VRL (Conc.start W) [natL l] [.slice a len cap] ∧ l.length < 9223372036854775808 ∧ ∀ y ∈ l, y < 4294967296 := fun hr => by
    obtain ⟨l, h1, h2, h3⟩ := hr.nat
    exact ⟨l, ⟨_, _, rfl, h1, rfl⟩, h2, h3⟩
  rcases Go.ChangeShapes.open_ints ht he hc h with ⟨rfl, _⟩ | ⟨y, l, c, zs, rfl, _, hl, hm, hz, _, hcell, hwz⟩
  · exact key (.inl ⟨rfl, rfl, rfl, rfl⟩ : IsRow .u32 W none 0 0 [])
  · exact key (.inr ⟨_, rfl, hl, hm, by simpa using hz, hcell, hwz⟩ : IsRow .u32 W (some y) l c zs)

theorem list3 {α : Type} {l : List α} (h : l.length = 3) : l = (l.drop 0).take 1 ++ ((l.drop 1).take 1 ++ (l.drop 2).take 1) := by
  match l, h with
  | [a, b, c], _ => rfl

theorem rat_open {H : Type} {enc : TypeId × Value → H} {P : Program} {W : World} {held : Bool} {fuel : Nat} {t e : TypeId} {f0 f1 f2 : Field} {cs : List Value} {x : DataW H × List MemPlace} (ht : P.underlying t = some (.struct #[f0, f1, f2])) (h0 : P.underlying f0.type = some .bool) (h1 : P.underlying f1.type = some (.slice e)) (h2 : P.underlying f2.type = some (.slice e))
    (he : P.underlying e = some (.int .u32)) (hc : P.cellsOf e = 1) (hn : (P.cellsOf t = 3 ∧ P.cellsOf f0.type = 1 ∧ P.cellsOf f1.type = 1 ∧ P.cellsOf f2.type = 1) ∧ f0.offset = 0 ∧ f1.offset = 1 ∧ f2.offset = 2)
    (h : DataW.trod enc P W 0 (fun _ => true) held fuel t cs = some x) : ∃ r : RawQ, VRL (Conc.start W) (rawC r) cs ∧ lenQ r 9223372036854775808 := by
  obtain ⟨xs, n, _, _, hl, hlen, hf⟩ := DataW.trod_struct ht h
  obtain ⟨⟨c0, c1, c2, c3⟩, o0, o1, o2⟩ := hn
  have hx : ∀ i, i < 3 → ∃ y, xs[i]? = some y := fun i hi => ⟨xs[i]'(by rw [hlen]; exact hi), List.getElem?_eq_getElem _⟩
  obtain ⟨y0, e0⟩ := hx 0 (by decide)
  obtain ⟨y1, e1⟩ := hx 1 (by decide)
  obtain ⟨y2, e2⟩ := hx 2 (by decide)
  have g0 := hf 0 f0 rfl
  have g1 := hf 1 f1 rfl
  have g2 := hf 2 f2 rfl
  rw [e0, c1, o0] at g0
  rw [e1, c2, o1] at g1
  rw [e2, c3, o2] at g2
  obtain ⟨b, k0, _⟩ := DataW.trod_bool h0 g0
  obtain ⟨l1, k1, m1, _⟩ := isRow_of h1 he hc g1
  obtain ⟨l2, k2, m2, _⟩ := isRow_of h2 he hc g2
  refine ⟨⟨b, l1, l2⟩, ?_, m1, m2⟩
  rw [list3 (hl.trans c0), k0]
  exact ⟨_, _, rfl, rfl, VRL.append k1 k2⟩
end Go.Proofs.Ytoijfbdjlagooaa
