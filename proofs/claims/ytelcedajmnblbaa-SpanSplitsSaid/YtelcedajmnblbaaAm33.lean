/-
  AM, part 33: a program's environment, with the contracts proved so far.
-/
import Derived.Test.YtelcedajmnblbaaAm32
set_option linter.unusedVariables false
set_option linter.unusedSimpArgs false
namespace Go.AM

def infoOf (P : Program) (t : TypeId) : Option (Nat × Nat × Value) :=
  match P.info? t with
  | some i => match i.zero with
    | some z => some (i.size, i.bytes, z)
    | none => none
  | none => none

abbrev Cons := List (FuncId × Con)
def conOf (l : Cons) (g : FuncId) : Option Con := l.lookup g

def mkE (P : Program) (l : Cons) : Env :=
  { P := P, under := fun t => P.underlying t, info := infoOf P, func := fun f => P.funcs[f]?, spec := fun g => match conOf l g with | some c => some (specOf c) | none => none }
def mkS (P : Program) (l : Cons) : SE := { E := mkE P l, con := conOf l, own := fun g => (conOf l g).isNone }

def namesOk (P : Program) : Bool := P.funcs.toList.all fun f => !(f.name == "runtime.NumGoroutine")

def ConsOk (P : Program) (l : Cons) : Prop := ∀ g c, conOf l g = some c → SpecOk P g (specOf c)

theorem ConsOk.nil (P : Program) : ConsOk P [] := fun g c h => by simp [conOf] at h
theorem ConsOk.cons {P : Program} {l : Cons} (h : ConsOk P l) {g : FuncId} {c : Con} (hc : SpecOk P g (specOf c)) : ConsOk P ((g, c) :: l) := fun g' c' h' => by
  simp only [conOf, List.lookup_cons] at h'
  split at h'
  · rename_i e
    obtain rfl := Option.some.inj h'
    have : g' = g := by simpa using e
    subst this; exact hc
  · exact h g' c' h'

theorem mkS_ok {P : Program} (hm : P.follows .mixedOrders = true) (hn : namesOk P = true) {l : Cons} (hl : ConsOk P l) : (mkS P l).Ok := by
  have hspec : ∀ g s, (mkE P l).spec g = some s → ∃ c, conOf l g = some c ∧ s = specOf c := fun g s h => by
    simp only [mkE] at h
    split at h
    · rename_i c hc; exact ⟨c, hc, (Option.some.inj h).symm⟩
    · cases h
  refine ⟨⟨⟨fun _ _ h => h, fun t n b z h => ?_, fun _ _ h => h, hm⟩, fun g s h args h₁ v h' hs => ?_, fun g s h => ?_, fun g fn h => ?_⟩, fun g c h => ?_, fun g h => ?_⟩
  · have h : infoOf P t = some (n, b, z) := h
    unfold infoOf at h
    split at h
    · rename_i i hi
      split at h
      · rename_i z' hz
        simp only [Option.some.injEq, Prod.mk.injEq] at h
        obtain ⟨rfl, rfl, rfl⟩ := h
        exact ⟨i, hi, rfl, rfl, hz⟩
      · cases h
    · cases h
  · obtain ⟨c, _, rfl⟩ := hspec g s h
    exact specOf_kept hs
  · obtain ⟨c, hc, rfl⟩ := hspec g s h
    exact hl g c hc
  · have := List.all_eq_true.1 hn fn (List.mem_of_getElem? (i := g) (by have h' : P.funcs[g]? = some fn := h; simpa using h'))
    simpa using this
  · have h' : conOf l g = some c := h
    simp only [mkS, mkE, h']
  · have h' : (conOf l g).isNone = true := h
    simp only [mkS, mkE]
    split
    · rename_i c hc; rw [hc] at h'; cases h'
    · rfl

/-- one more contract, of a function without cuts -/
theorem ConsOk.tree {P : Program} (hm : P.follows .mixedOrders = true) (hn : namesOk P = true) {l : Cons} (hl : ConsOk P l) {g : FuncId} {fn : Func} {body : Code} {c : Con} (hf : P.funcs[g]? = some fn) (hb : fn.body = some body) (n : Nat)
    {T : Tree} (hT : treeOf (mkS P l) n fn body c = T)
    (hv : ∀ ds, c.ok ds = true → norms c.ins ds = ds → VC { C := conOf l, J := fun _ _ => False, ms := fun _ _ => 0, R := fun d => d.toL = norms c.outs (c.f ds) } (fun _ => (0, fun _ => default)) (ρof ds) T) :
    ConsOk P ((g, c) :: l) := by
  have hS := mkS_ok hm hn hl
  refine hl.cons (Canon.specOk ⟨fn, hf, hS.fine.name g fn hf, by rw [hb]; rfl⟩ ?_)
  exact Canon.of_tree (S := mkS P l) hS hf hb n (fun ds h1 h2 => by rw [hT]; exact hv ds h1 h2)

end Go.AM
