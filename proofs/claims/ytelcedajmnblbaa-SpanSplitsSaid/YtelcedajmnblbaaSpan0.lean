/- A part of the proof: see the law's own text. Conditions: none. -/
import Derived.Test.YtelcedajmnblbaaAm41
import Derived.Test.YtelcedajmnblbaaProg
import Derived.KernelRfl
set_option linter.unusedVariables false
set_option linter.unusedSimpArgs false
namespace Sn
open Go Go.AM Go.Proofs
theorem follows : Try.prog.follows .mixedOrders = true := by kernel_rfl
theorem names : namesOk Try.prog = true := by kernel_rfl
abbrev i64 : K := .int .i64
abbrev spanK : List K := [i64, i64]
abbrev Sp := Int × Int
def spD (p : Sp) : D := .l [.i p.1, .i p.2]
def sp (d : D) : Sp := (fld d 0, fld d 1)
def pairs (d : D) : List Sp := d.toL.map sp
theorem spD_def (p : Sp) : spD p = .l [.i p.1, .i p.2] := rfl
theorem sp_l (a b : Int) : sp (.l [.i a, .i b]) = (a, b) := rfl
theorem sp_spD (p : Sp) : sp (spD p) = p := rfl
theorem pairs_map (l : List Sp) : pairs (.l (l.map spD)) = l := by
  simp only [pairs, D.toL_l, List.map_map]
  have : sp ∘ spD = id := by funext p; rfl
  rw [this, List.map_id]
theorem row_norm (d : D) : Sh.norm (.row spanK) d = .l ((pairs d).map spD) := by
  simp only [Sh.norm, pairs, List.map_map]
  congr 1
  apply List.map_congr_left
  intro e _
  have h : ∀ l : List D, (l.tail.headD default) = (l[1]?).getD default := by
    intro l
    match l with
    | [] => rfl
    | [_] => rfl
    | _ :: _ :: _ => rfl
  have h0 : ∀ l : List D, (l.headD default) = (l[0]?).getD default := by
    intro l
    cases l <;> rfl
  simp only [normL, normK, Function.comp, spD, sp, fld, fldD, h, h0]
theorem norm_k (k : K) (d : D) : Sh.norm (.k k) d = normK k d := rfl
theorem norm_agg (ks : List K) (d : D) : Sh.norm (.agg ks) d = .l (normL ks d.toL) := rfl
theorem toI_ite {C : FuncId → Option Con} {ρ : Nat → D} {c x y : X} : ((X.ite c x y).den C ρ).toI = (X.ite c x y).I C ρ := rfl
theorem BTi_eqb {C : FuncId → Option Con} {ρ : Nat → D} {x y : X} : ((X.eqb x y).B C ρ = true) = (x.B C ρ = true ↔ y.B C ρ = true) := by
  rw [BT_eqb, Bool.eq_iff_iff]
theorem BFi_eqb {C : FuncId → Option Con} {ρ : Nat → D} {x y : X} : ((X.eqb x y).B C ρ = false) = ¬ (x.B C ρ = true ↔ y.B C ρ = true) := by
  rw [BF_eqb, ne_eq, Bool.eq_iff_iff]
abbrev MaySp (a n : Int) : Prop := 0 ≤ a ∧ a ≤ 1099511627776 ∧ 0 ≤ n ∧ n ≤ 1099511627776 - a
def mayS (p : Sp) : Bool := decide (MaySp p.1 p.2)
theorem mayS_T (p : Sp) : (mayS p = true) = MaySp p.1 p.2 := decide_eq_true_eq
theorem mayS_F (p : Sp) : (mayS p = false) = ¬ MaySp p.1 p.2 := propext decide_eq_false_iff_not
def endS (a n : Int) : Int := if MaySp a n then a + n else 0
def meetA (a n b m : Int) : Int := if MaySp a n ∧ MaySp b m ∧ max a b < min (a + n) (b + m) then max a b else 0
def meetN (a n b m : Int) : Int := if MaySp a n ∧ MaySp b m ∧ max a b < min (a + n) (b + m) then min (a + n) (b + m) - max a b else 0
def meetS (a n b m : Int) : Sp := (meetA a n b m, meetN a n b m)
/-- the first without the other one -/
def cutS (a n b m : Int) : List Sp :=
  if MaySp a n ∧ MaySp b m then
    if meetN a n b m = 0 then (if 0 < n then [(a, n)] else [])
    else (if a < meetA a n b m then [(a, meetA a n b m - a)] else []) ++ (if meetA a n b m + meetN a n b m < a + n then [(meetA a n b m + meetN a n b m, a + n - (meetA a n b m + meetN a n b m))] else [])
  else []
abbrev at1 {α : Type} (f : Int → Int → α) (ds : List D) : α := f (sp (ds.headD default)).1 (sp (ds.headD default)).2
abbrev at2 {α : Type} (f : Int → Int → Int → Int → α) (ds : List D) : α := f (sp (ds.headD default)).1 (sp (ds.headD default)).2 (sp (ds.tail.headD default)).1 (sp (ds.tail.headD default)).2
def cMay : Con := { ins := [.agg spanK], outs := [.k .bool], pre := fun _ => true, f := fun ds => [.b (mayS (sp (ds.headD default)))], tot := true }
def cMeet : Con := { ins := [.agg spanK, .agg spanK], outs := [.agg spanK], pre := fun _ => true, f := fun ds => [spD (at2 meetS ds)], tot := true }
def both (ds : List D) : Bool := mayS (sp (ds.headD default)) && mayS (sp (ds.tail.headD default))
def cRMeet : Con := { ins := [.agg spanK, .agg spanK], outs := [.agg spanK], pre := both, f := fun ds => [spD (at2 meetS ds)] }
def cEnd : Con := { ins := [.agg spanK], outs := [.k i64], pre := fun _ => true, f := fun ds => [.i (at1 endS ds)], tot := true }
def cCut : Con := { ins := [.agg spanK, .agg spanK], outs := [.row spanK], pre := fun _ => true, f := fun ds => [.l ((at2 cutS ds).map spD)], tot := true }
def cRCut : Con := { ins := [.agg spanK, .agg spanK], outs := [.row spanK], pre := both, f := fun ds => [.l ((at2 cutS ds).map spD)] }
def shortB (ds : List D) : Bool := decide ((pairs (ds.headD default)).length ≤ 1152921504606846976)
def cSame : Con := { ins := [.row spanK, .row spanK], outs := [.k .bool], pre := shortB, f := fun ds => [.b (decide (pairs (ds.headD default) = pairs (ds.tail.headD default)))] }
end Sn
