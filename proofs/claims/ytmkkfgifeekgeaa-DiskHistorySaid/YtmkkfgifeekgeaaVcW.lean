/- Lengths of what is handed to a function are bounded. Conditions: none. -/
import Derived.Test.YtmkkfgifeekgeaaVcV
namespace Go.Avc
open Go.RowKit

mutual
def PV.bd : PV → Prop
  | .sl _ rows => rows.length ≤ 9223372036854775807 ∧ bdLL rows
  | .agg cs => bdL cs
  | .ptr cs => bdL cs
  | .tup cs => bdL cs
  | .fn _ cs => bdL cs
  | .val _ => True
def bdL : List PV → Prop
  | [] => True
  | p :: l => p.bd ∧ bdL l
def bdLL : List (List PV) → Prop
  | [] => True
  | r :: l => bdL r ∧ bdLL l
end

theorem bdL_iff : ∀ {l : List PV}, bdL l ↔ ∀ p ∈ l, p.bd
  | [] => by simp [bdL]
  | p :: l => by simp [bdL, bdL_iff (l := l)]
theorem bdLL_iff : ∀ {l : List (List PV)}, bdLL l ↔ ∀ r ∈ l, ∀ p ∈ r, p.bd
  | [] => by simp [bdLL]
  | p :: l => by simp [bdLL, bdLL_iff (l := l), bdL_iff]

theorem PR.bd {w : World} {A : Nat → Prop} {p : PV} {v : Value} (h : PR w A p v) : p.bd := by
  have mem : ∀ {cs : List PV}, (∀ (j : Nat) (p : PV), cs[j]? = some p → p.bd) → bdL cs := fun h => bdL_iff.2 fun p hp => by
    obtain ⟨j, hj, rfl⟩ := List.getElem_of_mem hp
    exact h j _ (List.getElem?_eq_getElem hj)
  induction h with
  | val => simp [PV.bd]
  | slnil => simp [PV.bd, bdLL]
  | sl sz rows a cap us hc hm _ _ _ _ _ ih =>
    simp only [PV.bd]
    refine ⟨by unfold maxLen at hm; omega, bdLL_iff.2 fun r hr p hp => ?_⟩
    obtain ⟨i, hi, rfl⟩ := List.getElem_of_mem hr
    obtain ⟨j, hj, rfl⟩ := List.getElem_of_mem hp
    exact ih i _ j _ (List.getElem?_eq_getElem hi) (List.getElem?_eq_getElem hj)
  | ptr cs a us _ _ _ ih => simp only [PV.bd]; exact mem ih
  | agg cs vs _ _ ih => simp only [PV.bd]; exact mem ih
  | tup cs vs _ _ ih => simp only [PV.bd]; exact mem ih
  | fn f cs vs _ _ ih => simp only [PV.bd]; exact mem ih

theorem PSpec.bd {P : Program} {f : FuncId} {args : List PV} {res : PV} (hcall : ∀ (vs : Array Value) (w : World), (callFunc f vs).run P w = .ok (.enter f vs) w) (h : bdL args → PSpec P f args res) : PSpec P f args res :=
  ⟨hcall, fun w X vs hsz hv hX => (h (bdL_iff.2 fun p hp => by
    obtain ⟨j, hj, rfl⟩ := List.getElem_of_mem hp
    exact (hv j _ (List.getElem?_eq_getElem hj)).bd)).2 w X vs hsz hv hX⟩
end Go.Avc
