/- From a contract in abstract values to a given statement of the second form: the arguments' reading is opened into abstract values, and what they hold together is bounded. Conditions: none. -/
import Derived.Test.YtcgpikmaapallaaWd
import Derived.Test.YtcgpikmaapallaaRows
import Derived.JoinedCond
import Derived.Deep.CondSized
import Derived.ProofKit
import Derived.SizedLaws
import Derived.Carry
import Derived.KernelRfl
import Derived.Test.YtcgpikmaapallaaWh
set_option linter.unusedSimpArgs false
set_option linter.unusedVariables false
namespace Go.Avc
open Go.ChangeShapes Go.WideShapes Go.RowKit

open Go.Proofs.Ytcgpikmaapallaa
mutual
def pbulk : PV → Nat
  | .val (.string s) => s.size + 1
  | .val _ => 1
  | .sl _ rows => pbulkR rows + 1
  | .agg cs => pbulkL cs
  | _ => 0
def pbulkL : List PV → Nat
  | [] => 0
  | p :: l => pbulk p + pbulkL l
def pbulkR : List (List PV) → Nat
  | [] => 0
  | r :: l => pbulkL r + pbulkR l
end
theorem pbulkL_append (a b : List PV) : pbulkL (a ++ b) = pbulkL a + pbulkL b := by
  induction a with
  | nil => simp [pbulkL]
  | cons p l ih => simp only [List.cons_append, pbulkL, ih]; omega
theorem pbulkR_append (a b : List (List PV)) : pbulkR (a ++ b) = pbulkR a + pbulkR b := by
  induction a with
  | nil => simp [pbulkR]
  | cons p l ih => simp only [List.cons_append, pbulkR, ih]; omega
theorem pbulkL_flatten (l : List (List PV)) : pbulkL l.flatten = pbulkR l := by
  induction l with
  | nil => rfl
  | cons r l ih => simp only [List.flatten_cons, pbulkL_append, pbulkR, ih]
theorem bulk_one {H : Type} (d : DataW H) : 1 ≤ Rows.uptoBulk d := by
  cases d with
  | lit l => cases l <;> simp [Rows.uptoBulk]
  | nil => simp [Rows.uptoBulk]
  | ptr d => simp [Rows.uptoBulk]
  | slice elems spare => simp [Rows.uptoBulk]
  | agg parts => simp [Rows.uptoBulk]
  | iface t d => simp [Rows.uptoBulk]
  | map entries => simp [Rows.uptoBulk]
  | held h => simp [Rows.uptoBulk]
theorem bulkAll_append {H : Type} (l r : List (DataW H)) : Rows.uptoBulkAll (l ++ r) = Rows.uptoBulkAll l + Rows.uptoBulkAll r := by
  induction l with
  | nil => simp [Rows.uptoBulkAll]
  | cons x l ih => simp only [List.cons_append, Rows.uptoBulkAll, ih]; omega
theorem bulkR_range {H : Type} {g : Nat → List PV} : ∀ {l : List (DataW H)} {n : Nat}, l.length = n → (∀ i (hi : i < l.length), pbulkL (g i) ≤ Rows.uptoBulk l[i]) → pbulkR ((List.range n).map g) ≤ Rows.uptoBulkAll l := by
  intro l
  induction l generalizing g with
  | nil => intro n hn _; simp at hn; subst hn; simp [pbulkR]
  | cons d l ih =>
    intro n hn h
    simp only [List.length_cons] at hn
    subst hn
    rw [List.range_succ_eq_map, List.map_cons, List.map_map]
    simp only [pbulkR, Rows.uptoBulkAll]
    have h0 := h 0 (by simp)
    have h1 := ih (g := g ∘ Nat.succ) (n := l.length) rfl (fun i hi => by have := h (i + 1) (by simp; omega); simpa using this)
    simp only [List.getElem_cons_zero] at h0
    omega

def Fits (W : World) (cs : List Value) (ps : List PV) : Prop :=
  ps.length = cs.length ∧ ∀ (j : Nat) (p : PV), ps[j]? = some p → ∃ v, cs[j]? = some v ∧ PR W (fun _ => False) p v ∧ v.oneCell' = true

theorem Fits.nil (W : World) : Fits W [] [] := ⟨rfl, fun j p h => by simp at h⟩
theorem Fits.one {W : World} {v : Value} {p : PV} (h : PR W (fun _ => False) p v) (h1 : v.oneCell' = true) : Fits W [v] [p] :=
  ⟨rfl, fun j q hq => by
    cases j with
    | zero => simp only [List.getElem?_cons_zero, Option.some.injEq] at hq; subst hq; exact ⟨v, rfl, h, h1⟩
    | succ j => simp at hq⟩
theorem Fits.append {W : World} {c c' : List Value} {p p' : List PV} (h : Fits W c p) (h' : Fits W c' p') : Fits W (c ++ c') (p ++ p') := by
  refine ⟨by simp [h.1, h'.1], fun j q hq => ?_⟩
  by_cases hj : j < p.length
  · rw [List.getElem?_append_left hj] at hq
    rw [List.getElem?_append_left (by rw [← h.1]; exact hj)]
    exact h.2 j q hq
  · rw [List.getElem?_append_right (by omega)] at hq
    rw [List.getElem?_append_right (by rw [← h.1]; omega), ← h.1]
    exact h'.2 _ q hq

/-- A type's values open into abstract cells of which Q holds. -/
def OpnF (P : Program) (fuel : Nat) (t : TypeId) (Q : List PV → Prop) : Prop :=
  ∀ (H : Type) (enc : TypeId × Value → H) (W : World) (cs : List Value) (d : DataW H) (ms : List MemPlace),
    DataW.trod enc P W 0 (fun _ => true) true fuel t cs = some (d, ms) → (∀ n ∈ d.weights P t, n ≤ reachBytes) → ∃ ps, Fits W cs ps ∧ Q ps ∧ pbulkL ps ≤ Rows.uptoBulk d
def Opn (P : Program) (t : TypeId) (Q : List PV → Prop) : Prop := ∀ fuel, OpnF P fuel t Q

theorem OpnF.mono {P : Program} {fuel : Nat} {t : TypeId} {Q Q' : List PV → Prop} (h : OpnF P fuel t Q) (hQ : ∀ ps, Q ps → Q' ps) : OpnF P fuel t Q' :=
  fun H enc W cs d ms hd hw => by
    obtain ⟨ps, h1, h2, h3⟩ := h H enc W cs d ms hd hw
    exact ⟨ps, h1, hQ ps h2, h3⟩
theorem Opn.mono {P : Program} {t : TypeId} {Q Q' : List PV → Prop} (h : Opn P t Q) (hQ : ∀ ps, Q ps → Q' ps) : Opn P t Q' := fun fuel => (h fuel).mono hQ
theorem OpnF.zero {P : Program} {t : TypeId} {Q : List PV → Prop} : OpnF P 0 t Q := fun H enc W cs d ms hd _ => by simp [DataW.trod] at hd
theorem Opn.of_step {P : Program} {t : TypeId} {Q : List PV → Prop} (h : ∀ fuel, OpnF P (fuel + 1) t Q) : Opn P t Q := fun fuel => by
  cases fuel with
  | zero => exact OpnF.zero
  | succ n => exact h n

theorem OpnF.bool {P : Program} {fuel : Nat} {t : TypeId} (ht : P.underlying t = some .bool) : OpnF P fuel t (fun ps => ∃ b, ps = [.val (.bool b)]) := by
  intro H enc W cs d ms hd _
  cases fuel with
  | zero => simp [DataW.trod] at hd
  | succ fuel =>
    simp only [DataW.trod, ht] at hd
    rcases cs with _ | ⟨v, _ | ⟨v2, r⟩⟩
    · simp at hd
    · cases v <;> simp at hd
      exact ⟨_, Fits.one (.val _) rfl, ⟨_, rfl⟩, by simp only [pbulkL, pbulk]; exact bulk_one _⟩
    · simp at hd
theorem OpnF.int {P : Program} {fuel : Nat} {t : TypeId} {k : IntKind} (ht : P.underlying t = some (.int k)) : OpnF P fuel t (fun ps => ∃ n, ps = [.val (.int k n)] ∧ k.has n) := by
  intro H enc W cs d ms hd _
  cases fuel with
  | zero => simp [DataW.trod] at hd
  | succ fuel =>
    simp only [DataW.trod, ht] at hd
    rcases cs with _ | ⟨v, _ | ⟨v2, r⟩⟩
    · simp at hd
    · cases v <;> simp at hd
      obtain ⟨⟨rfl, hwf⟩, _⟩ := hd
      exact ⟨_, Fits.one (.val _) rfl, ⟨_, rfl, by simpa [Lit.wf, IntKind.has] using hwf⟩, by simp only [pbulkL, pbulk]; exact bulk_one _⟩
    · simp at hd
theorem OpnF.string {P : Program} {fuel : Nat} {t : TypeId} (ht : P.underlying t = some .string) : OpnF P fuel t (fun ps => ∃ s, ps = [.val (.string s)] ∧ s.size ≤ reachBytes) := by
  intro H enc W cs d ms hd hw
  cases fuel with
  | zero => simp [DataW.trod] at hd
  | succ fuel =>
    simp only [DataW.trod, ht] at hd
    rcases cs with _ | ⟨v, _ | ⟨v2, r⟩⟩
    · simp at hd
    · cases v <;> simp at hd
      obtain ⟨_, rfl, _⟩ := hd
      exact ⟨_, Fits.one (.val _) rfl, ⟨_, rfl, by simpa [DataW.weights] using hw⟩, by simp only [pbulkL, pbulk, Rows.uptoBulk, Array.length_toList]; exact Nat.le_refl _⟩
    · simp at hd

/-- Parts of a row, each of its own kind. -/
def SeqQ : List (List PV → Prop) → List PV → Prop
  | [], ps => ps = []
  | Q :: Qs, ps => ∃ a, Q a ∧ ∃ b, SeqQ Qs b ∧ ps = a ++ b
def All2 {α β : Type} (R : α → β → Prop) : List α → List β → Prop
  | [], [] => True
  | a :: l, b :: m => R a b ∧ All2 R l m
  | _, _ => False
def contig (P : Program) (tot : Nat) : Nat → List Field → Bool
  | o, [] => o == tot
  | o, f :: fs => f.offset == o && contig P tot (o + P.cellsOf f.type) fs

theorem open_fields {H : Type} {enc : TypeId × Value → H} {P : Program} {W : World} {fuel : Nat} {cs : List Value} : ∀ {fs : List Field} {Qs : List (List PV → Prop)} {o : Nat} {xs : List (DataW H × List MemPlace)},
    contig P cs.length o fs = true → All2 (OpnF P fuel) (fs.map (·.type)) Qs → fs.mapM (fun f => DataW.trod enc P W 0 (fun _ => true) true fuel f.type ((cs.drop f.offset).take (P.cellsOf f.type))) = some xs →
    (∀ n ∈ DataW.weightsEach P (fs.map (·.type)) (xs.map (·.1)), n ≤ reachBytes) → ∃ ps, Fits W (cs.drop o) ps ∧ SeqQ Qs ps ∧ pbulkL ps ≤ Rows.uptoBulkAll (xs.map (·.1))
  | [], [], o, xs, hc, _, _, _ => by
    simp only [contig, beq_iff_eq] at hc
    exact ⟨[], by rw [List.drop_of_length_le (by omega)]; exact Fits.nil W, rfl, by simp [pbulkL]⟩
  | [], _ :: _, _, _, _, h, _, _ => h.elim
  | _ :: _, [], _, _, _, h, _, _ => h.elim
  | f :: fs, Q :: Qs, o, xs, hc, h, hm, hw => by
    simp only [contig, Bool.and_eq_true, beq_iff_eq] at hc
    obtain ⟨rfl, hc⟩ := hc
    rw [List.mapM_cons] at hm
    cases hx : DataW.trod enc P W 0 (fun _ => true) true fuel f.type ((cs.drop f.offset).take (P.cellsOf f.type)) with
    | none => simp [hx] at hm
    | some x =>
      cases hxs : fs.mapM (fun f => DataW.trod enc P W 0 (fun _ => true) true fuel f.type ((cs.drop f.offset).take (P.cellsOf f.type))) with
      | none => simp [hx, hxs] at hm
      | some ys =>
        simp [hx, hxs] at hm
        subst hm
        simp only [List.map_cons, DataW.weightsEach, List.mem_append] at hw
        obtain ⟨a, ha, hqa, hza⟩ := h.1 H enc W _ x.1 x.2 hx (fun n hn => hw n (.inl hn))
        obtain ⟨b, hb, hqb, hzb⟩ := open_fields hc h.2 hxs (fun n hn => hw n (.inr hn))
        refine ⟨a ++ b, ?_, ⟨a, hqa, b, hqb, rfl⟩, by simp only [pbulkL_append, List.map_cons, Rows.uptoBulkAll]; omega⟩
        have := ha.append hb
        rwa [← List.drop_drop, List.take_append_drop] at this

theorem OpnF.struct {P : Program} {fuel : Nat} {t : TypeId} {fs : Array Field} {Qs : List (List PV → Prop)} (ht : P.underlying t = some (.struct fs)) (hc : contig P (P.cellsOf t) 0 fs.toList = true)
    (h : All2 (OpnF P fuel) (fs.toList.map (·.type)) Qs) : OpnF P (fuel + 1) t (SeqQ Qs) := by
  intro H enc W cs d ms hd hw
  have hd' : (if cs.length = P.cellsOf t then (fs.toList.mapM fun f => DataW.trod enc P W 0 (fun _ => true) true fuel f.type ((cs.drop f.offset).take (P.cellsOf f.type))).map fun xs => ((.agg (xs.map (·.1)), xs.flatMap (·.2)) : DataW H × List MemPlace) else none) = some (d, ms) := by
    rw [← hd]
    simp only [DataW.trod, ht]
  split at hd'
  · rename_i hl
    rw [← hl] at hc
    cases hxs : fs.toList.mapM (fun f => DataW.trod enc P W 0 (fun _ => true) true fuel f.type ((cs.drop f.offset).take (P.cellsOf f.type))) with
    | none => rw [hxs] at hd'; simp at hd'
    | some xs =>
      rw [hxs] at hd'
      simp only [Option.map_some, Option.some.injEq, Prod.mk.injEq] at hd'
      obtain ⟨rfl, _⟩ := hd'
      simp only [DataW.weights, ht] at hw
      obtain ⟨ps, h1, h2, h3⟩ := open_fields hc h hxs hw
      exact ⟨ps, h1, h2, by simp only [Rows.uptoBulk]; omega⟩
  · cases hd'
theorem Opn.struct {P : Program} {t : TypeId} {fs : Array Field} {Qs : List (List PV → Prop)} (ht : P.underlying t = some (.struct fs)) (hc : contig P (P.cellsOf t) 0 fs.toList = true)
    (h : ∀ fuel, All2 (OpnF P fuel) (fs.toList.map (·.type)) Qs) : Opn P t (SeqQ Qs) := Opn.of_step fun fuel => OpnF.struct ht hc (h fuel)
theorem Opn.bool {P : Program} {t : TypeId} (ht : P.underlying t = some .bool) : Opn P t (fun ps => ∃ b, ps = [.val (.bool b)]) := fun _ => OpnF.bool ht
theorem Opn.int {P : Program} {t : TypeId} {k : IntKind} (ht : P.underlying t = some (.int k)) : Opn P t (fun ps => ∃ n, ps = [.val (.int k n)] ∧ k.has n) := fun _ => OpnF.int ht
theorem Opn.string {P : Program} {t : TypeId} (ht : P.underlying t = some .string) : Opn P t (fun ps => ∃ s, ps = [.val (.string s)] ∧ s.size ≤ reachBytes) := fun _ => OpnF.string ht

theorem cells?_get {w : World} {base n : Nat} {a : Addr} {ci : List Value} (h : w.cells? base a n = some ci) : ci.length = n ∧ ∀ j, j < n → w.cell? (a.add j) = ci[j]? := by
  unfold World.cells? at h
  split at h
  · refine ⟨by simpa using mapM_some_length h, fun j hj => ?_⟩
    exact mapM_some_get h j j (by simp [hj])
  · cases h
theorem cell_lt {w : World} {a : Addr} {v : Value} (h : w.cell? a = some v) : a.block < w.heap.size := by
  unfold World.cell? at h
  split at h
  · rename_i h1
    exact (Array.getElem?_eq_some_iff.1 h1).1
  · cases h
theorem choose_lt {α : Type} [Inhabited α] {n : Nat} {R : Nat → α → Prop} (h : ∀ i, i < n → ∃ x, R i x) : ∃ g : Nat → α, ∀ i, i < n → R i (g i) :=
  ⟨fun i => if hi : i < n then Classical.choose (h i hi) else default, fun i hi => by simp only [dif_pos hi]; exact Classical.choose_spec (h i hi)⟩
theorem weights_all {H : Type} {P : Program} {e : TypeId} : ∀ {l : List (DataW H)} {d : DataW H}, d ∈ l → ∀ n ∈ d.weights P e, n ∈ DataW.weightsAll P e l
  | _ :: _, _, .head _, n, hn => by simp only [DataW.weightsAll, List.mem_append]; exact .inl hn
  | _ :: _, _, .tail _ h, n, hn => by simp only [DataW.weightsAll, List.mem_append]; exact .inr (weights_all h n hn)

theorem OpnF.slice {P : Program} {fuel : Nat} {t e : TypeId} {n : Nat} {Q : List PV → Prop} (ht : P.underlying t = some (.slice e)) (hn : P.cellsOf e = n) (hpos : 0 < n) (h : OpnF P fuel e Q) :
    OpnF P (fuel + 1) t (fun ps => ∃ rows, ps = [.sl n rows] ∧ (∀ r ∈ rows, Q r) ∧ rows.length * P.bytesOf e ≤ reachBytes) := by
  subst hn
  intro H enc W cs d ms hd hw
  simp only [DataW.trod, ht] at hd
  rcases cs with _ | ⟨v, _ | ⟨v2, r⟩⟩
  · simp at hd
  · cases v <;> try (simp at hd; done)
    rename_i ao len cap
    cases ao with
    | none =>
      rcases len with _ | len
      · rcases cap with _ | cap
        · exact ⟨_, Fits.one (.slnil _) rfl, ⟨[], rfl, by simp, by simp⟩, by simp only [pbulkL, pbulk, pbulkR]; exact bulk_one _⟩
        · simp at hd
      · simp at hd
    | some a =>
      simp only at hd
      split at hd
      · rename_i hc
        obtain ⟨_, hlc, hcm⟩ := hc
        cases hel : (List.range len).mapM (fun i => (W.cells? 0 (a.add (i * P.cellsOf e)) (P.cellsOf e)).bind (DataW.trod enc P W 0 (fun _ => true) true fuel e)) with
        | none => rw [hel] at hd; simp at hd
        | some elems =>
          rw [hel] at hd
          simp only [if_true, Option.bind_some] at hd
          cases hre : (List.range (cap - len)).mapM (fun j => (W.cells? 0 (a.add ((len + j) * P.cellsOf e)) (P.cellsOf e)).bind (DataW.trod enc P W 0 (fun _ => true) true fuel e)) with
          | none => rw [hre] at hd; simp at hd
          | some rest =>
            rw [hre] at hd
            simp only [Option.map_some, Option.some.injEq, Prod.mk.injEq] at hd
            obtain ⟨rfl, _⟩ := hd
            simp only [DataW.weights, ht, List.mem_cons, List.mem_append] at hw
            have hlen : elems.length = len := by simpa using mapM_some_length hel
            have key : ∀ i, i < len → ∃ row : List PV, (Q row ∧ ∀ hi : i < (elems.map (·.1)).length, pbulkL row ≤ Rows.uptoBulk (elems.map (·.1))[i]) ∧ row.length = P.cellsOf e ∧ ∀ (j : Nat) (p : PV), row[j]? = some p → ∃ v, W.cell? (a.add (i * P.cellsOf e + j)) = some v ∧ PR W (fun _ => False) p v ∧ v.oneCell' = true := by
              intro i hi
              have h1 := mapM_some_get hel i i (by simp [hi])
              cases hci : W.cells? 0 (a.add (i * P.cellsOf e)) (P.cellsOf e) with
              | none => rw [hci] at h1; simp [hlen, hi] at h1
              | some ci =>
                rw [hci] at h1
                have hx : elems[i]? = some elems[i] := List.getElem?_eq_getElem (by omega)
                rw [hx, Option.bind_some] at h1
                obtain ⟨row, hf, hq, hz⟩ := h H enc W ci elems[i].1 elems[i].2 h1 (fun n hn => hw n (.inr (.inl (weights_all (List.mem_map.2 ⟨elems[i], List.getElem_mem _, rfl⟩) n hn))))
                obtain ⟨hcl, hcg⟩ := cells?_get hci
                refine ⟨row, ⟨hq, fun _ => by simpa using hz⟩, by rw [hf.1, hcl], fun j p hp => ?_⟩
                obtain ⟨v, hv, h2, h3⟩ := hf.2 j p hp
                refine ⟨v, ?_, h2, h3⟩
                have hj := (List.getElem?_eq_some_iff.1 hp).1
                rw [← Addr.add_add, hcg j (by rw [← hcl, ← hf.1]; exact hj)]
                exact hv
            obtain ⟨g, hg⟩ := choose_lt key
            have hrow : ∀ (i : Nat) (row : List PV), ((List.range len).map g)[i]? = some row → i < len ∧ row = g i := by
              intro i row hr
              simp only [List.getElem?_map, Option.map_eq_some_iff, List.getElem?_eq_some_iff, List.length_range, List.getElem_range] at hr
              obtain ⟨_, ⟨hi, rfl⟩, rfl⟩ := hr
              exact ⟨hi, rfl⟩
            have hwl : len * P.bytesOf e ≤ reachBytes := by
              have := hw _ (.inl rfl)
              simp only [List.length_map] at this
              refine Nat.le_trans (Nat.mul_le_mul_right _ ?_) this
              omega
            refine ⟨[.sl (P.cellsOf e) ((List.range len).map g)], Fits.one ?_ rfl, ⟨_, rfl, fun r hr => ?_, by simpa using hwl⟩, ?_⟩
            rotate_right
            · have := bulkR_range (g := g) (l := elems.map (·.1)) (n := len) (by simp [hlen]) (fun i hi => (hg i (by simpa [hlen] using hi)).1.2 hi)
              simp only [pbulkL, pbulk, Rows.uptoBulk]; omega
            · have hsl := PR.sl (w := W) (A := fun _ => False) (P.cellsOf e) ((List.range len).map g) a cap (fun i j => (W.cell? (a.add (i * P.cellsOf e + j))).getD undef) (by simpa using hlc) hcm hpos
                (fun hl => by
                  simp only [List.length_map, List.length_range] at hl
                  obtain ⟨_, hl1, hg1⟩ := hg 0 hl
                  obtain ⟨v, hv, _⟩ := hg1 0 _ (List.getElem?_eq_getElem (by omega))
                  have := cell_lt hv
                  rw [block_add] at this
                  exact ⟨this, fun h => h⟩)
                (fun i row hr => by obtain ⟨hi, rfl⟩ := hrow i row hr; exact (hg i hi).2.1)
                (fun i row j p hr hp => by
                  obtain ⟨hi, rfl⟩ := hrow i row hr
                  obtain ⟨v, hv, _, h3⟩ := (hg i hi).2.2 j p hp
                  simp only [hv, Option.getD_some]
                  exact ⟨trivial, h3⟩)
                (fun i row j p hr hp => by
                  obtain ⟨hi, rfl⟩ := hrow i row hr
                  obtain ⟨v, hv, h2, _⟩ := (hg i hi).2.2 j p hp
                  simp only [hv, Option.getD_some]
                  exact h2)
              rwa [List.length_map, List.length_range] at hsl
            · obtain ⟨i, hi, rfl⟩ := List.mem_map.1 hr
              exact (hg i (by simpa using hi)).1.1
      · cases hd
  · simp at hd
theorem Opn.slice {P : Program} {t e : TypeId} {n : Nat} {Q : List PV → Prop} (ht : P.underlying t = some (.slice e)) (hn : P.cellsOf e = n) (hpos : 0 < n) (h : Opn P e Q) :
    Opn P t (fun ps => ∃ rows, ps = [.sl n rows] ∧ (∀ r ∈ rows, Q r) ∧ rows.length * P.bytesOf e ≤ reachBytes) := Opn.of_step fun fuel => OpnF.slice ht hn hpos (h fuel)

theorem OpnF.array {P : Program} {fuel : Nat} {t e : TypeId} {n : Nat} {Q : List PV → Prop} (ht : P.underlying t = some (.array n e)) (hn : P.cellsOf t = n * P.cellsOf e) (h : OpnF P fuel e Q) :
    OpnF P (fuel + 1) t (fun ps => ∃ parts : List (List PV), ps = parts.flatten ∧ parts.length = n ∧ ∀ r ∈ parts, Q r) := by
  intro H enc W cs d ms hd hw
  have hd' : (if cs.length = P.cellsOf t then ((List.range n).mapM fun i => DataW.trod enc P W 0 (fun _ => true) true fuel e ((cs.drop (i * P.cellsOf e)).take (P.cellsOf e))).map fun xs => ((.agg (xs.map (·.1)), xs.flatMap (·.2)) : DataW H × List MemPlace) else none) = some (d, ms) := by
    rw [← hd]
    simp only [DataW.trod, ht]
  split at hd'
  · rename_i hl
    cases hxs : (List.range n).mapM (fun i => DataW.trod enc P W 0 (fun _ => true) true fuel e ((cs.drop (i * P.cellsOf e)).take (P.cellsOf e))) with
    | none => rw [hxs] at hd'; simp at hd'
    | some xs =>
      rw [hxs] at hd'
      simp only [Option.map_some, Option.some.injEq, Prod.mk.injEq] at hd'
      obtain ⟨rfl, _⟩ := hd'
      simp only [DataW.weights, ht] at hw
      have hlen : xs.length = n := by simpa using mapM_some_length hxs
      have step : ∀ k, k ≤ n → ∃ parts : List (List PV), parts.length = k ∧ (∀ r ∈ parts, Q r) ∧ Fits W (cs.take (k * P.cellsOf e)) parts.flatten ∧ pbulkR parts ≤ Rows.uptoBulkAll ((xs.take k).map (·.1)) := by
        intro k
        induction k with
        | zero => intro _; exact ⟨[], rfl, by simp, by simpa using Fits.nil W, by simp [pbulkR]⟩
        | succ k ih =>
          intro hk
          obtain ⟨parts, h1, h2, h3, h4⟩ := ih (by omega)
          have hr : (List.range n)[k]? = some k := by rw [List.getElem?_range (by omega)]
          have hk' := mapM_some_get hxs k k hr
          have hx : xs[k]? = some xs[k] := List.getElem?_eq_getElem (by omega)
          rw [hx] at hk'
          obtain ⟨row, hf, hq, hz⟩ := h H enc W _ xs[k].1 xs[k].2 hk' (fun n hn => hw n (weights_all (List.mem_map.2 ⟨xs[k], List.getElem_mem _, rfl⟩) n hn))
          refine ⟨parts ++ [row], by simp [h1], fun r hr => ?_, ?_, ?_⟩
          rotate_right
          · rw [List.take_succ_eq_append_getElem (show k < xs.length by omega), List.map_append, bulkAll_append, pbulkR_append]
            simp only [List.map_cons, List.map_nil, pbulkR, Rows.uptoBulkAll]; omega
          · rcases List.mem_append.1 hr with hr | hr
            · exact h2 r hr
            · rw [List.mem_singleton.1 hr]; exact hq
          · have := h3.append hf
            rw [Nat.succ_mul, List.take_add]
            simpa using this
      obtain ⟨parts, h1, h2, h3, h4⟩ := step n (Nat.le_refl n)
      rw [← hn, ← hl, List.take_length] at h3
      exact ⟨_, h3, ⟨parts, rfl, h1, h2⟩, by rw [List.take_of_length_le (by omega)] at h4; rw [pbulkL_flatten]; simp only [Rows.uptoBulk]; omega⟩
  · cases hd'
theorem Opn.array {P : Program} {t e : TypeId} {n : Nat} {Q : List PV → Prop} (ht : P.underlying t = some (.array n e)) (hn : P.cellsOf t = n * P.cellsOf e) (h : Opn P e Q) :
    Opn P t (fun ps => ∃ parts : List (List PV), ps = parts.flatten ∧ parts.length = n ∧ ∀ r ∈ parts, Q r) := Opn.of_step fun fuel => OpnF.array ht hn (h fuel)

/-- Rows that are all pictures of something are pictures of a list. -/
theorem rows_map {α β : Type} {f : α → β} {R : α → Prop} : ∀ {rows : List β}, (∀ r ∈ rows, ∃ x, r = f x ∧ R x) → ∃ xs : List α, rows = xs.map f ∧ ∀ x ∈ xs, R x
  | [], _ => ⟨[], rfl, by simp⟩
  | r :: rows, h => by
    obtain ⟨x, rfl, hx⟩ := h r (.head _)
    obtain ⟨xs, rfl, hxs⟩ := rows_map fun r' hr => h r' (.tail _ hr)
    exact ⟨x :: xs, rfl, fun y hy => by
      rcases List.mem_cons.1 hy with rfl | hy
      · exact hx
      · exact hxs y hy⟩

/-- The arguments of a call. -/
def isAgg (P : Program) (t : TypeId) : Bool := match P.underlying t with | some (.struct _) => true | some (.array _ _) => true | _ => false
def argPV (g : Bool) (ps : List PV) : PV := match g with | true => .agg ps | false => ps.headD (.val undef)
def ArgsAll : List Bool → List (List PV → Prop) → (List PV → Prop) → Prop
  | [], [], K => K []
  | g :: gs, Q :: Qs, K => ∀ ps, Q ps → ArgsAll gs Qs fun l => K (argPV g ps :: l)
  | _, _, _ => False

theorem arg_open {H : Type} {enc : TypeId × Value → H} {P : Program} {W : World} {base : Nat} {t : TypeId} {v : Value} {d : DataW H} {ms : List MemPlace} {Q : List PV → Prop}
    (hval : Value.okWide P W .any base t v) (h : Opn P t Q) (hd : DataW.Trod enc P W 0 (fun _ => true) true t v d ms) (hw : ∀ n ∈ d.weights P t, n ≤ reachBytes) :
    ∃ ps, Q ps ∧ PR W (fun _ => False) (argPV (isAgg P t) ps) v ∧ pbulk (argPV (isAgg P t) ps) ≤ Rows.uptoBulk d := by
  obtain ⟨fuel, hd⟩ := hd
  obtain ⟨ps, hf, hq, hz⟩ := h fuel H enc W _ d ms hd hw
  refine ⟨ps, hq, ?_, ?_⟩
  rotate_left
  · cases isAgg P t with
    | true => simpa [argPV, pbulk] using hz
    | false => cases ps with
      | nil => exact bulk_one d
      | cons p l => simp only [pbulkL] at hz; show pbulk p ≤ _; omega
  have leaf : v.cells.toList = [v] → PR W (fun _ => False) (argPV false ps) v := by
    intro hv
    rw [hv] at hf
    rcases ps with _ | ⟨p, _ | ⟨q, r⟩⟩
    · simp [Fits] at hf
    · obtain ⟨u, hu, h1, _⟩ := hf.2 0 p rfl
      simp only [List.getElem?_cons_zero, Option.some.injEq] at hu
      subst hu
      exact h1
    · simp [Fits] at hf
  have agg : ∀ cs, v = .agg cs → PR W (fun _ => False) (argPV true ps) v := by
    rintro cs rfl
    refine .agg ps cs (by rw [hf.1]; rfl) fun j p hp => ?_
    obtain ⟨u, hu, h1, _⟩ := hf.2 j p hp
    have : cs.getD j undef = u := by
      have hu' : cs[j]? = some u := by simpa [Value.cells] using hu
      simp [Array.getD_eq_getD_getElem?, hu']
    rw [this]
    exact h1
  unfold Value.okWide at hval
  unfold isAgg
  split at hval
  · rename_i fs ht
    obtain ⟨cs, rfl, _⟩ := hval
    rw [ht]
    exact agg cs rfl
  · rename_i n e ht
    obtain ⟨cs, rfl, _⟩ := hval
    rw [ht]
    exact agg cs rfl
  · rename_i h1 h2
    have hna : (∀ cs, v ≠ .agg cs) := by
      rintro cs rfl
      unfold Cell.okWide at hval
      split at hval <;> simp_all [Cell.ok]
    have hv : v.cells.toList = [v] := by
      cases v <;> first | rfl | exact absurd rfl (hna _)
    split
    · rename_i fs ht; exact absurd ht (h1 fs)
    · rename_i n e ht; exact absurd ht (h2 n e)
    · exact leaf hv

theorem args_open {H : Type} {enc : TypeId × Value → H} {P : Program} {W : World} {base : Nat} : ∀ {ts : List TypeId} {vs : List Value} {ds : List (DataW H)} {ms : List MemPlace} {Qs : List (List PV → Prop)} {K : List PV → Prop},
    DataW.TrodAll enc P W 0 (fun _ => true) true ts vs ds ms → (∀ n ∈ DataW.weightsEach P ts ds, n ≤ reachBytes) → (∀ (j : Nat) t v, ts[j]? = some t → vs[j]? = some v → Value.okWide P W .any base t v) →
    All2 (Opn P) ts Qs → ArgsAll (ts.map (isAgg P)) Qs K → ∃ l, K l ∧ pbulkL l ≤ Rows.uptoBulkAll ds ∧ vs.length = l.length ∧ ∀ (j : Nat) (p : PV) (v : Value), l[j]? = some p → vs[j]? = some v → PR W (fun _ => False) p v
  | [], [], [], _, [], K, _, _, _, _, hK => ⟨[], hK, by simp [pbulkL], rfl, fun j p v h => by simp at h⟩
  | t :: ts, v :: vs, d :: ds, ms, Q :: Qs, K, hd, hw, hval, hop, hK => by
    obtain ⟨m1, m2, h1, h2, _⟩ := hd
    simp only [DataW.weightsEach, List.mem_append] at hw
    obtain ⟨ps, hq, hpr, hz⟩ := arg_open (hval 0 t v rfl rfl) hop.1 h1 (fun n hn => hw n (.inl hn))
    obtain ⟨l, hl, hzl, hlen, hall⟩ := args_open h2 (fun n hn => hw n (.inr hn)) (fun j t v ht hv => hval (j + 1) t v ht hv) hop.2 (hK ps hq)
    refine ⟨_, hl, by simp only [pbulkL, Rows.uptoBulkAll]; omega, by simp [hlen], fun j p u hp hu => ?_⟩
    cases j with
    | zero =>
      simp only [List.getElem?_cons_zero, Option.some.injEq] at hp hu
      subst hp; subst hu
      exact hpr
    | succ j => exact hall j p u (by simpa using hp) (by simpa using hu)

theorem trodAll_carry {H : Type} {enc : TypeId × Value → H} {P : Program} {W W' : World} (hl : laidOutB P = true) (hb : Below W.heap.size W W') : ∀ {ts : List TypeId} {vs : List Value} {ds : List (DataW H)} {ms : List MemPlace},
    (∀ t ∈ ts, P.readableRec t = true ∧ t < P.types.size) → DataW.TrodAll enc P W 0 (fun _ => true) true ts vs ds ms → (∀ x ∈ ms, x.block < W.heap.size) → DataW.TrodAll enc P W' 0 (fun b => decide (b < W.heap.size)) true ts vs ds ms
  | [], [], [], _, _, h, _ => h
  | t :: ts, v :: vs, d :: ds, ms, hr, h, hlt => by
    obtain ⟨p, q, h1, h2, rfl⟩ := h
    obtain ⟨r1, r2⟩ := hr t (.head _)
    exact ⟨p, q, Below.trod hl r1 r2 h1 hb (fun x hx => hlt x (List.mem_append.2 (.inl hx))), trodAll_carry hl hb (fun t ht => hr t (.tail _ ht)) h2 (fun x hx => hlt x (List.mem_append.2 (.inr hx))), rfl⟩
theorem weights_more {H : Type} {P : Program} {us : List TypeId} {n : Nat} : ∀ {ts : List TypeId} {ds : List (DataW H)}, n ∈ DataW.weightsEach P ts ds → n ∈ DataW.weightsEach P (ts ++ us) ds
  | [], [], h => by simp [DataW.weightsEach] at h
  | [], _ :: _, h => by simp [DataW.weightsEach] at h
  | _ :: _, [], h => by simp [DataW.weightsEach] at h
  | t :: ts, d :: ds, h => by
    simp only [DataW.weightsEach, List.mem_append, List.cons_append] at h ⊢
    rcases h with h | h
    · exact .inl h
    · exact .inr (weights_more h)
theorem Kp.below {w w' : World} (h : Kp (fun _ => False) w w') : Below w.heap.size w w' := ⟨h.os, h.tape, h.output, h.size, fun k hk => h.block k hk fun e => e⟩

theorem trodAll_len {H : Type} {enc : TypeId × Value → H} {P : Program} {W : World} {base : Nat} {spare : Nat → Bool} {held : Bool} : ∀ {ts : List TypeId} {vs : List Value} {ds : List (DataW H)} {ms : List MemPlace}, DataW.TrodAll enc P W base spare held ts vs ds ms → ds.length = ts.length
  | [], [], [], _, _ => rfl
  | _ :: _, _ :: _, _ :: _, _, h => by
    obtain ⟨_, _, _, h2, _⟩ := h
    simp [trodAll_len h2]
/-- The statement says: true, and the arguments read as they did. -/
def Says (s : ChangeSpec) (n : Nat) : Prop := s.vars = [] ∧ ∀ (H : Type) (ds : List (DataW H)), ds.length = n → s.fn H ds = { results := [.lit (.bool true)], args := ds }

theorem law_lifted {C : Checked} {os : Os} {f : FuncId} {fn : Func} {s : ChangeSpec} {F : Stop.Interp} {conds : List PathCond} {fresh handsOn : Bool} {H : Type} {enc : TypeId × Value → H} {n : Nat} {tb : TypeId}
    (own : ownKnob C.prog.godebug = none) (started : os.Started) (noInit : C.prog.inits.idxOf? f = none) (hfn : C.prog.funcs[f]? = some fn)
    (witness : ∃ (w : World) (tape : Tape) (i : Input), w.os = os ∧ (w.forCall tape i).Shaped C.prog ∧ i.vars = [] ∧ Input.okWide C.prog (w.forCall tape i) .any w.heap.size f i ∧
      (Rows.OpenSpec.upto s).pre6 enc C.prog fn conds false (w.forCall tape i).memory i.args ∧ ({} : Assume).holds C.prog (lone (Frame.enter C.prog f i.args .normal) [] (w.forCall tape i)))
    (laid : laidOutB C.prog = true) (says : Says s n) (hn : fn.params.size = n) (res : fn.resultTypes = #[tb]) (ht : C.prog.underlying tb = some .bool)
    (read : fn.params.toList.all (fun t => C.prog.readableRec t && decide (t < C.prog.types.size)) = true) {Qs : List (List PV → Prop)} (ops : All2 (Opn C.prog) fn.params.toList Qs) {gs : List Bool}
    (hgs : fn.params.toList.map (isAgg C.prog) = gs) (K : ArgsAll gs Qs fun args => pbulkL args ≤ 1048576 → PSpec C.prog f args (.bool true)) :
    ReturnsInHanded {} C os f .any ((Rows.OpenSpec.upto s).pre6 enc C.prog fn conds false) (((Rows.OpenSpec.upto s).at F).post enc C.prog fn false fresh handsOn false) := by
  refine returnsInHanded_of_cond_sized (s := Rows.OpenSpec.upto s) (k := Rows.uptoSmall) rfl own started noInit hfn witness ?_
  intro W base args ds gs' before hval hW _ hk hreach _
  have hW' := hW
  obtain ⟨p, q, hA, hV, rfl, _, _⟩ := hW
  have hV : DataW.TrodVars enc C.prog W _ s.vars gs' q := hV
  rw [says.1] at hV
  obtain ⟨rfl, rfl⟩ := trodVars_none hV
  simp only [List.append_nil] at hW' hreach hk
  subst hgs
  obtain ⟨l, hl, hz, hlen, hall⟩ := args_open hA (fun m hm => of_decide_eq_true (List.all_eq_true.1 hreach m (weights_more hm))) (fun j t v h1 h2 => hval j t v (by simpa using h1) (by simpa using h2)) ops K
  have hl := hl (Nat.le_trans hz (of_decide_eq_true hk))
  have hlt := hW'.lt
  have hdl : ds.length = n := by rw [trodAll_len hA]; simpa using hn
  refine (hl.2 W (fun _ => False) args (by simpa using hlen) (fun j p' hp => ?_) (fun b h => h.elim)).mono fun e W' ⟨v, he, hr, hk⟩ => ?_
  · have hj : j < args.size := by have := (List.getElem?_eq_some_iff.1 hp).1; simp at hlen; omega
    have : args.getD j undef = args[j] := by simp [Array.getD_eq_getD_getElem?, hj]
    rw [this]
    exact hall j p' _ hp (by simp [hj])
  · subst he
    rw [hr.val_inv]
    refine ⟨_, rfl, ds, [], p, [], p, [], hW', ?_, ?_, ?_, hk.below.frame _, fun h => by cases h⟩
    · rw [List.append_nil]
      show DataW.TrodAll enc C.prog W' _ _ _ _ _ (s.fn H ds).results _
      rw [says.2 H ds hdl, res]
      exact trodAll_mk1 (shut_bool ht _)
    · rw [List.append_nil]
      show DataW.TrodAll enc C.prog W' _ _ _ _ _ (s.fn H ds).args _
      rw [says.2 H ds hdl]
      refine trodAll_carry laid hk.below (fun t h => ?_) hA hlt
      have := List.all_eq_true.1 read t h
      simpa using this
    · rw [List.append_nil]
      show DataW.TrodVars enc C.prog W' _ s.vars (s.fn H ds).vars _
      rw [says.2 H ds hdl, says.1]
      rfl
end Go.Avc
/- Journals: how the arguments of the laws open. Conditions: none. -/
namespace Go.Proofs.Ytcgpikmaapallaa
open Go.Avc
theorem own : ownKnob Try.prog.godebug = none := by kernel_rfl
theorem laidOut : laidOutB Try.prog = true := by kernel_rfl
theorem byte_of {n : Int} (h : IntKind.u8.has n) : ∃ b : UInt8, n = b.toNat := by
  have h1 : (0 : Int) ≤ n := h.1
  have h2 : n ≤ 255 := h.2
  refine ⟨UInt8.ofNat n.toNat, ?_⟩
  rw [UInt8.toNat_ofNat_of_lt' (by show n.toNat < 256; omega)]
  omega
theorem op_byte : Opn Try.prog 5 (fun ps => ∃ b : UInt8, ps = [.val (.int .u8 b.toNat)]) := (Opn.int Try.underlying5).mono fun _ ⟨_, h, hn⟩ => by
  obtain ⟨b, rfl⟩ := byte_of hn
  exact ⟨b, h⟩
theorem op_bytes : Opn Try.prog 35 (fun ps => ∃ bs : List UInt8, ps = [encB bs]) :=
  (Opn.slice (n := 1) Try.underlying35 (by kernel_rfl) Nat.one_pos op_byte).mono fun _ ⟨rows, h, hr, hl⟩ => by
    obtain ⟨bs, rfl, _⟩ := rows_map (f := fun b : UInt8 => [PV.val (.int .u8 b.toNat)]) (R := fun _ => True) (fun r h => by obtain ⟨b, hb⟩ := hr r h; exact ⟨b, hb, trivial⟩)
    exact ⟨bs, h⟩
theorem op_sectors : Opn Try.prog 22 (fun ps => ∃ ss : List (List UInt8), ps = [encS ss]) :=
  (Opn.slice (n := 1) Try.underlying22 (by kernel_rfl) Nat.one_pos op_bytes).mono fun _ ⟨rows, h, hr, _⟩ => by
    obtain ⟨ss, rfl, hs⟩ := rows_map (f := fun s => [encB s]) (R := fun _ => True) (fun r h => by obtain ⟨b, hb⟩ := hr r h; exact ⟨b, hb, trivial⟩)
    exact ⟨ss, h⟩
theorem op_int : Opn Try.prog 3 (fun ps => ∃ n : Int, ps = [.int n] ∧ IntKind.i64.has n) := Opn.int Try.underlying3
theorem op_write : Opn Try.prog 77 (fun ps => ∃ w : Int × List UInt8, ps = encW w) :=
  (Opn.struct (Qs := [_, _]) Try.underlying77 (by kernel_rfl) (fun fuel => ⟨op_int fuel, op_bytes fuel, trivial⟩)).mono fun _ h => by
    obtain ⟨_, ⟨n, rfl, _⟩, _, ⟨_, ⟨bs, rfl⟩, _, rfl, rfl⟩, rfl⟩ := h
    exact ⟨(n, bs), rfl⟩
theorem op_writes : Opn Try.prog 23 (fun ps => ∃ ws : List (Int × List UInt8), ps = [encWs ws]) :=
  (Opn.slice (n := 2) Try.underlying23 (by kernel_rfl) (by omega) op_write).mono fun _ ⟨rows, h, hr, _⟩ => by
    obtain ⟨ws, rfl, hs⟩ := rows_map (f := encW) (R := fun _ => True) (fun r h => by obtain ⟨b, hb⟩ := hr r h; exact ⟨b, hb, trivial⟩)
    exact ⟨ws, h⟩
theorem op_disk : Opn Try.prog 25 (fun ps => ∃ d : Disk, ps = [encS d.sectors, encWs d.pending, .int d.left, .bool d.stopped]) :=
  (Opn.struct (Qs := [_, _, _, _]) Try.underlying25 (by kernel_rfl) (fun fuel => ⟨op_sectors fuel, op_writes fuel, op_int fuel, Opn.bool Try.underlying4 fuel, trivial⟩)).mono fun _ h => by
    obtain ⟨_, ⟨ss, rfl⟩, _, ⟨_, ⟨ws, rfl⟩, _, ⟨_, ⟨n, rfl, _⟩, _, ⟨_, ⟨b, rfl⟩, _, rfl, rfl⟩, rfl⟩, rfl⟩, rfl⟩ := h
    exact ⟨⟨ss, ws, n, b⟩, rfl⟩
theorem op_jour : Opn Try.prog 29 (fun ps => ∃ j : Jour, ps = [encS j.records, .int j.many, .int j.synced]) :=
  (Opn.struct (Qs := [_, _, _]) Try.underlying29 (by kernel_rfl) (fun fuel => ⟨op_sectors fuel, op_int fuel, op_int fuel, trivial⟩)).mono fun _ h => by
    obtain ⟨_, ⟨ss, rfl⟩, _, ⟨_, ⟨n, rfl, _⟩, _, ⟨_, ⟨m, rfl, _⟩, _, rfl, rfl⟩, rfl⟩, rfl⟩ := h
    exact ⟨⟨ss, n, m⟩, rfl⟩
theorem bulk_bytes (bs : List UInt8) : pbulk (encB bs) = bs.length + 1 := by
  have : ∀ l : List UInt8, pbulkR (l.map fun b => [PV.val (.int .u8 b.toNat)]) = l.length := fun l => by
    induction l with
    | nil => simp [pbulkR]
    | cons b l ih => simp only [List.map_cons, pbulkR, pbulkL, pbulk, List.length_cons, ih]; omega
  simp only [encB, pbulk, this]
theorem bulk_sectors (ss : List (List UInt8)) : pbulk (encS ss) = lensN ss + 1 := by
  have : ∀ l : List (List UInt8), pbulkR (l.map fun s => [encB s]) = lensN l := fun l => by
    induction l with
    | nil => simp [pbulkR, lensN]
    | cons b l ih => simp only [List.map_cons, pbulkR, pbulkL, bulk_bytes, ih]; simp [lensN]
  simp only [encS, pbulk, this]
end Go.Proofs.Ytcgpikmaapallaa
