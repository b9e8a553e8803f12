/- Networks: what packets and links are, and what is done with them, in plain Lean. Conditions: none. -/
import Derived.Test.YtlploeedieenbaaWd
import Derived.Test.YtlploeedieenbaaChecked
import Derived.Test.YtlploeedieenbaaWe
set_option linter.unusedSimpArgs false
set_option linter.unusedVariables false
namespace Go.Proofs.Ytlploeedieenbaa
open Go.Avc
structure Pk where
  src : Int
  dst : Int
  data : List UInt8
  deriving DecidableEq
structure Nt where
  queue : List Pk
  apart : List (Int × Int)
  deriving DecidableEq
def zeroPk : Pk := ⟨0, 0, []⟩
def zeroN : Nt := ⟨[], []⟩
/-- Two numbers are different parties. -/
def Diff (a b : Int) : Prop := a ≠ b ∧ 0 ≤ a ∧ a < 16 ∧ 0 ≤ b ∧ b < 16
instance (a b : Int) : Decidable (Diff a b) := by unfold Diff; infer_instance
def Pk.ok (p : Pk) : Prop := Diff p.src p.dst ∧ (p.data.length : Int) ≤ 1048576
instance (p : Pk) : Decidable p.ok := by unfold Pk.ok; infer_instance
def ltP (p q : Int × Int) : Prop := p.1 < q.1 ∨ (p.1 = q.1 ∧ p.2 < q.2)
instance (p q : Int × Int) : Decidable (ltP p q) := by unfold ltP; infer_instance
def PrOK (p : Int × Int) : Prop := 0 ≤ p.1 ∧ p.1 < p.2 ∧ p.2 < 16
instance (p : Int × Int) : Decidable (PrOK p) := by unfold PrOK; infer_instance
/-- The pairs up to k are parties, and ascend. -/
def ApOK (l : List (Int × Int)) (k : Nat) : Prop := (∀ i, (h : i < l.length) → i < k → PrOK l[i]) ∧ ∀ i, (h : i + 1 < l.length) → i + 1 < k → ltP l[i] l[i + 1]
def Nt.ok (n : Nt) : Prop := (n.queue.length : Int) ≤ 4096 ∧ (∀ p ∈ n.queue, p.ok) ∧ ApOK n.apart n.apart.length
open Classical in
noncomputable def Nt.check (n : Nt) : Int := if n.ok then 0 else 490
theorem Nt.check_ok {n : Nt} (h : n.ok) : n.check = 0 := by unfold Nt.check; rw [if_pos h]
theorem Nt.check_bad {n : Nt} (h : ¬ n.ok) : n.check = 490 := by unfold Nt.check; rw [if_neg h]
theorem Nt.ok_of {n : Nt} (h : n.check = 0) : n.ok := by
  by_cases hn : n.ok
  · exact hn
  · rw [Nt.check_bad hn] at h; cases h
theorem Nt.check_or (n : Nt) : n.check = 0 ∨ n.check = 490 := by
  by_cases hn : n.ok
  · exact .inl (Nt.check_ok hn)
  · exact .inr (Nt.check_bad hn)
theorem ap_zero (l : List (Int × Int)) : ApOK l 0 := ⟨fun i _ h => by omega, fun i _ h => by omega⟩
theorem ap_succ {l : List (Int × Int)} {k : Nat} (h : ApOK l k) (hk : k < l.length) (h1 : PrOK l[k]) (h2 : ∀ i, (hi : i + 1 = k) → ltP l[i] l[k]) : ApOK l (k + 1) := by
  refine ⟨fun i hi hik => ?_, fun i hi hik => ?_⟩
  · by_cases e : i = k
    · subst e; exact h1
    · exact h.1 i hi (by omega)
  · by_cases e : i + 1 = k
    · subst e; exact h2 i rfl
    · exact h.2 i hi (by omega)
theorem ltP_trans {p q r : Int × Int} (h : ltP p q) (k : ltP q r) : ltP p r := by unfold ltP at *; omega
theorem ltP_irr {p : Int × Int} : ¬ ltP p p := by unfold ltP; omega
theorem ltP_tri (p q : Int × Int) : ltP p q ∨ p = q ∨ ltP q p := by
  obtain ⟨a, b⟩ := p; obtain ⟨c, d⟩ := q
  unfold ltP
  by_cases e : a = c
  · by_cases e2 : b = d
    · subst e e2; exact .inr (.inl rfl)
    · simp only [Prod.mk.injEq]; omega
  · simp only [Prod.mk.injEq]; omega
/-- The lists that ascend. -/
def Asc (l : List (Int × Int)) : Prop := l.Pairwise ltP
theorem asc_of {l : List (Int × Int)} (h : ApOK l l.length) : Asc l := by
  have step : ∀ (j i : Nat) (hj : j < l.length) (hi : i < j), ltP (l[i]'(by omega)) l[j] := by
    intro j
    induction j with
    | zero => intro i _ hi; omega
    | succ j ih =>
      intro i hj hi
      have h1 := h.2 j hj hj
      by_cases e : i = j
      · subst e; exact h1
      · exact ltP_trans (ih i (by omega) (by omega)) h1
  unfold Asc
  rw [List.pairwise_iff_getElem]
  intro i j hi hj hij
  exact step j i hj hij
theorem of_asc {l : List (Int × Int)} (h : Asc l) (h1 : ∀ p ∈ l, PrOK p) : ApOK l l.length := by
  unfold Asc at h
  rw [List.pairwise_iff_getElem] at h
  exact ⟨fun i hi _ => h1 _ (List.getElem_mem hi), fun i hi _ => h i (i + 1) (by omega) hi (by omega)⟩
theorem ap_mem {l : List (Int × Int)} (h : ApOK l l.length) : ∀ p ∈ l, PrOK p := fun p hp => by
  obtain ⟨i, hi, rfl⟩ := List.getElem_of_mem hp
  exact h.1 i hi hi
/-- Two ascending lists of the same pairs are one. -/
theorem asc_uniq : ∀ {l m : List (Int × Int)}, Asc l → Asc m → (∀ p, p ∈ l ↔ p ∈ m) → l = m
  | [], [], _, _, _ => rfl
  | [], b :: m, _, _, h => by have := (h b).2 List.mem_cons_self; cases this
  | a :: l, [], _, _, h => by have := (h a).1 List.mem_cons_self; cases this
  | a :: l, b :: m, hl, hm, h => by
    unfold Asc at hl hm
    rw [List.pairwise_cons] at hl hm
    have e : a = b := by
      rcases ltP_tri a b with h1 | h1 | h1
      · rcases List.mem_cons.1 ((h a).1 List.mem_cons_self) with e | h2
        · exact e
        · exact absurd (ltP_trans h1 (hm.1 a h2)) ltP_irr
      · exact h1
      · rcases List.mem_cons.1 ((h b).2 List.mem_cons_self) with e | h2
        · exact e.symm
        · exact absurd (ltP_trans h1 (hl.1 b h2)) ltP_irr
    subst e
    rw [asc_uniq hl.2 hm.2 fun p => ⟨fun hp => ?_, fun hp => ?_⟩]
    · rcases List.mem_cons.1 ((h p).1 (List.mem_cons_of_mem _ hp)) with e | h2
      · subst e; exact absurd (hl.1 _ hp) ltP_irr
      · exact h2
    · rcases List.mem_cons.1 ((h p).2 (List.mem_cons_of_mem _ hp)) with e | h2
      · subst e; exact absurd (hm.1 _ hp) ltP_irr
      · exact h2
/-- The pairs before (x, y), in their order. -/
def prs (x y : Nat) : List (Int × Int) := ((List.range x).flatMap fun a : Nat => ((List.range 16).filter fun b : Nat => decide (a < b)).map fun b : Nat => ((a : Int), (b : Int))) ++ ((List.range y).filter fun b : Nat => decide (x < b)).map fun b : Nat => ((x : Int), (b : Int))
theorem prs_start (x : Nat) : prs x (x + 1) = ((List.range x).flatMap fun a : Nat => ((List.range 16).filter fun b : Nat => decide (a < b)).map fun b : Nat => ((a : Int), (b : Int))) := by
  have : ((List.range (x + 1)).filter fun b : Nat => decide (x < b)) = [] := by
    rw [List.filter_eq_nil_iff]; intro b hb; simp at hb ⊢; omega
  unfold prs
  rw [this]; simp
theorem prs_next {x y : Nat} (h : x < y) : prs x (y + 1) = prs x y ++ [((x : Int), (y : Int))] := by
  unfold prs
  rw [show List.range (y + 1) = List.range y ++ [y] from List.range_succ, List.filter_append, List.map_append, List.append_assoc]
  simp [h]
theorem prs_over (x : Nat) : prs x 16 = prs (x + 1) (x + 2) := by
  rw [prs_start]
  unfold prs
  rw [show List.range (x + 1) = List.range x ++ [x] from List.range_succ, List.flatMap_append, List.flatMap_cons, List.flatMap_nil, List.append_nil]
/-- All pairs of parties. -/
def allP : List (Int × Int) := prs 16 17
theorem mem_allP {p : Int × Int} : p ∈ allP ↔ PrOK p := by
  obtain ⟨a, b⟩ := p
  unfold allP
  rw [prs_start]
  simp only [List.mem_flatMap, List.mem_range, List.mem_map, List.mem_filter, decide_eq_true_eq, Prod.mk.injEq, PrOK]
  constructor
  · rintro ⟨x, hx, y, ⟨hy, hxy⟩, rfl, rfl⟩
    omega
  · rintro ⟨h1, h2, h3⟩
    exact ⟨a.toNat, by omega, b.toNat, ⟨by omega, by omega⟩, by omega, by omega⟩
theorem asc_prs : ∀ x, Asc (prs x (x + 1)) := by
  intro x
  have hr : ∀ n : Nat, (List.range n).Pairwise (· < ·) := fun n => List.pairwise_lt_range
  rw [prs_start]
  unfold Asc
  induction x with
  | zero => simp
  | succ x ih =>
    rw [show List.range (x + 1) = List.range x ++ [x] from List.range_succ, List.flatMap_append, List.pairwise_append]
    refine ⟨ih, ?_, ?_⟩
    · simp only [List.flatMap_cons, List.flatMap_nil, List.append_nil]
      rw [List.pairwise_map]
      refine ((hr 16).filter _).imp fun {a b} h => .inr ⟨rfl, ?_⟩
      simp only; omega
    · intro p hp q hq
      simp only [List.mem_flatMap, List.mem_range, List.mem_map, List.mem_filter, decide_eq_true_eq, List.flatMap_cons, List.flatMap_nil, List.append_nil] at hp hq
      obtain ⟨a, ha, b, _, rfl⟩ := hp
      obtain ⟨c, _, rfl⟩ := hq
      unfold ltP; simp only; omega
theorem asc_allP : Asc allP := asc_prs 16
/-- The pairs for which f says so. -/
def canon (f : Int × Int → Bool) : List (Int × Int) := allP.filter f
theorem asc_canon (f : Int × Int → Bool) : Asc (canon f) := List.Pairwise.filter f asc_allP
theorem mem_canon {f : Int × Int → Bool} {p : Int × Int} : p ∈ canon f ↔ PrOK p ∧ f p = true := by
  unfold canon; rw [List.mem_filter, mem_allP]
theorem canon_ok (f : Int × Int → Bool) : ApOK (canon f) (canon f).length := of_asc (asc_canon f) fun _ hp => (mem_canon.1 hp).1
def pairOf (a b : Int) : Int × Int := (min a b, max a b)
theorem pairOf_comm (a b : Int) : pairOf a b = pairOf b a := by unfold pairOf; rw [Int.min_comm, Int.max_comm]
theorem pairOf_ok {a b : Int} (h : Diff a b) : PrOK (pairOf a b) := by
  obtain ⟨h1, h2, h3, h4, h5⟩ := h
  unfold pairOf PrOK
  simp only
  omega
def cutL (l : List (Int × Int)) (p : Int × Int) (on : Bool) : List (Int × Int) := canon fun q => if q = p then on else decide (q ∈ l)
theorem cutL_off {l : List (Int × Int)} (h : ApOK l l.length) (p : Int × Int) : l.filter (fun q => decide (q ≠ p)) = cutL l p false := by
  refine asc_uniq ((asc_of h).filter _) (asc_canon _) fun q => ?_
  rw [cutL, mem_canon, List.mem_filter]
  constructor
  · rintro ⟨h1, h2⟩
    have h3 : q ≠ p := by simpa using h2
    exact ⟨ap_mem h q h1, by simp [h3, h1]⟩
  · rintro ⟨_, h2⟩
    by_cases e : q = p
    · simp [e] at h2
    · exact ⟨by simpa [e] using h2, by simpa using e⟩
def cmpP (p q : Int × Int) : Int := if ltP p q then -1 else if p = q then 0 else 1
theorem cmpP_lt {p q : Int × Int} : cmpP p q < 0 ↔ ltP p q := by
  unfold cmpP
  by_cases h : ltP p q
  · simp [h]
  · rw [if_neg h]
    split <;> simp [h]
theorem cutL_on {l : List (Int × Int)} (h : ApOK l l.length) {p : Int × Int} (hp : PrOK p) (r : List (Int × Int)) (h1 : r.Perm (l.filter (fun q => decide (q ≠ p)) ++ [p])) (h2 : r.Pairwise fun x y => ¬ cmpP y x < 0) : r = cutL l p true := by
  have hnd : r.Nodup := by
    refine h1.nodup_iff.2 ?_
    rw [List.nodup_append]
    refine ⟨?_, by simp, fun a ha b hb e => ?_⟩
    · exact (((asc_of h).filter _).imp fun {a b} hab e => by subst e; exact ltP_irr hab)
    · simp only [List.mem_singleton] at hb
      subst hb; subst e
      simp at ha
  refine asc_uniq ?_ (asc_canon _) fun q => ?_
  · refine (List.Pairwise.and h2 hnd).imp fun {a b} hab => ?_
    rcases ltP_tri a b with h3 | h3 | h3
    · exact h3
    · exact absurd h3 hab.2
    · exact absurd (cmpP_lt.2 h3) hab.1
  · rw [h1.mem_iff, cutL, mem_canon, List.mem_append, List.mem_filter, List.mem_singleton]
    constructor
    · rintro (⟨h3, h4⟩ | rfl)
      · have h5 : q ≠ p := by simpa using h4
        exact ⟨ap_mem h q h3, by simp [h5, h3]⟩
      · exact ⟨hp, by simp⟩
    · rintro ⟨_, h4⟩
      by_cases e : q = p
      · exact .inr e
      · exact .inl ⟨by simpa [e] using h4, by simpa using e⟩
theorem mem_cutL {l : List (Int × Int)} (h : ApOK l l.length) {p q : Int × Int} (hp : PrOK p) {on : Bool} : q ∈ cutL l p on ↔ if q = p then on = true else q ∈ l := by
  rw [cutL, mem_canon]
  by_cases e : q = p
  · subst e; simp [hp]
  · simp only [e, if_false, decide_eq_true_eq]
    exact ⟨fun h1 => h1.2, fun h1 => ⟨ap_mem h q h1, h1⟩⟩
/-- Cutting what is cut, mending what is mended. -/
theorem cutL_cutL {l : List (Int × Int)} (h : ApOK l l.length) {p : Int × Int} (hp : PrOK p) (on off : Bool) : cutL (cutL l p on) p off = cutL l p off := by
  refine asc_uniq (asc_canon _) (asc_canon _) fun q => ?_
  have e0 : ∀ o, q ∈ cutL l p o ↔ if q = p then o = true else q ∈ l := fun o => mem_cutL h hp
  have e1 : q ∈ cutL (cutL l p on) p off ↔ if q = p then off = true else q ∈ cutL l p on := mem_cutL (l := cutL l p on) (canon_ok _) hp
  rw [e1, e0 off, e0 on]
  by_cases e : q = p <;> simp [e]
theorem cutL_len {l : List (Int × Int)} (h : ApOK l l.length) {p : Int × Int} (hp : PrOK p) : (cutL l p true).length = (cutL l p false).length + 1 := by
  have hnd : (cutL l p false ++ [p]).Nodup := by
    rw [List.nodup_append]
    refine ⟨(asc_canon _).imp fun {a b} hab e => by subst e; exact ltP_irr hab, by simp, fun a ha b hb e => ?_⟩
    simp only [List.mem_singleton] at hb
    subst hb; subst e
    rw [mem_cutL h hp] at ha; simp at ha
  have hnd2 : (cutL l p true).Nodup := (asc_canon _).imp fun {a b} hab e => by subst e; exact ltP_irr hab
  have hp1 : (cutL l p true).Perm (cutL l p false ++ [p]) := (List.perm_ext_iff_of_nodup hnd2 hnd).2 fun q => by
    rw [mem_cutL h hp, List.mem_append, mem_cutL h hp, List.mem_singleton]
    by_cases e : q = p <;> simp [e]
  rw [hp1.length_eq]; simp
end Go.Proofs.Ytlploeedieenbaa
/- Networks: packets and pairs; the first packet that is not valid; pairs are compared. Conditions: none. -/
namespace Go.Proofs.Ytlploeedieenbaa
open Go.Avc
def encB (s : List UInt8) : PV := .sl 1 (s.map fun b => [.val (.int .u8 b.toNat)])
def encPk (p : Pk) : List PV := [.int p.src, .int p.dst, encB p.data]
def encQ (l : List Pk) : PV := .sl 3 (l.map encPk)
def encP2 (p : Int × Int) : List PV := [.int p.1, .int p.2]
def encA (l : List (Int × Int)) : PV := .sl 2 (l.map encP2)
def encN (n : Nt) : PV := .agg [encQ n.queue, encA n.apart]
/-- r is the index of the first packet that is not valid, or -1. -/
def IdxIs (l : List Pk) (r : Int) : Prop := (r = -1 ∧ ∀ j, (h : j < l.length) → l[j].ok) ∨ ∃ k : Nat, r = k ∧ (∃ h : k < l.length, ¬ l[k].ok) ∧ ∀ j, (h : j < l.length) → j < k → l[j].ok
theorem IdxIs.ex (l : List Pk) : ∃ r, IdxIs l r := by
  have h : ∀ k, (∀ j, (h : j < l.length) → j < k → l[j].ok) ∨ ∃ r, IdxIs l r := by
    intro k
    induction k with
    | zero => exact .inl fun j _ h => by omega
    | succ k ih =>
      rcases ih with h | h
      · by_cases hk : k < l.length
        · by_cases hp : l[k].ok
          · refine .inl fun j hj hjk => ?_
            by_cases e : j = k
            · subst e; exact hp
            · exact h j hj (by omega)
          · exact .inr ⟨k, .inr ⟨k, rfl, ⟨hk, hp⟩, h⟩⟩
        · exact .inl fun j hj _ => h j hj (by omega)
      · exact .inr h
  rcases h l.length with h | h
  · exact ⟨-1, .inl ⟨rfl, fun j hj => h j hj hj⟩⟩
  · exact h
theorem IdxIs.at {l : List Pk} {r : Int} (h : IdxIs l r) {k : Nat} (hk : k < l.length) (hb : ¬ l[k].ok) (ho : ∀ j, (h : j < l.length) → j < k → l[j].ok) : r = k := by
  rcases h with ⟨_, h⟩ | ⟨m, rfl, ⟨hm, hmb⟩, hmo⟩
  · exact absurd (h k hk) hb
  · by_cases h1 : m < k
    · exact absurd (ho m hm h1) hmb
    · by_cases h2 : k < m
      · exact absurd (hmo k hk h2) hb
      · omega
theorem IdxIs.all {l : List Pk} {r : Int} (h : IdxIs l r) (ho : ∀ j, (h : j < l.length) → l[j].ok) : r = -1 := by
  rcases h with ⟨h, _⟩ | ⟨m, rfl, ⟨hm, hmb⟩, hmo⟩
  · exact h
  · exact absurd (ho m hm) hmb
def allOK (l : List Pk) : Bool := decide (∀ p ∈ l, p.ok)
theorem IdxIs.neg {l : List Pk} {r : Int} (h : IdxIs l r) : decide (0 ≤ r) = !allOK l := by
  rcases h with ⟨rfl, h⟩ | ⟨m, rfl, ⟨hm, hmb⟩, hmo⟩
  · have : allOK l = true := by
      unfold allOK
      simp only [decide_eq_true_eq]
      intro p hp
      obtain ⟨i, hi, rfl⟩ := List.getElem_of_mem hp
      exact h i hi
    rw [this]; rfl
  · have : allOK l = false := by
      unfold allOK
      simp only [decide_eq_false_iff_not]
      exact fun h => hmb (h _ (List.getElem_mem hm))
    rw [this]
    simp only [Bool.not_false, decide_eq_true_eq]; omega
def cmpI (x y : Int) : Int := if x < y then -1 else if y < x then 1 else 0
def cmpL : List Int → List Int → Int
  | [], [] => 0
  | [], _ :: _ => -1
  | _ :: _, [] => 1
  | x :: a, y :: b => if cmpI x y ≠ 0 then cmpI x y else cmpL a b
theorem cmpL_drop {a b : List Int} {k : Nat} (h1 : k < a.length) (h2 : k < b.length) : cmpL (a.drop k) (b.drop k) = if cmpI a[k] b[k] ≠ 0 then cmpI a[k] b[k] else cmpL (a.drop (k + 1)) (b.drop (k + 1)) := by
  rw [List.drop_eq_getElem_cons h1, List.drop_eq_getElem_cons h2]; rfl
theorem cmpL_pair (p q : Int × Int) : cmpL [p.1, p.2] [q.1, q.2] = cmpP p q := by
  obtain ⟨a, b⟩ := p; obtain ⟨c, d⟩ := q
  simp only [cmpL, cmpI, cmpP, ltP, Prod.mk.injEq]
  by_cases h1 : a < c
  · simp [h1]
  · by_cases h2 : c < a
    · simp [h1, h2, show ¬ a = c by omega]
    · have e : a = c := by omega
      subst e
      by_cases h3 : b < d
      · simp [h3]
      · by_cases h4 : d < b
        · simp [h3, h4, show ¬ b = d by omega]
        · have e : b = d := by omega
          subst e; simp
set_option maxRecDepth 20000
set_option maxHeartbeats 4000000
set_option linter.unusedSimpArgs false
attribute [local irreducible] PSub Wp PSpec Le Need Both
theorem different_spec (a b : Int) : PSpec Try.prog 34 [.int a, .int b] (.bool (decide (Diff a b))) := by
  refine PSpec.of_vc (fun Γ => more6 false Γ.P Γ.fx) (fun Γ => more6_ok) Try.func34 rfl Try.call34 (by simp) ?_
  rintro ⟨P, N, w0, X, β0, fx, y, hy, pk, df⟩ rfl rfl rfl hoff rfl; change y.on = false at hoff
  repeat' ((try conv => whnf); first | (first | refine k3 (fun hb => ?_) fun hb => ?_ | refine k4 (fun hb => ?_) fun hb => ?_) <;> (try rw [List.length_map] at hb) <;> (try (exfalso; omega; done)) | fail)
  all_goals refine PSub.of_eq (congrArg (fun b => PV.val (.bool b)) ?_)
  all_goals first | exact (decide_eq_false (by unfold Diff; omega)).symm | exact decide_eq_decide.2 (by unfold Diff; omega)
theorem valid_spec (p : Pk) : PSpec Try.prog 28 [.agg (encPk p)] (.bool (decide p.ok)) := by
  have hd : decide p.ok = (decide (Diff p.src p.dst) && decide ((p.data.length : Int) ≤ 1048576)) := by
    by_cases h1 : Diff p.src p.dst <;> by_cases h2 : (p.data.length : Int) ≤ 1048576 <;> simp [Pk.ok, h1, h2]
  refine PSpec.of_vc (fun Γ => more6 false Γ.P Γ.fx) (fun Γ => more6_ok) Try.func28 rfl Try.call28 (by simp) ?_
  rintro ⟨P, N, w0, X, β0, fx, y, hy, pk, df⟩ rfl rfl rfl hoff rfl; change y.on = false at hoff
  skip
  refine .inl ⟨_, different_spec _ _, ?_⟩
  repeat' ((try conv => whnf); first | (first | refine k3 (fun hb => ?_) fun hb => ?_ | refine k4 (fun hb => ?_) fun hb => ?_) <;> (try rw [List.length_map] at hb) <;> (try (exfalso; omega; done)) | fail)
  · rw [hd]; exact PSub.of_eq (by simp [hb])
  · rw [hd]; exact PSub.of_eq (by simp [hb])
theorem check1_spec (p : Pk) : PSpec Try.prog 33 [.agg (encPk p)] (.bool (!decide p.ok)) := by
  have q := valid_spec p
  obtain ⟨b, hb⟩ : ∃ b, b = decide p.ok := ⟨_, rfl⟩
  rw [← hb] at q ⊢
  refine PSpec.of_vc (fun Γ => more6 false Γ.P Γ.fx) (fun Γ => more6_ok) Try.func33 rfl Try.call33 (by simp) ?_
  rintro ⟨P, N, w0, X, β0, fx, y, hy, pk, df⟩ rfl rfl rfl hoff rfl; change y.on = false at hoff
  skip
  refine .inl ⟨_, q, ?_⟩
  skip
  exact PSub.refl _
theorem indexF_spec (l : List Pk) (r : Int) (hr : IdxIs l r) (hl : l.length ≤ 1000000) : PSpec Try.prog 46 [encQ l, .fn 33 []] (.int r) := by
  refine PSpec.of_vc (fun Γ => more6 false Γ.P Γ.fx) (fun Γ => more6_ok) Try.func46 rfl Try.call46 (by simp) ?_
  rintro ⟨P, N, w0, X, β0, fx, y, hy, pk, df⟩ rfl rfl rfl hoff rfl; change y.on = false at hoff
  skip
  refine Wp.loop (fun k : Nat => ⟨[(0, .pure (encQ l)), (1, .pure (.fn 33 [])), (7, .int l.length), (8, .int k)], [], []⟩) (fun k => k ≤ l.length ∧ ∀ j, (h : j < l.length) → j < k → l[j].ok) (fun k => l.length - k) 0 (Le.of ?_ ?_ rfl rfl rfl) ⟨by omega, fun j _ h => by omega⟩ ?_
  · (repeat' (first | exact trivial | refine And.intro ?_ ?_ | exact Or.inl rfl | exact l1 bd | fail))
  · (repeat' (first | exact trivial | fail))
  intro k ⟨hk, ho⟩
  by_cases hk2 : k < l.length
  · have q := check1_spec l[k]
    by_cases hp : l[k].ok
    · rw [decide_eq_true hp] at q
      refine code_sound (more := more6 false _ _) more6_ok FOK.wide _ ?_
      repeat' ((try conv => whnf); first | (first | refine k3 (fun hb => ?_) fun hb => ?_ | refine k4 (fun hb => ?_) fun hb => ?_) <;> (try rw [List.length_map] at hb) <;> (try (exfalso; omega; done)) | refine s5 nm nm ?_ | fail)
      refine .inl ⟨_, q, ?_⟩
      repeat' ((try conv => whnf); first | refine s4 nm ?_ | fail)
      refine ⟨k + 1, Le.of (by (repeat' (first | exact trivial | refine And.intro ?_ ?_ | exact Or.inl rfl | fail))) (by (repeat' (first | exact trivial | fail))) rfl rfl rfl, ⟨by omega, fun j hj hjk => ?_⟩, by omega⟩
      by_cases e : j = k
      · subst e; exact hp
      · exact ho j hj (by omega)
    · rw [decide_eq_false hp] at q
      have e := hr.at hk2 hp ho
      subst e
      refine code_sound (more := more6 false _ _) more6_ok FOK.wide _ ?_
      repeat' ((try conv => whnf); first | (first | refine k3 (fun hb => ?_) fun hb => ?_ | refine k4 (fun hb => ?_) fun hb => ?_) <;> (try rw [List.length_map] at hb) <;> (try (exfalso; omega; done)) | refine s5 nm nm ?_ | fail)
      refine .inl ⟨_, q, ?_⟩
      skip
      exact PSub.refl _
  · have e := hr.all fun j hj => ho j hj (by omega)
    subst e
    refine code_sound (more := more6 false _ _) more6_ok FOK.wide _ ?_
    repeat' ((try conv => whnf); first | (first | refine k3 (fun hb => ?_) fun hb => ?_ | refine k4 (fun hb => ?_) fun hb => ?_) <;> (try rw [List.length_map] at hb) <;> (try (exfalso; omega; done)) | fail)
    exact PSub.refl _
theorem containsF_spec (l : List Pk) (hl : l.length ≤ 1000000) : PSpec Try.prog 32 [encQ l, .fn 33 []] (.bool (!allOK l)) := by
  obtain ⟨r, hr⟩ := IdxIs.ex l
  have q := indexF_spec l r hr hl
  rw [← hr.neg]
  refine PSpec.of_vc (fun Γ => more6 false Γ.P Γ.fx) (fun Γ => more6_ok) Try.func32 rfl Try.call32 (by simp) ?_
  rintro ⟨P, N, w0, X, β0, fx, y, hy, pk, df⟩ rfl rfl rfl hoff rfl; change y.on = false at hoff
  skip
  refine .inl ⟨_, q, ?_⟩
  skip
  exact PSub.refl _
theorem isNaN_spec (a : Int) : PSpec Try.prog 64 [.int a] (.bool false) := by
  refine PSpec.of_vc (fun Γ => more6 false Γ.P Γ.fx) (fun Γ => more6_ok) Try.func64 rfl Try.call64 (by simp) ?_
  rintro ⟨P, N, w0, X, β0, fx, y, hy, pk, df⟩ rfl rfl rfl hoff rfl; change y.on = false at hoff
  skip
  exact PSub.of_eq (by simp)
theorem cmpI_spec (a b : Int) : PSpec Try.prog 53 [.int a, .int b] (.int (cmpI a b)) := by
  refine PSpec.of_vc (fun Γ => more6 false Γ.P Γ.fx) (fun Γ => more6_ok) Try.func53 rfl Try.call53 (by simp) ?_
  rintro ⟨P, N, w0, X, β0, fx, y, hy, pk, df⟩ rfl rfl rfl hoff rfl; change y.on = false at hoff
  skip
  refine .inl ⟨_, isNaN_spec _, ?_⟩
  skip
  refine .inl ⟨_, isNaN_spec _, ?_⟩
  repeat' ((try conv => whnf); first | (first | refine k3 (fun hb => ?_) fun hb => ?_ | refine k4 (fun hb => ?_) fun hb => ?_) <;> (try rw [List.length_map] at hb) <;> (try (exfalso; omega; done)) | fail)
  all_goals exact PSub.of_eq (by unfold cmpI; first | (rw [if_pos (by omega)]) | (rw [if_neg (by omega), if_pos (by omega)]) | (rw [if_neg (by omega), if_neg (by omega)]))
def encI (l : List Int) : PV := .sl 1 (l.map fun x => [.int x])
theorem cmpS_spec (a b : List Int) (ha : a.length = 2) (hb : b.length = 2) : PSpec Try.prog 47 [encI a, encI b] (.int (cmpL a b)) := by
  refine PSpec.of_vc (fun Γ => more6 false Γ.P Γ.fx) (fun Γ => more6_ok) Try.func47 rfl Try.call47 (by simp) ?_
  rintro ⟨P, N, w0, X, β0, fx, y, hy, pk, df⟩ rfl rfl rfl hoff rfl; change y.on = false at hoff
  skip
  refine Wp.loop (fun k : Nat => ⟨[(0, .pure (encI a)), (1, .pure (encI b)), (9, .pure (encI a)), (10, .int 2), (11, .int k)], [], []⟩) (fun k => k ≤ 2 ∧ cmpL a b = cmpL (a.drop k) (b.drop k)) (fun k => 2 - k) 0 (Le.of ?_ ?_ rfl rfl rfl) ⟨by omega, rfl⟩ ?_
  · (repeat' (first | exact trivial | refine And.intro ?_ ?_ | exact Or.inl rfl | exact l1 bd | fail))
  · (repeat' (first | exact trivial | fail))
  intro k ⟨hk, hd⟩
  by_cases hk2 : k < 2
  · have h1 : k < a.length := by omega
    have h2 : k < b.length := by omega
    rw [cmpL_drop h1 h2] at hd
    have q := cmpI_spec a[k] b[k]
    obtain ⟨c, hc⟩ : ∃ c, c = cmpI a[k] b[k] := ⟨_, rfl⟩
    rw [← hc] at q hd
    refine code_sound (more := more6 false _ _) more6_ok FOK.wide _ ?_
    repeat' ((try conv => whnf); first | (first | refine k3 (fun hb => ?_) fun hb => ?_ | refine k4 (fun hb => ?_) fun hb => ?_) <;> (try rw [List.length_map] at hb) <;> (try (exfalso; omega; done)) | refine s5 nm nm ?_ | fail)
    refine .inl ⟨_, q, ?_⟩
    repeat' ((try conv => whnf); first | (first | refine k3 (fun hb => ?_) fun hb => ?_ | refine k4 (fun hb => ?_) fun hb => ?_) <;> (try rw [List.length_map] at hb) <;> (try (exfalso; omega; done)) | refine s4 nm ?_ | fail)
    · rename_i h0
      refine ⟨k + 1, Le.of (by (repeat' (first | exact trivial | refine And.intro ?_ ?_ | exact Or.inl rfl | fail))) (by (repeat' (first | exact trivial | fail))) rfl rfl rfl, ⟨by omega, by rw [hd, if_neg (by omega)]⟩, by omega⟩
    · rename_i h0
      exact PSub.of_eq (by rw [hd, if_pos (by omega)])
  · have e : k = 2 := by omega
    subst e
    rw [List.drop_of_length_le (by omega), List.drop_of_length_le (by omega)] at hd
    refine code_sound (more := more6 false _ _) more6_ok FOK.wide _ ?_
    repeat' ((try conv => whnf); first | (first | refine k3 (fun hb => ?_) fun hb => ?_ | refine k4 (fun hb => ?_) fun hb => ?_) <;> (try rw [List.length_map] at hb) <;> (try (exfalso; omega; done)) | fail)
    · simp only [List.length_map] at hb
      omega
    · exact PSub.of_eq (by rw [hd]; rfl)
theorem compare_spec (p q : Int × Int) : PSpec Try.prog 35 [.agg (encP2 p), .agg (encP2 q)] (.int (cmpP p q)) := by
  have e := cmpS_spec [p.1, p.2] [q.1, q.2] rfl rfl
  rw [cmpL_pair] at e
  refine PSpec.of_vc (fun Γ => more6 false Γ.P Γ.fx) (fun Γ => more6_ok) Try.func35 rfl Try.call35 (by simp) ?_
  rintro ⟨P, N, w0, X, β0, fx, y, hy, pk, df⟩ rfl rfl rfl hoff rfl; change y.on = false at hoff
  repeat' ((try conv => whnf); first | refine And.intro rfl ?_ | refine ⟨_, singles_rfl _, ?_⟩ | fail)
  refine Wp.draw (more := more6 true _ _) more6_det more6_ok FOK.wide rfl (by decide +kernel) (by conv => lhs; reduce) ?_
  repeat' ((try conv => whnf); first | refine And.intro rfl ?_ | refine And.intro bd ?_ | fail)
  refine ⟨_, e, ?_⟩
  skip
  exact PSub.refl _
theorem nok1 {n : Nt} {k : Nat} (hk : k < n.apart.length) (h : ¬ PrOK n.apart[k]) : n.check = 490 := Nt.check_bad fun h' => h (h'.2.2.1 k hk hk)
theorem nok2 {n : Nt} {i k : Nat} (hk : k < n.apart.length) (e : i + 1 = k) (h : ¬ ltP (n.apart[i]'(by omega)) n.apart[k]) : n.check = 490 := Nt.check_bad fun h' => by
  subst e
  exact h (h'.2.2.2 i hk hk)
theorem check_spec (n : Nt) (hq : n.queue.length ≤ 1000000) (ha : n.apart.length ≤ 1000000) : PSpec Try.prog 13 [encN n] (.val (.int .i64 n.check)) := by
  have qc := containsF_spec n.queue hq
  have hok : n.ok ↔ (n.queue.length : Int) ≤ 4096 ∧ allOK n.queue = true ∧ ApOK n.apart n.apart.length := by unfold Nt.ok allOK; simp
  obtain ⟨g, hg⟩ : ∃ g, g = allOK n.queue := ⟨_, rfl⟩
  rw [← hg] at qc hok
  refine PSpec.of_vc (fun Γ => more6 false Γ.P Γ.fx) (fun Γ => more6_ok) Try.func13 rfl Try.call13 (by simp) ?_
  rintro ⟨P, N, w0, X, β0, fx, y, hy, pk, df⟩ rfl rfl rfl hoff rfl; change y.on = false at hoff
  repeat' ((try conv => whnf); first | (first | refine k3 (fun hb => ?_) fun hb => ?_ | refine k4 (fun hb => ?_) fun hb => ?_) <;> (try rw [List.length_map] at hb) <;> (try (exfalso; omega; done)) | fail)
  · exact PSub.of_eq (by rw [Nt.check_bad (fun h => by have := h.1; omega)])
  refine .inl ⟨_, qc, ?_⟩
  repeat' ((try conv => whnf); first | refine k5 (fun hb => ?_) fun hb => ?_ | fail)
  rotate_left
  · exact PSub.of_eq (by rw [Nt.check_bad (fun h => by have := (hok.1 h).2.1; simp_all)])
  refine Wp.loop (fun k : Nat => ⟨[(1, .loc 1 0 0), (15, .pure (encA n.apart)), (16, .int n.apart.length), (17, .int k)], [(1, some (.box [.pure (encQ n.queue), .pure (encA n.apart)]))], [1]⟩) (fun k => k ≤ n.apart.length ∧ ApOK n.apart k) (fun k => n.apart.length - k) 0 (Le.of ?_ ?_ rfl rfl rfl) ⟨by omega, ap_zero _⟩ ?_
  · (repeat' (first | exact trivial | refine And.intro ?_ ?_ | exact Or.inl rfl | exact l1 bd | fail))
  · (repeat' (first | exact trivial | refine And.intro ?_ ?_ | refine Exists.intro _ (And.intro rfl ?_) | exact Or.inl rfl | fail))
  intro k ⟨hk, hap⟩
  by_cases hk2 : k < n.apart.length
  · have qd := different_spec n.apart[k].1 n.apart[k].2
    refine code_sound (more := more6 false _ _) more6_ok FOK.wide _ ?_
    repeat' ((try conv => whnf); first | (first | refine k3 (fun hb => ?_) fun hb => ?_ | refine k4 (fun hb => ?_) fun hb => ?_) <;> (try rw [List.length_map] at hb) <;> (try (exfalso; omega; done)) | refine And.intro rfl ?_ | refine s5 nm nm ?_ | refine .inr ⟨rfl, rfl, rfl, ?_⟩ | refine ⟨_, singles_rfl _, ?_⟩ | refine .inl ⟨rfl, rfl, ?_⟩ | fail)
    refine Wp.draw (more := more6 true _ _) more6_det more6_ok FOK.wide rfl (by decide +kernel) (by conv => lhs; reduce) ?_
    repeat' ((try conv => whnf); first | refine And.intro rfl ?_ | refine And.intro bd ?_ | refine ⟨_, _, rfl, rfl, ?_⟩ | fail)
    refine ⟨_, qd, ?_⟩
    repeat' ((try conv => whnf); first | (first | refine k3 (fun hb => ?_) fun hb => ?_ | refine k4 (fun hb => ?_) fun hb => ?_) <;> (try rw [List.length_map] at hb) <;> (try (exfalso; omega; done)) | refine And.intro rfl ?_ | refine s4 nm ?_ | refine s6 nm nm ?_ | refine And.intro bd ?_ | refine .inr ⟨rfl, rfl, rfl, ?_⟩ | refine ⟨_, _, rfl, rfl, ?_⟩ | refine .inl ⟨rfl, rfl, ?_⟩ | fail)
    · exact PSub.of_eq (by rw [nok1 hk2 (by rename_i h2; unfold PrOK; unfold Diff at h2; omega)])
    · have et : ((k : Int) - 1).toNat + 1 = k := by omega
      refine ⟨_, compare_spec (n.apart[((k : Int) - 1).toNat]'(by omega)) n.apart[k], ?_⟩
      repeat' ((try conv => whnf); first | (first | refine k3 (fun hb => ?_) fun hb => ?_ | refine k4 (fun hb => ?_) fun hb => ?_) <;> (try rw [List.length_map] at hb) <;> (try (exfalso; omega; done)) | refine s4 nm ?_ | fail)
      · exact PSub.of_eq (by rw [nok2 hk2 et (fun h => by have := cmpP_lt.2 h; omega)])
      · refine ⟨k + 1, Le.of (by (repeat' (first | exact trivial | refine And.intro ?_ ?_ | exact Or.inl rfl | fail))) (by (repeat' (first | exact trivial | refine And.intro ?_ ?_ | refine Exists.intro _ (And.intro rfl ?_) | exact Or.inl rfl | fail))) rfl rfl rfl, ⟨by omega, ap_succ hap hk2 ?_ fun i hi => ?_⟩, by omega⟩
        · rename_i h1 h2 h3 h4; unfold PrOK; unfold Diff at *; omega
        · subst hi
          have e : (((i + 1 : Nat) : Int) - 1).toNat = i := by omega
          simp only [e] at hb
          exact cmpP_lt.1 (by omega)
    · refine ⟨k + 1, Le.of (by (repeat' (first | exact trivial | refine And.intro ?_ ?_ | exact Or.inl rfl | fail))) (by (repeat' (first | exact trivial | refine And.intro ?_ ?_ | refine Exists.intro _ (And.intro rfl ?_) | exact Or.inl rfl | fail))) rfl rfl rfl, ⟨by omega, ap_succ hap hk2 ?_ fun i hi => by omega⟩, by omega⟩
      unfold PrOK; unfold Diff at *; omega
    · exact PSub.of_eq (by rw [nok1 hk2 (by unfold PrOK; unfold Diff at *; omega)])
  · have e : k = n.apart.length := by omega
    subst e
    refine code_sound (more := more6 false _ _) more6_ok FOK.wide _ ?_
    repeat' ((try conv => whnf); first | (first | refine k3 (fun hb => ?_) fun hb => ?_ | refine k4 (fun hb => ?_) fun hb => ?_) <;> (try rw [List.length_map] at hb) <;> (try (exfalso; omega; done)) | fail)
    exact PSub.of_eq (by rw [Nt.check_ok (hok.2 ⟨by omega, by assumption, hap⟩)])
end Go.Proofs.Ytlploeedieenbaa
/- Networks: Send, Lose, Repeat, Deliver. Conditions: none. -/
namespace Go.Proofs.Ytlploeedieenbaa
open Go.Avc
def encNE (x : Nt × Int) : PV := .tup [encN x.1, .int x.2]
noncomputable def Nt.send (n : Nt) (p : Pk) : Nt × Int := if n.check = 0 ∧ p.ok then (if (n.queue.length : Int) = 4096 then (zeroN, 2) else (⟨n.queue ++ [p], n.apart⟩, 0)) else (zeroN, 490)
noncomputable def Nt.chk (n : Nt) (at_ : Int) : Int := if n.check = 0 then (if 0 ≤ at_ ∧ at_ < n.queue.length then 0 else 1) else n.check
noncomputable def Nt.lose (n : Nt) (at_ : Int) : Nt × Int := if n.chk at_ = 0 then (⟨n.queue.eraseIdx at_.toNat, n.apart⟩, 0) else (zeroN, n.chk at_)
noncomputable def Nt.again (n : Nt) (at_ : Int) : Nt × Int := if n.chk at_ = 0 then (if (n.queue.length : Int) = 4096 then (zeroN, 2) else (⟨n.queue ++ [n.queue.getD at_.toNat zeroPk], n.apart⟩, 0)) else (zeroN, n.chk at_)
def Nt.cutOff (n : Nt) (a b : Int) : Bool := decide (pairOf a b ∈ n.apart)
noncomputable def Nt.deliver (n : Nt) (at_ : Int) : Pk × Nt × Int := if n.chk at_ = 0 then ((if n.cutOff (n.queue.getD at_.toNat zeroPk).src (n.queue.getD at_.toNat zeroPk).dst then zeroPk else n.queue.getD at_.toNat zeroPk), ⟨n.queue.eraseIdx at_.toNat, n.apart⟩, 0) else (zeroPk, zeroN, n.chk at_)
theorem sub_sl {sz : Nat} {r r' : List (List PV)} (h : r = r') : PSub (.sl sz r) (.sl sz r') := by rw [h]; exact PSub.refl _
theorem sub_ne {q : List (List PV)} {a : PV} {x : Nt × Int} {n : Nt} {e : Int} (hx : x = (n, e)) (h : q = n.queue.map encPk) (ha : a = encA n.apart) : PSub (.tup [.agg [.sl 3 q, a], .int e]) (encNE x) := by
  subst hx; subst h; subst ha; exact PSub.refl _
theorem sub_n0 {x : Nt × Int} {e : Int} (hx : x = (zeroN, e)) : PSub (.tup [.agg [.val (.slice none 0 0), .val (.slice none 0 0)], .int e]) (encNE x) := by
  subst hx; exact PSub.tup ⟨PSub.agg ⟨PSub.nil 3, PSub.nil 2, trivial⟩, PSub.refl _, trivial⟩
set_option maxRecDepth 20000
set_option maxHeartbeats 4000000
set_option linter.unusedSimpArgs false
attribute [local irreducible] PSub Wp PSpec Le Need Both
theorem new_spec : PSpec Try.prog 16 [] (encN zeroN) := by
  refine PSpec.of_vc (fun Γ => more7 false Γ.P Γ.fx) (fun Γ => more7_ok) Try.func16 rfl Try.call16 (by simp) ?_
  rintro ⟨P, N, w0, X, β0, fx, y, hy, pk, df⟩ rfl rfl rfl hoff rfl; change y.on = false at hoff
  skip
  exact PSub.agg ⟨PSub.nil 3, PSub.nil 2, trivial⟩
theorem cloneB_spec (b : List UInt8) (hb : b.length ≤ 1048576) : PSpec Try.prog 29 [encB b] (encB b) := by
  refine PSpec.of_vc (fun Γ => more7 false Γ.P Γ.fx) (fun Γ => more7_ok) Try.func29 rfl Try.call29 (by simp) ?_
  rintro ⟨P, N, w0, X, β0, fx, y, hy, pk, df⟩ rfl rfl rfl hoff rfl; change y.on = false at hoff
  skip
  intro r hr
  repeat' ((try conv => whnf); first | refine k6 (fun hb => ?_) fun hb => ?_ | refine And.intro rfl ?_ | refine And.intro bd ?_ | fail)
  · have e : b = [] := List.map_eq_nil_iff.1 (hr hb)
    subst e
    exact PSub.nil 1
  exact sub_sl (by simp [List.take_of_length_le])
theorem cloneQ_spec (l : List Pk) (hl : l.length ≤ 100000) : GSpec Try.prog 30 1 ⟨numE 0 [.pure (encQ l)], [], []⟩ [] 1 ⟨[(0, .lsl 7 0 l.length)], [(7, some (.row 3 (l.map encPk)))], [7]⟩ := by
  refine GSpec.of_vc (fun Γ => more7 false Γ.P Γ.fx) (fun Γ => more7_ok) Try.func30 rfl Try.call30 (by decide) ?_
  rintro ⟨P, N, w0, X, β0, fx, y, hy, pk, df⟩ rfl rfl rfl hoff rfl; change y.on = false at hoff
  skip
  intro r hr
  repeat' ((try conv => whnf); first | refine k6 (fun hb => ?_) fun hb => ?_ | refine And.intro rfl ?_ | refine And.intro bd ?_ | fail)
  · have e : l = [] := List.map_eq_nil_iff.1 (hr hb)
    subst e
    exact Le.trans (Le.virt (k := 7) (sz := 3) rfl rfl (by omega)) (Le.of ⟨Or.inr (Or.inr (Or.inr ⟨7, rfl, rfl, rfl⟩)), trivial⟩ ⟨rfl, trivial⟩ rfl rfl rfl)
  · exact Le.of ⟨SubA.lsl (by simp), trivial⟩ ⟨rfl, trivial⟩ rfl rfl rfl
theorem send_spec (n : Nt) (p : Pk) (hq : n.queue.length ≤ 100000) (ha : n.apart.length ≤ 1000000) : PSpec Try.prog 11 [encN n, .agg (encPk p)] (encNE (n.send p)) := by
  have qc := check_spec n (by omega) ha
  have qv := valid_spec p
  obtain ⟨c, hc⟩ : ∃ c, c = n.check := ⟨_, rfl⟩
  obtain ⟨v, hv⟩ : ∃ v, v = decide p.ok := ⟨_, rfl⟩
  rw [← hc] at qc
  rw [← hv] at qv
  have qd : v = true → PSpec Try.prog 29 [encB p.data] (encB p.data) := fun h => cloneB_spec _ (by rw [hv, decide_eq_true_eq] at h; have := h.2; omega)
  have no : c ≠ 0 ∨ v = false → n.send p = (zeroN, 490) := fun h => by
    unfold Nt.send
    rw [if_neg]
    rintro ⟨h1, h2⟩
    rcases h with h | h
    · exact h (hc.trans h1)
    · rw [hv, decide_eq_false_iff_not] at h; exact h h2
  have yes : c = 0 → v = true → n.send p = if (n.queue.length : Int) = 4096 then (zeroN, 2) else (⟨n.queue ++ [p], n.apart⟩, 0) := fun h1 h2 => by
    unfold Nt.send
    rw [if_pos ⟨hc ▸ h1, by rw [hv, decide_eq_true_eq] at h2; exact h2⟩]
  refine PSpec.of_vc (fun Γ => more7 false Γ.P Γ.fx) (fun Γ => more7_ok) Try.func11 rfl Try.call11 (by simp) ?_
  rintro ⟨P, N, w0, X, β0, fx, y, hy, pk, df⟩ rfl rfl rfl hoff rfl; change y.on = false at hoff
  skip
  refine .inl ⟨_, qc, ?_⟩
  repeat' ((try conv => whnf); first | (first | refine k3 (fun hb => ?_) fun hb => ?_ | refine k4 (fun hb => ?_) fun hb => ?_) <;> (try rw [List.length_map] at hb) <;> (try (exfalso; omega; done)) | refine And.intro rfl ?_ | fail)
  · refine .inl ⟨_, qv, ?_⟩
    repeat' ((try conv => whnf); first | (first | refine k3 (fun hb => ?_) fun hb => ?_ | refine k4 (fun hb => ?_) fun hb => ?_) <;> (try rw [List.length_map] at hb) <;> (try (exfalso; omega; done)) | refine k5 (fun hb => ?_) fun hb => ?_ | refine And.intro rfl ?_ | fail)
    · rename_i h1 h2; exact sub_n0 (by rw [yes (by assumption) (by assumption), if_pos (by omega)])
    · refine .inl ⟨_, qd (by assumption), ?_⟩
      repeat' ((try conv => whnf); first | refine And.intro rfl ?_ | fail)
      refine Wp.drawG (more := more7 true _ _) more7_det more7_ok FOK.wide rfl (by decide +kernel) (by conv => lhs; reduce) ?_
      skip
      refine .inr ⟨[(7, 26)], [.pure (encQ n.queue)], [], [], [], 1, _, cloneQ_spec n.queue hq, ⟨Or.inl rfl, trivial⟩, trivial, ?_⟩
      repeat' ((try conv => whnf); first | refine And.intro rfl ?_ | refine And.intro bd ?_ | fail)
      refine sub_ne (n := ⟨n.queue ++ [p], n.apart⟩) (by rw [yes (by assumption) (by assumption), if_neg (by omega)]) ?_ rfl
      rw [List.drop_zero, List.take_of_length_le (by simp), List.map_append]
      rfl
    · exact sub_n0 (no (.inr (by assumption)))
  · exact sub_n0 (no (.inl hb))
theorem chk_spec (n : Nt) (at_ : Int) (hq : n.queue.length ≤ 100000) (ha : n.apart.length ≤ 1000000) : PSpec Try.prog 45 [encN n, .int at_] (.int (n.chk at_)) := by
  have qc := check_spec n (by omega) ha
  have e : n.chk at_ = if n.check = 0 then (if 0 ≤ at_ ∧ at_ < n.queue.length then 0 else 1) else n.check := rfl
  obtain ⟨c, hc⟩ : ∃ c, c = n.check := ⟨_, rfl⟩
  rw [← hc] at qc e
  obtain ⟨r, hr⟩ : ∃ r, r = n.chk at_ := ⟨_, rfl⟩
  rw [← hr] at e ⊢
  refine PSpec.of_vc (fun Γ => more7 false Γ.P Γ.fx) (fun Γ => more7_ok) Try.func45 rfl Try.call45 (by simp) ?_
  rintro ⟨P, N, w0, X, β0, fx, y, hy, pk, df⟩ rfl rfl rfl hoff rfl; change y.on = false at hoff
  skip
  refine .inl ⟨_, qc, ?_⟩
  repeat' ((try conv => whnf); first | (first | refine k3 (fun hb => ?_) fun hb => ?_ | refine k4 (fun hb => ?_) fun hb => ?_) <;> (try rw [List.length_map] at hb) <;> (try (exfalso; omega; done)) | fail)
  all_goals (refine PSub.val_int ?_; (try simp only [List.length_map] at *); split at e <;> (try split at e) <;> omega)
theorem chk_rng {n : Nt} {at_ : Int} (h : n.chk at_ = 0) : 0 ≤ at_ ∧ at_ < n.queue.length := by
  unfold Nt.chk at h
  split at h
  · split at h
    · assumption
    · cases h
  · contradiction
theorem erase_rows (l : List Pk) (k : Nat) : (l.eraseIdx k).map encPk = (l.map encPk).take k ++ (l.map encPk).drop (k + 1) := by
  rw [List.eraseIdx_eq_take_drop_succ]
  simp
theorem lose_spec (n : Nt) (at_ : Int) (hq : n.queue.length ≤ 100000) (ha : n.apart.length ≤ 1000000) : PSpec Try.prog 23 [encN n, .int at_] (encNE (n.lose at_)) := by
  have qc := chk_spec n at_ hq ha
  obtain ⟨c, hc⟩ : ∃ c, c = n.chk at_ := ⟨_, rfl⟩
  have yes : c = 0 → n.lose at_ = (⟨n.queue.eraseIdx at_.toNat, n.apart⟩, 0) := fun h => by unfold Nt.lose; rw [if_pos (hc ▸ h)]
  have no : c ≠ 0 → n.lose at_ = (zeroN, c) := fun h => by unfold Nt.lose; rw [if_neg (hc ▸ h), hc]
  have rng : c = 0 → 0 ≤ at_ ∧ at_ < n.queue.length := fun h => chk_rng (hc ▸ h)
  rw [← hc] at qc
  by_cases h0 : c = 0
  · have hr := rng h0
    obtain ⟨k, rfl⟩ : ∃ k : Nat, at_ = k := ⟨at_.toNat, by omega⟩
    refine PSpec.of_vc (fun Γ => more7 false Γ.P Γ.fx) (fun Γ => more7_ok) Try.func23 rfl Try.call23 (by simp) ?_
    rintro ⟨P, N, w0, X, β0, fx, y, hy, pk, df⟩ rfl rfl rfl hoff rfl; change y.on = false at hoff
    skip
    refine .inl ⟨_, qc, ?_⟩
    repeat' ((try conv => whnf); first | (first | refine k3 (fun hb => ?_) fun hb => ?_ | refine k4 (fun hb => ?_) fun hb => ?_) <;> (try rw [List.length_map] at hb) <;> (try (exfalso; omega; done)) | fail)
    refine Wp.draw (more := more7 true _ _) more7_det more7_ok FOK.wide rfl (by decide +kernel) (by conv => lhs; reduce) ?_
    repeat' ((try conv => whnf); first | refine And.intro rfl ?_ | refine s4 nm ?_ | refine And.intro bd ?_ | fail)
    by_cases hlast : k + 1 = n.queue.length
    · refine ⟨true, by simp [cut]; omega, ?_⟩
      repeat' ((try conv => whnf); first | refine And.intro rfl ?_ | fail)
      refine sub_ne (n := ⟨n.queue.eraseIdx k, n.apart⟩) (by rw [yes h0]; rfl) ?_ rfl
      rw [erase_rows, List.drop_of_length_le (by simp; omega)]
      simp [cut]
    · refine ⟨false, by simp [cut]; omega, by simp only [lenS]; omega, by simp only [lenS]; omega, ?_⟩
      repeat' ((try conv => whnf); first | refine And.intro rfl ?_ | fail)
      refine sub_ne (n := ⟨n.queue.eraseIdx k, n.apart⟩) (by rw [yes h0]; rfl) ?_ rfl
      rw [erase_rows, List.drop_zero, List.take_of_length_le (by simp)]
      simp [cut]
      exact List.take_of_length_le (by simp)
  · refine PSpec.of_vc (fun Γ => more7 false Γ.P Γ.fx) (fun Γ => more7_ok) Try.func23 rfl Try.call23 (by simp) ?_
    rintro ⟨P, N, w0, X, β0, fx, y, hy, pk, df⟩ rfl rfl rfl hoff rfl; change y.on = false at hoff
    skip
    refine .inl ⟨_, qc, ?_⟩
    repeat' ((try conv => whnf); first | (first | refine k3 (fun hb => ?_) fun hb => ?_ | refine k4 (fun hb => ?_) fun hb => ?_) <;> (try rw [List.length_map] at hb) <;> (try (exfalso; omega; done)) | refine And.intro rfl ?_ | fail)
    exact sub_n0 (no h0)
theorem again_spec (n : Nt) (at_ : Int) (hq : n.queue.length ≤ 100000) (ha : n.apart.length ≤ 1000000) : PSpec Try.prog 25 [encN n, .int at_] (encNE (n.again at_)) := by
  have qc := chk_spec n at_ hq ha
  obtain ⟨c, hc⟩ : ∃ c, c = n.chk at_ := ⟨_, rfl⟩
  have yes : c = 0 → n.again at_ = (if (n.queue.length : Int) = 4096 then (zeroN, 2) else (⟨n.queue ++ [n.queue.getD at_.toNat zeroPk], n.apart⟩, 0)) := fun h => by unfold Nt.again; rw [if_pos (hc ▸ h)]
  have no : c ≠ 0 → n.again at_ = (zeroN, c) := fun h => by unfold Nt.again; rw [if_neg (hc ▸ h), hc]
  have rng : c = 0 → 0 ≤ at_ ∧ at_ < n.queue.length := fun h => chk_rng (hc ▸ h)
  rw [← hc] at qc
  by_cases h0 : c = 0
  · have hr := rng h0
    obtain ⟨k, rfl⟩ : ∃ k : Nat, at_ = k := ⟨at_.toNat, by omega⟩
    refine PSpec.of_vc (fun Γ => more7 false Γ.P Γ.fx) (fun Γ => more7_ok) Try.func25 rfl Try.call25 (by simp) ?_
    rintro ⟨P, N, w0, X, β0, fx, y, hy, pk, df⟩ rfl rfl rfl hoff rfl; change y.on = false at hoff
    skip
    refine .inl ⟨_, qc, ?_⟩
    repeat' ((try conv => whnf); first | (first | refine k3 (fun hb => ?_) fun hb => ?_ | refine k4 (fun hb => ?_) fun hb => ?_) <;> (try rw [List.length_map] at hb) <;> (try (exfalso; omega; done)) | refine And.intro rfl ?_ | fail)
    · exact sub_n0 (by rw [yes h0, if_pos (by omega)])
    · refine Wp.drawG (more := more7 true _ _) more7_det more7_ok FOK.wide rfl (by decide +kernel) (by conv => lhs; reduce) ?_
      skip
      refine .inr ⟨[(7, 21)], [.pure (encQ n.queue)], [], [], [], 1, _, cloneQ_spec n.queue hq, ⟨Or.inl rfl, trivial⟩, trivial, ?_⟩
      repeat' ((try conv => whnf); first | refine And.intro rfl ?_ | refine s5 nm nm ?_ | refine And.intro bd ?_ | fail)
      have eg : n.queue.getD k zeroPk = n.queue[k]'(by omega) := by simp [List.getD, show k < n.queue.length by omega]
      refine sub_ne (n := ⟨n.queue ++ [n.queue.getD k zeroPk], n.apart⟩) (by rw [yes h0, if_neg (by omega)]; rfl) ?_ rfl
      rw [eg, List.drop_zero, List.take_of_length_le (by simp), List.map_append]
      rfl
  · refine PSpec.of_vc (fun Γ => more7 false Γ.P Γ.fx) (fun Γ => more7_ok) Try.func25 rfl Try.call25 (by simp) ?_
    rintro ⟨P, N, w0, X, β0, fx, y, hy, pk, df⟩ rfl rfl rfl hoff rfl; change y.on = false at hoff
    skip
    refine .inl ⟨_, qc, ?_⟩
    repeat' ((try conv => whnf); first | (first | refine k3 (fun hb => ?_) fun hb => ?_ | refine k4 (fun hb => ?_) fun hb => ?_) <;> (try rw [List.length_map] at hb) <;> (try (exfalso; omega; done)) | refine And.intro rfl ?_ | fail)
    exact sub_n0 (no h0)
theorem pair_spec (a b : Int) : PSpec Try.prog 37 [.int a, .int b] (.agg (encP2 (pairOf a b))) := by
  refine PSpec.of_vc (fun Γ => more7 false Γ.P Γ.fx) (fun Γ => more7_ok) Try.func37 rfl Try.call37 (by simp) ?_
  rintro ⟨P, N, w0, X, β0, fx, y, hy, pk, df⟩ rfl rfl rfl hoff rfl; change y.on = false at hoff
  repeat' ((try conv => whnf); first | refine And.intro rfl ?_ | refine .inr ⟨rfl, rfl, rfl, ?_⟩ | fail)
  exact PSub.refl _
end Go.Proofs.Ytlploeedieenbaa
