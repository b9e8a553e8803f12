/- Disks: plain law: syncing after each write and syncing once. Conditions: none. -/
import Derived.Test.YtmkkfgifeekgeaaVkP
namespace Go.Proofs.Ytmkkfgifeekgeaa
open Go.Avc
def pend (ws : List (Int × UInt8)) : List (Int × List UInt8) := ws.map fun w => (w.1, put128 [w.2])
theorem pend_take (ws : List (Int × UInt8)) (k : Nat) : pend (ws.take k) = (pend ws).take k := by simp [pend]
theorem pend_len (ws : List (Int × UInt8)) : (pend ws).length = ws.length := by simp [pend]
def togP (d : Disk) (k : Nat) : Prop := d.left = -1 ∨ (k : Int) ≤ d.left
instance (d : Disk) (k : Nat) : Decidable (togP d k) := by unfold togP; infer_instance
/-- The disk after k writes, each of which was synced. -/
def tog (d : Disk) (ws : List (Int × UInt8)) (k : Nat) : Disk × Int :=
  if togP d k then (⟨perform d.sectors (pend (ws.take k)), [], if d.left = -1 then -1 else d.left - k, false⟩, 0)
  else (⟨tear (perform d.sectors (pend (ws.take d.left.toNat))) ((pend ws).getD d.left.toNat (0, [])), [], 0, true⟩, 470)
structure TogOK (d : Disk) (ws : List (Int × UInt8)) : Prop where
  ready : d.ready = 0
  none : d.pending = []
  len : ws.length ≤ 20
  ran : ∀ w ∈ ws, 0 ≤ w.1 ∧ w.1 < d.sectors.length
theorem tog_zero {d : Disk} {ws : List (Int × UInt8)} (h : TogOK d ws) : tog d ws 0 = (d, 0) := by
  obtain ⟨⟨_, _, _, g4, _⟩, hs⟩ := ready_of h.ready
  have hp := h.none
  have : togP d 0 := by unfold togP; omega
  unfold tog
  rw [if_pos this]
  obtain ⟨a, b, c, e⟩ := d
  simp only at hs hp g4 ⊢
  subst hs; subst hp
  simp only [List.take_zero, pend, List.map_nil, perform, List.foldl_nil]
  congr 2
  split <;> omega
theorem pend_128 {ws : List (Int × UInt8)} : ∀ w ∈ pend ws, w.2.length = 128 := fun w hw => by
  obtain ⟨x, _, rfl⟩ := List.mem_map.1 hw
  exact put128_len (by simp)
theorem tog_ready {d : Disk} {ws : List (Int × UInt8)} {k : Nat} (h : TogOK d ws) (hk : togP d k) : (tog d ws k).1.ready = 0 := by
  obtain ⟨⟨g1, g2, g3, g4, g5, g6, g7⟩, hs⟩ := ready_of h.ready
  unfold tog
  rw [if_pos hk]
  refine ready_iff.2 ⟨⟨by rw [perform_len]; exact g1, by rw [perform_len]; exact g2, by simp, ?_, ?_, perform_128 g6 pend_128, by simp⟩, rfl⟩
  · show ¬ (if d.left = -1 then (-1 : Int) else d.left - k) < -1
    unfold togP at hk
    split <;> omega
  · show ¬ 65536 < (if d.left = -1 then (-1 : Int) else d.left - k)
    split <;> omega
theorem tog_len {d : Disk} {ws : List (Int × UInt8)} {k : Nat} (hk : togP d k) : (tog d ws k).1.sectors.length = d.sectors.length := by
  unfold tog; rw [if_pos hk]; exact perform_len _ _
theorem tog_pend {d : Disk} {ws : List (Int × UInt8)} {k : Nat} : (tog d ws k).1.pending = [] := by
  unfold tog; split <;> rfl
theorem tog_write {d : Disk} {ws : List (Int × UInt8)} {k : Nat} (h : TogOK d ws) (hk : togP d k) (hl : k < ws.length) :
    (tog d ws k).1.write ws[k].1 [ws[k].2] = ({ (tog d ws k).1 with pending := [(ws[k].1, put128 [ws[k].2])] }, 0) := by
  obtain ⟨r0, r1⟩ := h.ran _ (List.getElem_mem hl)
  have := write_ok (d := (tog d ws k).1) (a := ws[k].1) (b := [ws[k].2]) (tog_ready h hk) r0 (by rw [tog_len hk]; exact r1) (by simp) (by rw [tog_pend]; simp)
  rw [this, tog_pend]
  rfl
theorem pend_get {ws : List (Int × UInt8)} {k : Nat} (hl : k < ws.length) : (pend ws)[k]'(by rw [pend_len]; exact hl) = (ws[k].1, put128 [ws[k].2]) := by simp [pend]
theorem tog_step {d : Disk} {ws : List (Int × UInt8)} {k : Nat} (h : TogOK d ws) (hk : togP d k) (hl : k < ws.length) : ((tog d ws k).1.write ws[k].1 [ws[k].2]).1.sync = tog d ws (k + 1) := by
  obtain ⟨r0, r1⟩ := h.ran _ (List.getElem_mem hl)
  have hr := write_ready (d := (tog d ws k).1) (a := ws[k].1) (b := [ws[k].2]) (tog_ready h hk) r0 (by rw [tog_len hk]; exact r1) (by simp) (by rw [tog_pend]; simp)
  rw [tog_pend, List.nil_append] at hr
  rw [tog_write h hk hl]
  obtain ⟨⟨_, _, _, g4, _⟩, _⟩ := ready_of h.ready
  unfold Disk.sync
  rw [if_pos hr]
  have hleft : (tog d ws k).1.left = if d.left = -1 then -1 else d.left - k := by unfold tog; rw [if_pos hk]
  have hsec : (tog d ws k).1.sectors = perform d.sectors (pend (ws.take k)) := by unfold tog; rw [if_pos hk]
  simp only [hleft, hsec, List.length_singleton]
  have hnext : pend (ws.take (k + 1)) = pend (ws.take k) ++ [(ws[k].1, put128 [ws[k].2])] := by
    rw [List.take_succ_eq_append_getElem hl]; simp only [pend, List.map_append, List.map_cons, List.map_nil]
  by_cases hk1 : togP d (k + 1)
  · have hc : (if d.left = -1 then (-1 : Int) else d.left - k) = -1 ∨ ((1 : Nat) : Int) ≤ (if d.left = -1 then (-1 : Int) else d.left - k) := by
      unfold togP at hk1
      split <;> omega
    rw [if_pos hc]
    unfold tog
    rw [if_pos hk1, hnext, perform_snoc]
    simp only [perform, List.foldl_cons, List.foldl_nil]
    congr 2
    unfold togP at hk1
    by_cases hL : d.left = -1
    · simp [hL]
    · have h3 : ¬ (d.left - (k : Int) = -1) := by omega
      simp only [if_neg hL, if_neg h3]
      omega
  · have hL : d.left ≠ -1 ∧ d.left = k := by unfold togP at hk hk1; omega
    have hc : ¬ ((if d.left = -1 then (-1 : Int) else d.left - k) = -1 ∨ ((1 : Nat) : Int) ≤ (if d.left = -1 then (-1 : Int) else d.left - k)) := by
      rw [if_neg hL.1]; omega
    rw [if_neg hc]
    unfold tog
    rw [if_neg hk1]
    have e1 : d.left.toNat = k := by omega
    have e2 : (d.left - (k : Int)).toNat = 0 := by omega
    rw [if_neg hL.1, e1, e2]
    have e3 : (pend ws).getD k (0, []) = (ws[k].1, put128 [ws[k].2]) := by
      have : k < (pend ws).length := by rw [pend_len]; exact hl
      simp only [List.getD, List.getElem?_eq_getElem this, Option.getD_some]
      exact pend_get hl
    rw [e3]
    rfl
theorem tog_end {d : Disk} {ws : List (Int × UInt8)} {k : Nat} (h : TogOK d ws) (hk : k ≤ ws.length) (hk0 : k = 0 ∨ togP d (k - 1)) (he : k = ws.length ∨ ¬ togP d k) :
    ({ d with pending := pend ws } : Disk).sync = tog d ws k := by
  obtain ⟨⟨g1, g2, g3, g4, g5, g6, g7⟩, hs⟩ := ready_of h.ready
  have hr : ({ d with pending := pend ws } : Disk).ready = 0 := by
    refine ready_iff.2 ⟨⟨g1, g2, by simp only [pend_len]; have := h.len; omega, g4, g5, g6, fun p hp => ?_⟩, hs⟩
    obtain ⟨x, hx, rfl⟩ := List.mem_map.1 hp
    obtain ⟨r0, r1⟩ := h.ran x hx
    exact ⟨by simp only; omega, by simp only; omega, put128_len (by simp)⟩
  unfold Disk.sync
  rw [if_pos hr]
  simp only [pend_len]
  by_cases hP : togP d ws.length
  · have hkn : k = ws.length := by
      rcases he with he | he
      · exact he
      · exact absurd (by unfold togP at hP ⊢; omega) he
    subst hkn
    have hc : d.left = -1 ∨ (ws.length : Int) ≤ d.left := hP
    rw [if_pos hc]
    unfold tog
    rw [if_pos hP, List.take_length]
  · have hc : ¬ (d.left = -1 ∨ (ws.length : Int) ≤ d.left) := hP
    rw [if_neg hc]
    have hkL : ¬ togP d k := by
      rcases he with he | he
      · rw [he]; exact hP
      · exact he
    unfold tog
    rw [if_neg hkL, pend_take]
end Go.Proofs.Ytmkkfgifeekgeaa
