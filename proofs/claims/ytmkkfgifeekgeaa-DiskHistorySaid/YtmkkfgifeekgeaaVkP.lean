/- Disks: plain laws: what is read behind a write and behind a sync. Conditions: none. -/
import Derived.Test.YtmkkfgifeekgeaaVkJ
namespace Go.Proofs.Ytmkkfgifeekgeaa
open Go.Avc
def Disk.content (d : Disk) (at_ : Int) : List UInt8 := (rdPend d.pending at_).getD (d.sectors.getD at_.toNat [])
theorem ready_iff {d : Disk} : d.ready = 0 ↔ d.good ∧ d.stopped = false := ⟨ready_of, fun h => by simp [Disk.ready, h]⟩
theorem write_zero {d : Disk} {a : Int} {b : List UInt8} (h : (d.write a b).2 = 0) :
    d.ready = 0 ∧ 0 ≤ a ∧ a < d.sectors.length ∧ b.length ≤ 128 ∧ d.pending.length ≠ 4096 ∧ (d.write a b).1 = { d with pending := d.pending ++ [(a, put128 b)] } := by
  unfold Disk.write at h ⊢
  split at h
  · rename_i hr
    split at h
    · cases h
    · split at h
      · cases h
      · split at h
        · cases h
        · rename_i h1 h2 h3
          refine ⟨hr, by omega, by omega, by omega, h3, ?_⟩
          rw [if_pos hr, if_neg h1, if_neg h2, if_neg h3]
  · cases h
theorem write_ok {d : Disk} {a : Int} {b : List UInt8} (hr : d.ready = 0) (h0 : 0 ≤ a) (h1 : a < d.sectors.length) (h2 : b.length ≤ 128) (h3 : d.pending.length ≠ 4096) :
    d.write a b = ({ d with pending := d.pending ++ [(a, put128 b)] }, 0) := by
  unfold Disk.write
  rw [if_pos hr, if_neg (by omega), if_neg (by omega), if_neg h3]
theorem write_full {d : Disk} {a : Int} {b : List UInt8} (hr : d.ready = 0) (h0 : 0 ≤ a) (h1 : a < d.sectors.length) (h2 : b.length ≤ 128) (h : (d.write a b).2 ≠ 0) : (d.write a b).2 = 2 := by
  unfold Disk.write at h ⊢
  rw [if_pos hr, if_neg (by omega), if_neg (by omega)] at h ⊢
  split at h
  · rename_i h4; rw [if_pos h4]
  · exact absurd rfl h
theorem put128_len {b : List UInt8} (h : b.length ≤ 128) : (put128 b).length = 128 := by simp [put128]; omega
theorem put128_take (b : List UInt8) : (put128 b).take b.length = b := by simp [put128]
theorem write_ready {d : Disk} {a : Int} {b : List UInt8} (hr : d.ready = 0) (h0 : 0 ≤ a) (h1 : a < d.sectors.length) (h2 : b.length ≤ 128) (h3 : d.pending.length ≠ 4096) :
    ({ d with pending := d.pending ++ [(a, put128 b)] } : Disk).ready = 0 := by
  obtain ⟨⟨g1, g2, g3, g4, g5, g6, g7⟩, hs⟩ := ready_of hr
  refine ready_iff.2 ⟨⟨g1, g2, by simp; omega, g4, g5, g6, fun p hp => ?_⟩, hs⟩
  rcases List.mem_append.1 hp with hp | hp
  · exact g7 p hp
  · rw [List.mem_singleton.1 hp]
    exact ⟨by simpa using h0, by simpa using h1, put128_len h2⟩
theorem read_zero {d : Disk} {a : Int} (h : (d.read a).2 = 0) : d.ready = 0 ∧ 0 ≤ a ∧ a < d.sectors.length := by
  unfold Disk.read at h
  split at h
  · rename_i hr
    split at h
    · cases h
    · exact ⟨hr, by omega, by omega⟩
  · rename_i hr; exact absurd h hr
theorem read_ok {d : Disk} {a : Int} (hr : d.ready = 0) (h0 : 0 ≤ a) (h1 : a < d.sectors.length) : d.read a = (d.content a, 0) := by
  unfold Disk.read
  rw [if_pos hr, if_neg (by omega)]
  rfl
theorem rdPend_mem {ws : List (Int × List UInt8)} {a : Int} {s : List UInt8} (h : rdPend ws a = some s) : ∃ w ∈ ws, w.2 = s := by
  unfold rdPend at h
  obtain ⟨w, hw, rfl⟩ := Option.map_eq_some_iff.1 h
  exact ⟨w, List.mem_reverse.1 (List.mem_of_find?_eq_some hw), rfl⟩
theorem content_len {d : Disk} {a : Int} (hr : d.ready = 0) (h0 : 0 ≤ a) (h1 : a < d.sectors.length) : (d.content a).length = 128 := by
  obtain ⟨_, _, l3, l4⟩ := ready_le hr
  unfold Disk.content
  cases h : rdPend d.pending a with
  | some s =>
    obtain ⟨w, hw, rfl⟩ := rdPend_mem h
    exact (l4 w hw).2.2
  | none =>
    have : a.toNat < d.sectors.length := by omega
    simp only [Option.getD_none, List.getD, List.getElem?_eq_getElem this, Option.getD_some]
    exact l3 _ (List.getElem_mem this)
theorem content_write (d : Disk) (a k : Int) (x : List UInt8) : ({ d with pending := d.pending ++ [(a, x)] } : Disk).content k = if a = k then x else d.content k := by
  simp only [Disk.content, rdPend_snoc]
  by_cases h : a = k <;> simp [h]
theorem snocInd {α : Type} {p : List α → Prop} (h0 : p []) (h1 : ∀ l a, p l → p (l ++ [a])) (l : List α) : p l := by
  suffices h : ∀ m : List α, p m.reverse by simpa using h l.reverse
  intro m
  induction m with
  | nil => exact h0
  | cons a m ih => rw [List.reverse_cons]; exact h1 _ _ ih
theorem content_perform {ss : List (List UInt8)} : ∀ {ws : List (Int × List UInt8)} {k : Int}, (∀ w ∈ ws, 0 ≤ w.1) → 0 ≤ k → k < ss.length → (perform ss ws).getD k.toNat [] = (rdPend ws k).getD (ss.getD k.toNat []) := by
  intro ws
  induction ws using snocInd with
  | h0 => intro k _ _ _; simp [perform, rdPend]
  | h1 ws w ih =>
    intro k hw h0 h1
    rw [perform_snoc, rdPend_snoc]
    have hw1 : 0 ≤ w.1 := hw w (by simp)
    by_cases h : w.1 = k
    · subst h
      have : w.1.toNat < (perform ss ws).length := by rw [perform_len]; omega
      simp [List.getD, this]
    · rw [if_neg h, ← ih (fun x hx => hw x (by simp [hx])) h0 h1]
      have : w.1.toNat ≠ k.toNat := by omega
      simp [List.getD, List.getElem?_set_ne this]
theorem sync_zero {d : Disk} (h : d.sync.2 = 0) : d.ready = 0 ∧ (d.left = -1 ∨ (d.pending.length : Int) ≤ d.left) ∧ d.sync.1 = ⟨perform d.sectors d.pending, [], if d.left = -1 then -1 else d.left - d.pending.length, false⟩ := by
  unfold Disk.sync at h ⊢
  split at h
  · rename_i hr
    split at h
    · rename_i h1
      rw [if_pos hr, if_pos h1]
      exact ⟨hr, h1, rfl⟩
    · cases h
  · cases h
theorem sync_stop {d : Disk} (hr : d.ready = 0) (h : d.sync.2 ≠ 0) : d.sync.2 = 470 ∧ d.sync.1.stopped = true := by
  unfold Disk.sync at h ⊢
  rw [if_pos hr] at h ⊢
  split at h
  · exact absurd rfl h
  · rename_i h1; rw [if_neg h1]; exact ⟨rfl, rfl⟩
theorem sync_ready {d : Disk} (h : d.sync.2 = 0) : d.sync.1.ready = 0 := by
  obtain ⟨hr, h1, e⟩ := sync_zero h
  obtain ⟨⟨g1, g2, g3, g4, g5, g6, g7⟩, hs⟩ := ready_of hr
  rw [e]
  refine ready_iff.2 ⟨⟨by rw [perform_len]; exact g1, by rw [perform_len]; exact g2, by simp, ?_, ?_, perform_128 g6 (fun w hw => (g7 w hw).2.2), by simp⟩, rfl⟩
  · show ¬ (if d.left = -1 then (-1 : Int) else d.left - d.pending.length) < -1
    split <;> omega
  · show ¬ 65536 < (if d.left = -1 then (-1 : Int) else d.left - d.pending.length)
    split <;> omega
theorem content_sync {d : Disk} {k : Int} (h : d.sync.2 = 0) (h0 : 0 ≤ k) (h1 : k < d.sectors.length) : d.sync.1.content k = d.content k := by
  obtain ⟨hr, _, e⟩ := sync_zero h
  obtain ⟨_, _, _, l4⟩ := ready_le hr
  rw [e]
  have := content_perform (ss := d.sectors) (ws := d.pending) (k := k) (fun w hw => by have := (l4 w hw).1; omega) h0 h1
  simp only [Disk.content]
  rw [this]
  simp [rdPend]
end Go.Proofs.Ytmkkfgifeekgeaa
