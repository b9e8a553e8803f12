/- Disks: plain law of the history: what a disk of four sectors holds behind writes and syncs. Conditions: none. -/
import Derived.Test.YtmkkfgifeekgeaaVkS
import Derived.Test.YtmkkfgifeekgeaaVkR
namespace Go.Proofs.Ytmkkfgifeekgeaa
open Go.Avc
abbrev HAct := Bool × UInt8 × UInt8
def hAt (a : HAct) : Nat := a.2.1.toNat % 4
theorem hAt_lt (a : HAct) : hAt a < 4 := Nat.mod_lt _ (by omega)
def twos (f s : List UInt8) : List (List UInt8) := List.zipWith two f s
def setAll (f : List UInt8) (ws : List HAct) : List UInt8 := ws.foldl (fun f a => f.set (hAt a) a.2.2) f
def pendH (ws : List HAct) : List (Int × List UInt8) := ws.map fun a => ((hAt a : Int), two a.2.2 a.2.2)
theorem setAll_len (f : List UInt8) (ws : List HAct) : (setAll f ws).length = f.length := by
  induction ws generalizing f with
  | nil => rfl
  | cons a ws ih => simp only [setAll, List.foldl_cons] at ih ⊢; rw [ih]; simp
theorem setAll_snoc (f : List UInt8) (ws : List HAct) (a : HAct) : setAll f (ws ++ [a]) = (setAll f ws).set (hAt a) a.2.2 := by simp [setAll]
theorem setAll_take (f : List UInt8) (ws : List HAct) {k : Nat} (h : k < ws.length) : setAll f (ws.take (k + 1)) = (setAll f (ws.take k)).set (hAt ws[k]) ws[k].2.2 := by
  rw [List.take_succ_eq_append_getElem h, setAll_snoc]
theorem twos_len {f s : List UInt8} (h : f.length = s.length) : (twos f s).length = f.length := by simp [twos, h]
theorem twos_get {f s : List UInt8} {k : Nat} (hf : k < f.length) (hs : k < s.length) : (twos f s).getD k [] = two f[k] s[k] := by
  simp [twos, List.getD, List.getElem?_zipWith, hf, hs]
theorem twos_set (f s : List UInt8) (k : Nat) (x y : UInt8) : twos (f.set k x) (s.set k y) = (twos f s).set k (two x y) := by
  apply List.ext_getElem?
  intro i
  simp only [twos, List.getElem?_zipWith, List.getElem?_set]
  by_cases h : k = i
  · subst h
    have e3 : (twos f s).length = min f.length s.length := by simp [twos]
    by_cases h1 : k < f.length <;> by_cases h2 : k < s.length <;> simp only [List.length_zipWith, h1, h2, if_true, if_false]
    · rw [if_pos (by omega)]
    all_goals (rw [if_neg (by omega)])
  · simp [h]
theorem perform_twos (ws : List HAct) : ∀ (f s : List UInt8), perform (twos f s) (pendH ws) = twos (setAll f ws) (setAll s ws) := by
  induction ws with
  | nil => intro f s; rfl
  | cons a ws ih =>
    intro f s
    have := ih (f.set (hAt a) a.2.2) (s.set (hAt a) a.2.2)
    rw [twos_set] at this
    exact this
theorem two_tear (a b c : UInt8) : (two c c).take 64 ++ (two a b).drop 64 = two c b := rfl
theorem tear_twos {f s : List UInt8} (hf : f.length = 4) (hs : s.length = 4) (a : HAct) : tear (twos f s) ((hAt a : Int), two a.2.2 a.2.2) = twos (f.set (hAt a) a.2.2) s := by
  have h4 := hAt_lt a
  have e : s = s.set (hAt a) (s[hAt a]'(by omega)) := by simp
  unfold tear
  show (twos f s).set (hAt a) ((two a.2.2 a.2.2).take 64 ++ ((twos f s).getD (hAt a) []).drop 64) = _
  rw [twos_get (by omega) (by omega), two_tear]
  conv => rhs; rw [e]
  rw [twos_set]
/-- What holds of the disk while it runs. -/
structure Hist (d : Disk) (ws : List HAct) (room : Nat) (last first : List UInt8) : Prop where
  eq : d = ⟨twos first first, pendH ws, room, false⟩
  ws : ws.length ≤ 40
  room : room ≤ 255
  l4 : last.length = 4
  f4 : first.length = 4
  rd : ∀ (k : Nat) (h : k < 4), d.content k = two (last[k]'(by omega)) (last[k]'(by omega))
theorem Hist.ready {d : Disk} {ws : List HAct} {room : Nat} {last first : List UInt8} (h : Hist d ws room last first) : d.ready = 0 := by
  obtain ⟨rfl, h2, h3, h4, h5, _⟩ := h
  refine ready_iff.2 ⟨⟨?_, ?_, ?_, ?_, ?_, ?_, ?_⟩, rfl⟩
  · rw [twos_len rfl]; omega
  · rw [twos_len rfl]; omega
  · simp [pendH]; omega
  · show ¬ (room : Int) < -1; omega
  · show ¬ 65536 < (room : Int); omega
  · intro s hs
    obtain ⟨i, hi, rfl⟩ := List.getElem_of_mem hs
    simp only [twos, List.getElem_zipWith]
    exact two_len _ _
  · intro p hp
    obtain ⟨a, _, rfl⟩ := List.mem_map.1 hp
    have := hAt_lt a
    rw [twos_len rfl]
    exact ⟨by show ¬ (hAt a : Int) < 0; omega, by show ¬ ((first.length : Nat) : Int) ≤ (hAt a : Int); omega, two_len _ _⟩
theorem Hist.secs {d : Disk} {ws : List HAct} {room : Nat} {last first : List UInt8} (h : Hist d ws room last first) : d.sectors.length = 4 := by
  rw [h.eq]; show (twos first first).length = 4; rw [twos_len rfl, h.f4]
theorem zeroS4 : List.replicate 4 zeroS = twos [0, 0, 0, 0] [0, 0, 0, 0] := rfl
theorem Hist.start {left : Nat} (hl : left ≤ 255) : Hist ⟨List.replicate 4 zeroS, [], left, false⟩ [] left [0, 0, 0, 0] [0, 0, 0, 0] := by
  refine ⟨by rw [zeroS4]; rfl, by simp, hl, rfl, rfl, fun k hk => ?_⟩
  match k, hk with
  | 0, _ => rfl
  | 1, _ => rfl
  | 2, _ => rfl
  | 3, _ => rfl
theorem Hist.write {d : Disk} {ws : List HAct} {room : Nat} {last first : List UInt8} (h : Hist d ws room last first) (a : HAct) (hw : ws.length < 40) :
    ∃ d', d.write (hAt a : Nat) (two a.2.2 a.2.2) = (d', 0) ∧ Hist d' (ws ++ [a]) room (last.set (hAt a) a.2.2) first := by
  have hr := h.ready
  have hs := h.secs
  have h4 := hAt_lt a
  refine ⟨_, write_ok hr (by omega) (by rw [hs]; omega) (by rw [two_len]; omega) ?_, ?_⟩
  · rw [h.eq]; simp [pendH]; omega
  · have e : put128 (two a.2.2 a.2.2) = two a.2.2 a.2.2 := by
      have := two_len a.2.2 a.2.2
      simp [put128, this, List.take_of_length_le]
    rw [e]
    refine ⟨by rw [h.eq]; simp [pendH], by simp; omega, h.room, by simp [h.l4], h.f4, fun k hk => ?_⟩
    rw [content_write]
    by_cases hk2 : hAt a = k
    · subst hk2; simp
    · rw [if_neg (by omega), h.rd k hk]
      simp [List.getElem_set, hk2]
theorem Hist.sync {d : Disk} {ws : List HAct} {room : Nat} {last first : List UInt8} (h : Hist d ws room last first) (hl : ws.length ≤ room) :
    ∃ d', d.sync = (d', 0) ∧ Hist d' [] (room - ws.length) last (setAll first ws) := by
  have hr := h.ready
  have hs := h.secs
  have e : d.sync = (⟨twos (setAll first ws) (setAll first ws), [], ((room - ws.length : Nat) : Int), false⟩, 0) := by
    unfold Disk.sync
    rw [if_pos hr, if_pos (by rw [h.eq]; right; simp [pendH]; omega)]
    rw [h.eq]
    simp only [perform_twos]
    rw [if_neg (by omega)]
    congr 2
    simp [pendH]; omega
  refine ⟨_, e, rfl, by simp, by have := h.room; omega, h.l4, by rw [setAll_len]; exact h.f4, fun k hk => ?_⟩
  have := content_sync (k := (k : Int)) (d := d) (by rw [e]) (by omega) (by rw [hs]; omega)
  rw [e] at this
  rw [this]
  exact h.rd k hk
theorem Hist.torn {d : Disk} {ws : List HAct} {room : Nat} {last first : List UInt8} (h : Hist d ws room last first) (hl : room < ws.length) :
    d.sync = (⟨twos (setAll first (ws.take (room + 1))) (setAll first (ws.take room)), [], 0, true⟩, 470) := by
  have hr := h.ready
  unfold Disk.sync
  rw [if_pos hr, if_neg (by rw [h.eq]; simp [pendH]; omega)]
  rw [h.eq]
  simp only [Int.toNat_natCast]
  have e1 : (pendH ws).take room = pendH (ws.take room) := by simp [pendH]
  have e2 : (pendH ws).getD room (0, []) = ((hAt ws[room] : Int), two ws[room].2.2 ws[room].2.2) := by simp [pendH, List.getD, hl]
  rw [e1, e2, perform_twos, tear_twos (by rw [setAll_len]; exact h.f4) (by rw [setAll_len]; exact h.f4), setAll_take _ _ hl]
theorem list4 {l : List UInt8} (h : l.length = 4) : ∃ a b c d, l = [a, b, c, d] := by
  match l, h with
  | [a, b, c, d], _ => exact ⟨a, b, c, d, rfl⟩
theorem content_twos {f s : List UInt8} (hf : f.length = 4) (hs : s.length = 4) {k : Nat} (hk : k < 4) : (⟨twos f s, [], -1, false⟩ : Disk).content k = two (f.getD k 0) (s.getD k 0) := by
  simp only [Disk.content, rdPend, List.reverse_nil, List.find?_nil, Option.map_none, Option.getD_none, Int.toNat_natCast]
  rw [twos_get (by omega) (by omega)]
  simp [List.getD, List.getElem?_eq_getElem (show k < f.length by omega), List.getElem?_eq_getElem (show k < s.length by omega)]
theorem ready_twos {f s : List UInt8} (hf : f.length = 4) (hs : s.length = 4) : (⟨twos f s, [], -1, false⟩ : Disk).ready = 0 := by
  refine ready_iff.2 ⟨⟨?_, ?_, by simp, by simp, by simp, ?_, by simp⟩, rfl⟩
  · rw [twos_len (by omega)]; omega
  · rw [twos_len (by omega)]; omega
  · intro x hx
    obtain ⟨i, hi, rfl⟩ := List.getElem_of_mem hx
    simp only [twos, List.getElem_zipWith]
    exact two_len _ _
/-- 'holds' at lists. -/
theorem holds_list (d : Disk) {f s : List UInt8} (hf : f.length = 4) (hs : s.length = 4) (hr : d.ready = 0) (hl : d.sectors.length = 4)
    (hc : ∀ (k : Nat) (h : k < 4), d.content k = two (f.getD k 0) (s.getD k 0)) : PSpec Try.prog 28 [encD d, encA f, encA s] (.bool true) := by
  obtain ⟨f0, f1, f2, f3, rfl⟩ := list4 hf
  obtain ⟨s0, s1, s2, s3, rfl⟩ := list4 hs
  exact holds_spec d f0 f1 f2 f3 s0 s1 s2 s3 hr hl hc
theorem holds_twos {f s : List UInt8} (hf : f.length = 4) (hs : s.length = 4) : PSpec Try.prog 28 [encD ⟨twos f s, [], -1, false⟩, encA f, encA s] (.bool true) :=
  holds_list _ hf hs (ready_twos hf hs) (by show (twos f s).length = 4; rw [twos_len (by omega), hf]) fun _ hk => content_twos hf hs hk
theorem double_two (c : UInt8) : PSpec Try.prog 27 [.val (.int .u8 c.toNat)] (encB (two c c)) := double_spec c
theorem hAt_tmod (a : HAct) : (a.2.1.toNat : Int).tmod 4 = (hAt a : Nat) := by
  rw [Int.tmod_eq_emod_of_nonneg (by omega)]
  unfold hAt
  omega
end Go.Proofs.Ytmkkfgifeekgeaa
