/- Disks: their values, and what Check answers. Conditions: none. -/
import Derived.Test.YtjfjpnefohbobaaGreatDoorWd
import Derived.Test.YtjfjpnefohbobaaGreatDoorRows
set_option linter.unusedSimpArgs false
set_option linter.unusedVariables false
set_option maxRecDepth 20000
set_option maxHeartbeats 4000000
namespace Go.Proofs.YtjfjpnefohbobaaGreatDoor.K
open Go.Avc
structure Disk where
 sectors : List (List UInt8)
 pending : List (Int × List UInt8)
 left : Int
 stopped : Bool
 deriving DecidableEq
def encB (bs : List UInt8) : PV := .sl 1 (bs.map fun b => [.val (.int .u8 b.toNat)])
def encS (ss : List (List UInt8)) : PV := .sl 1 (ss.map fun s => [encB s])
def encW (w : Int × List UInt8) : List PV := [.int w.1, encB w.2]
def encWs (ws : List (Int × List UInt8)) : PV := .sl 2 (ws.map encW)
def encD (d : Disk) : PV := .agg [encS d.sectors, encWs d.pending, .int d.left, .bool d.stopped]
def Disk.good (d : Disk) : Prop := ¬ d.sectors.length < 1 ∧ ¬ 4096 < d.sectors.length ∧ ¬ 4096 < d.pending.length ∧ ¬ d.left < -1 ∧ ¬ 65536 < d.left ∧
 (∀ s ∈ d.sectors, s.length = 128) ∧ ∀ p ∈ d.pending, ¬ p.1 < 0 ∧ ¬ (d.sectors.length : Int) ≤ p.1 ∧ p.2.length = 128
theorem bd_encD {d : Disk} (h : (encD d).bd) : d.sectors.length ≤ 9223372036854775807 ∧ d.pending.length ≤ 9223372036854775807 := by
 simp only [encD, PV.bd, bdL, encS, encWs, List.length_map] at h
 exact ⟨h.1.1, h.2.1.1⟩
instance (d : Disk) : Decidable d.good := by unfold Disk.good; infer_instance
def Disk.check (d : Disk) : Int := if d.good then 0 else 470
theorem check_bad {d : Disk} (h : ¬ d.good) : d.check = 470 := by simp [Disk.check, h]
theorem check_good {d : Disk} (h : d.good) : d.check = 0 := by simp [Disk.check, h]
theorem bad470 {d : Disk} (h : ¬ d.good) : PSub (.val (.int .i64 470)) (.int d.check) := PSub.val_int (check_bad h).symm
theorem take_all {α : Type} {l : List α} {p : α → Prop} {k : Nat} (h : ∀ x ∈ l.take k, p x) (hk : k < l.length) (h1 : p l[k]) : ∀ x ∈ l.take (k + 1), p x := fun x hx => by
 rw [List.take_succ_eq_append_getElem hk] at hx
 rcases List.mem_append.1 hx with h' | h'
 · exact h x h'
 · simp at h'; subst h'; exact h1
theorem all_take {α : Type} {l : List α} {p : α → Prop} {k : Nat} (h : ∀ x ∈ l.take k, p x) (hk : l.length ≤ k) : ∀ x ∈ l, p x := fun x hx => h x (by rwa [List.take_of_length_le hk])
attribute [local irreducible] PSub Wp PSpec Le Need Both
theorem check_spec (d : Disk) : PSpec Tryz.prog 69 [encD d] (.int d.check) := by
 refine PSpec.of_vc (fun Γ => more2 false Γ.P Γ.fx) (fun Γ => more2_ok) Tryz.func69 rfl Tryz.call69 (by simp) ?_
 rintro ⟨P, N, w0, X, β0, fx, y, hy, pk, df⟩ rfl rfl rfl hoff rfl; change y.on = false at hoff
 repeat' ((try conv => whnf); first|(first|refine k3 ?_ ?_|refine k4 ?_ ?_) <;> intro hb <;> (try rw [lM] at hb) <;> try (exfalso; omega)|fail)
 case refine_1 => exact bad470 (fun h => h.1 (by omega))
 case refine_2.refine_1 => exact bad470 (fun h => h.2.1 (by omega))
 case refine_2.refine_2.refine_1 => exact bad470 (fun h => h.2.2.1 (by omega))
 case refine_2.refine_2.refine_2.refine_1 => exact bad470 (fun h => h.2.2.2.1 (by omega))
 case refine_2.refine_2.refine_2.refine_2.refine_1 => exact bad470 (fun h => h.2.2.2.2.1 (by omega))
 refine Wp.loop (fun k : Nat => ⟨[(1, .loc 1 0 0), (34, .pure (encS d.sectors)), (35, .int d.sectors.length), (36, .int k)], [(1, some (.box [.pure (encS d.sectors), .pure (encWs d.pending), .int d.left, .bool d.stopped]))], [1]⟩)
   (fun k => k ≤ d.sectors.length ∧ ∀ s ∈ d.sectors.take k, s.length = 128) (fun k => d.sectors.length - k) 0 (Le.of ?_ ?_ rfl rfl rfl) ⟨by omega, by simp⟩ ?_
 · (repeat' (first|exact trivial|refine aq ?_ ?_|exact oq|exact l1 bd|fail))
 · (repeat' (first|exact trivial|refine aq ?_ ?_|refine Exists.intro _ (aq rfl ?_)|exact oq|fail))
 rintro k ⟨hk, hs⟩
 refine code_sound (more := more2 false _ _) more2_ok FOK.wide _ ?_
 repeat' ((try conv => whnf); first|(first|refine k3 ?_ ?_|refine k4 ?_ ?_) <;> intro hb <;> (try rw [lM] at hb) <;> try (exfalso; omega)|refine s4 nm ?_|refine s5 nm nm ?_|fail)
 · exact ⟨k + 1, Le.of (by (repeat' (first|exact trivial|refine aq ?_ ?_|exact oq|fail))) (by (repeat' (first|exact trivial|refine aq ?_ ?_|refine Exists.intro _ (aq rfl ?_)|exact oq|fail))) rfl rfl rfl, ⟨by omega, take_all hs (by omega) (by omega)⟩, by omega⟩
 · exact bad470 (fun h => hb (by have := h.2.2.2.2.2.1 _ (List.getElem_mem (show k < d.sectors.length by omega)); omega))
 have hs2 := all_take hs (by omega)
 refine Wp.loop (fun k : Nat => ⟨[(1, .loc 1 0 0), (45, .pure (encWs d.pending)), (46, .int d.pending.length), (47, .int k)], [(1, some (.box [.pure (encS d.sectors), .pure (encWs d.pending), .int d.left, .bool d.stopped]))], [1]⟩)
   (fun k => k ≤ d.pending.length ∧ ∀ p ∈ d.pending.take k, ¬ p.1 < 0 ∧ ¬ (d.sectors.length : Int) ≤ p.1 ∧ p.2.length = 128) (fun k => d.pending.length - k) 0 (Le.of ?_ ?_ rfl rfl rfl) ⟨by omega, by simp⟩ ?_
 · (repeat' (first|exact trivial|refine aq ?_ ?_|exact oq|exact l1 bd|fail))
 · (repeat' (first|exact trivial|refine aq ?_ ?_|refine Exists.intro _ (aq rfl ?_)|exact oq|fail))
 clear hs hk
 rintro k ⟨hk, hs⟩
 refine code_sound (more := more2 false _ _) more2_ok FOK.wide _ ?_
 repeat' ((try conv => whnf); first|(first|refine k3 ?_ ?_|refine k4 ?_ ?_) <;> intro hb <;> (try rw [lM] at hb) <;> try (exfalso; omega)|refine aq rfl ?_|refine s4 nm ?_|refine s5 nm nm ?_|fail)
 · exact bad470 fun h => (h.2.2.2.2.2.2 _ (List.getElem_mem (show k < d.pending.length by omega))).1 hb
 · exact bad470 fun h => (h.2.2.2.2.2.2 _ (List.getElem_mem (show k < d.pending.length by omega))).2.1 hb
 · exact ⟨k + 1, Le.of (by (repeat' (first|exact trivial|refine aq ?_ ?_|exact oq|fail))) (by (repeat' (first|exact trivial|refine aq ?_ ?_|refine Exists.intro _ (aq rfl ?_)|exact oq|fail))) rfl rfl rfl, ⟨by omega, take_all hs (by omega) ⟨by omega, by omega, by omega⟩⟩, by omega⟩
 · exact bad470 fun h => hb (by have := (h.2.2.2.2.2.2 _ (List.getElem_mem (show k < d.pending.length by omega))).2.2; omega)
 · exact PSub.val_int (check_good ⟨by omega, by omega, by omega, by omega, by omega, hs2, all_take hs (by omega)⟩).symm
end Go.Proofs.YtjfjpnefohbobaaGreatDoor.K
/- Disks: the reference's Check, and Same. Conditions: none. -/
namespace Go.Proofs.YtjfjpnefohbobaaGreatDoor.K
open Go.Avc
attribute [local irreducible] PSub Wp PSpec Le Need Both
theorem refCheck_spec (d : Disk) : PSpec Tryz.prog 85 [encD d] (.int d.check) := by
 refine PSpec.of_vc (fun Γ => more2 false Γ.P Γ.fx) (fun Γ => more2_ok) Tryz.func85 rfl Tryz.call85 (by simp) ?_
 rintro ⟨P, N, w0, X, β0, fx, y, hy, pk, df⟩ rfl rfl rfl hoff rfl; change y.on = false at hoff
 repeat' ((try conv => whnf); first|(first|refine k3 ?_ ?_|refine k4 ?_ ?_) <;> intro hb <;> (try rw [lM] at hb) <;> try (exfalso; omega)|fail)
 case refine_1 => exact bad470 (fun h => h.1 (by omega))
 case refine_2.refine_1 => exact bad470 (fun h => h.2.1 (by omega))
 case refine_2.refine_2.refine_1 => exact bad470 (fun h => h.2.2.1 (by omega))
 case refine_2.refine_2.refine_2.refine_1 => exact bad470 (fun h => h.2.2.2.1 (by omega))
 case refine_2.refine_2.refine_2.refine_2.refine_1 => exact bad470 (fun h => h.2.2.2.2.1 (by omega))
 refine Wp.loop (fun k : Nat => ⟨[(1, .loc 1 0 0), (3, .int d.sectors.length), (4, .int k)], [(1, some (.box [.pure (encS d.sectors), .pure (encWs d.pending), .int d.left, .bool d.stopped]))], [1]⟩)
   (fun k => k ≤ d.sectors.length ∧ ∀ s ∈ d.sectors.take k, s.length = 128) (fun k => d.sectors.length - k) 0 (Le.of ?_ ?_ rfl rfl rfl) ⟨by omega, by simp⟩ ?_
 · (repeat' (first|exact trivial|refine aq ?_ ?_|exact oq|exact l1 bd|fail))
 · (repeat' (first|exact trivial|refine aq ?_ ?_|refine Exists.intro _ (aq rfl ?_)|exact oq|fail))
 rintro k ⟨hk, hs⟩
 refine code_sound (more := more2 false _ _) more2_ok FOK.wide _ ?_
 repeat' ((try conv => whnf); first|(first|refine k3 ?_ ?_|refine k4 ?_ ?_) <;> intro hb <;> (try rw [lM] at hb) <;> try (exfalso; omega)|refine s4 nm ?_|refine s5 nm nm ?_|fail)
 · exact ⟨k + 1, Le.of (by (repeat' (first|exact trivial|refine aq ?_ ?_|exact oq|fail))) (by (repeat' (first|exact trivial|refine aq ?_ ?_|refine Exists.intro _ (aq rfl ?_)|exact oq|fail))) rfl rfl rfl, ⟨by omega, take_all hs (by omega) (by omega)⟩, by omega⟩
 · exact bad470 fun h => hb (by have := h.2.2.2.2.2.1 _ (List.getElem_mem (show k < d.sectors.length by omega)); omega)
 have hs2 := all_take hs (by omega)
 refine Wp.loop (fun k : Nat => ⟨[(1, .loc 1 0 0), (3, .int d.sectors.length), (5, .int k)], [(1, some (.box [.pure (encS d.sectors), .pure (encWs d.pending), .int d.left, .bool d.stopped]))], [1]⟩)
   (fun k => k ≤ d.pending.length ∧ ∀ p ∈ d.pending.take k, ¬ p.1 < 0 ∧ ¬ (d.sectors.length : Int) ≤ p.1 ∧ p.2.length = 128) (fun k => d.pending.length - k) 0 (Le.of ?_ ?_ rfl rfl rfl) ⟨by omega, by simp⟩ ?_
 · (repeat' (first|exact trivial|refine aq ?_ ?_|exact oq|fail))
 · (repeat' (first|exact trivial|refine aq ?_ ?_|refine Exists.intro _ (aq rfl ?_)|exact oq|fail))
 clear hs hk
 rintro k ⟨hk, hs⟩
 refine code_sound (more := more2 false _ _) more2_ok FOK.wide _ ?_
 repeat' ((try conv => whnf); first|(first|refine k3 ?_ ?_|refine k4 ?_ ?_) <;> intro hb <;> (try rw [lM] at hb) <;> try (exfalso; omega)|refine aq rfl ?_|refine s4 nm ?_|refine s5 nm nm ?_|fail)
 · exact bad470 fun h => (h.2.2.2.2.2.2 _ (List.getElem_mem (show k < d.pending.length by omega))).1 hb
 · exact bad470 fun h => (h.2.2.2.2.2.2 _ (List.getElem_mem (show k < d.pending.length by omega))).2.1 hb
 · exact ⟨k + 1, Le.of (by (repeat' (first|exact trivial|refine aq ?_ ?_|exact oq|fail))) (by (repeat' (first|exact trivial|refine aq ?_ ?_|refine Exists.intro _ (aq rfl ?_)|exact oq|fail))) rfl rfl rfl, ⟨by omega, take_all hs (by omega) ⟨by omega, by omega, by omega⟩⟩, by omega⟩
 · exact bad470 fun h => hb (by have := (h.2.2.2.2.2.2 _ (List.getElem_mem (show k < d.pending.length by omega))).2.2; omega)
 · exact PSub.val_int (check_good ⟨by omega, by omega, by omega, by omega, by omega, hs2, all_take hs (by omega)⟩).symm
def Disk.same (a b : Disk) : Bool := decide (a = b)
theorem same_ne {a b : Disk} (h : a ≠ b) : PSub (.val (.bool false)) (.bool (a.same b)) := PSub.val_bool (by simp [Disk.same, h])
theorem ofArr {x y : List UInt8} (h : (⟨x.toArray⟩ : ByteArray) = ⟨y.toArray⟩) : x = y := by
 injection h with h
 exact List.toArray_inj h
theorem take_eq {α : Type} {l m : List α} {k : Nat} (hl : k < l.length) (hm : k < m.length) (h : l.take k = m.take k) (he : l[k] = m[k]) : l.take (k + 1) = m.take (k + 1) := by
 rw [List.take_succ_eq_append_getElem hl, List.take_succ_eq_append_getElem hm, h, he]
theorem eq_of_take {α : Type} {l m : List α} {k : Nat} (h : l.take k = m.take k) (hl : l.length ≤ k) (hm : m.length ≤ k) : l = m := by
 rwa [List.take_of_length_le hl, List.take_of_length_le hm] at h
theorem same_spec (a b : Disk) : PSpec Tryz.prog 30 [encD a, encD b] (.bool (a.same b)) := by
 refine PSpec.bd Tryz.call30 fun hbd => ?_
 obtain ⟨ba1, ba2⟩ := bd_encD hbd.1
 refine PSpec.of_vc (fun Γ => more2 false Γ.P Γ.fx) (fun Γ => more2_ok) Tryz.func30 rfl Tryz.call30 (by simp) ?_
 rintro ⟨P, N, w0, X, β0, fx, y, hy, pk, df⟩ rfl rfl rfl hoff rfl; change y.on = false at hoff
 repeat' ((try conv => whnf); first|refine k1 (fun hb => ?_) fun hb => ?_|(first|refine k3 ?_ ?_|refine k4 ?_ ?_) <;> intro hb <;> (try rw [lM] at hb) <;> try (exfalso; omega)|fail)
 case refine_2 => exact same_ne fun e => hb (by rw [e, List.length_map])
 case refine_1.refine_2 => exact same_ne fun e => hb (by rw [e, List.length_map])
 case refine_1.refine_1.refine_2 => exact same_ne fun e => hb (by rw [e])
 case refine_1.refine_1.refine_1.refine_2 => exact same_ne fun e => hb (by rw [e])
 rename_i h1 h2 h3
 rw [List.length_map] at h1 h2
 refine Wp.loop (fun k : Nat => ⟨[(2, .loc 2 0 0), (3, .loc 3 0 0), (5, .int k)], [(2, some (.box [.pure (encS a.sectors), .pure (encWs a.pending), .int a.left, .bool a.stopped])), (3, some (.box [.pure (encS b.sectors), .pure (encWs b.pending), .int b.left, .bool b.stopped]))], [2, 3]⟩)
   (fun k => k ≤ a.sectors.length ∧ a.sectors.take k = b.sectors.take k) (fun k => a.sectors.length - k) 0 (Le.of ?_ ?_ rfl rfl rfl) ⟨by omega, by simp⟩ ?_
 · (repeat' (first|exact trivial|refine aq ?_ ?_|exact oq|fail))
 · (repeat' (first|exact trivial|refine aq ?_ ?_|refine Exists.intro _ (aq rfl ?_)|exact oq|fail))
 rintro k ⟨hk, hs⟩
 refine code_sound (more := more2 false _ _) more2_ok FOK.wide _ ?_
 repeat' ((try conv => whnf); first|(first|refine k3 ?_ ?_|refine k4 ?_ ?_) <;> intro hb <;> (try rw [lM] at hb) <;> try (exfalso; omega)|fail)
 refine Wp.draw (more := more2 true _ _) more2_det more2_ok FOK.wide rfl (by decide +kernel) (by conv => lhs; reduce) ?_
 repeat' ((try conv => whnf); first|(first|refine k3 ?_ ?_|refine k4 ?_ ?_) <;> intro hb <;> (try rw [lM] at hb) <;> try (exfalso; omega)|refine s4 nm ?_|refine s5 nm nm ?_|refine s7 ?_|fail)
 · have hb' := ofArr hb
   exact ⟨k + 1, Le.of (by (repeat' (first|exact trivial|refine aq ?_ ?_|exact oq|fail))) (by (repeat' (first|exact trivial|refine aq ?_ ?_|refine Exists.intro _ (aq rfl ?_)|exact oq|fail))) rfl rfl rfl, ⟨by omega, take_eq (by omega) (by omega) hs hb'⟩, by omega⟩
 · refine same_ne fun e => hb ?_
   subst e; rfl
 have hsec : a.sectors = b.sectors := eq_of_take hs (by omega) (by omega)
 refine Wp.loop (fun k : Nat => ⟨[(2, .loc 2 0 0), (3, .loc 3 0 0), (6, .int k)], [(2, some (.box [.pure (encS a.sectors), .pure (encWs a.pending), .int a.left, .bool a.stopped])), (3, some (.box [.pure (encS b.sectors), .pure (encWs b.pending), .int b.left, .bool b.stopped]))], [2, 3]⟩)
   (fun k => k ≤ a.pending.length ∧ a.pending.take k = b.pending.take k) (fun k => a.pending.length - k) 0 (Le.of ?_ ?_ rfl rfl rfl) ⟨by omega, by simp⟩ ?_
 · (repeat' (first|exact trivial|refine aq ?_ ?_|exact oq|fail))
 · (repeat' (first|exact trivial|refine aq ?_ ?_|refine Exists.intro _ (aq rfl ?_)|exact oq|fail))
 clear hk hs
 rintro k ⟨hk, hs⟩
 refine code_sound (more := more2 false _ _) more2_ok FOK.wide _ ?_
 repeat' ((try conv => whnf); first|(first|refine k3 ?_ ?_|refine k4 ?_ ?_) <;> intro hb <;> (try rw [lM] at hb) <;> try (exfalso; omega)|fail)
 refine Wp.draw (more := more2 true _ _) more2_det more2_ok FOK.wide rfl (by decide +kernel) (by conv => lhs; reduce) ?_
 repeat' ((try conv => whnf); first|(first|refine k3 ?_ ?_|refine k4 ?_ ?_) <;> intro hb <;> (try rw [lM] at hb) <;> try (exfalso; omega)|refine s4 nm ?_|refine s5 nm nm ?_|refine s7 ?_|fail)
 · have hb' := ofArr hb
   rename_i hb0
   exact ⟨k + 1, Le.of (by (repeat' (first|exact trivial|refine aq ?_ ?_|exact oq|fail))) (by (repeat' (first|exact trivial|refine aq ?_ ?_|refine Exists.intro _ (aq rfl ?_)|exact oq|fail))) rfl rfl rfl, ⟨by omega, take_eq (by omega) (by omega) hs (Prod.ext hb0 hb')⟩, by omega⟩
 · refine same_ne fun e => hb ?_
   subst e; rfl
 · refine same_ne fun e => hb ?_
   subst e; rfl
 · have hp : a.pending = b.pending := eq_of_take hs (by omega) (by omega)
   refine PSub.val_bool ?_
   simp only [Disk.same, Bool.true_eq, decide_eq_true_eq]
   cases a; cases b
   simp_all
end Go.Proofs.YtjfjpnefohbobaaGreatDoor.K
/- Disks: ready, Restart, Stop, the copies of slices. Conditions: none. -/
namespace Go.Proofs.YtjfjpnefohbobaaGreatDoor.K
open Go.Avc
def zeroD : Disk := ⟨[], [], 0, false⟩
def encDE (r : Disk × Int) : PV := .tup [encD r.1, .int r.2]
theorem sub_disk {s p : PV} {l : Int} {b : Bool} {d : Disk} (h1 : PSub s (encS d.sectors)) (h2 : PSub p (encWs d.pending)) (h3 : l = d.left) (h4 : b = d.stopped) : PSub (.agg [s, p, .val (.int .i64 l), .val (.bool b)]) (encD d) :=
 PSub.agg ⟨h1, h2, PSub.val_int h3, PSub.val_bool h4, trivial⟩
theorem sub_de {x : PV} {e : Int} {r : Disk × Int} (h1 : PSub x (encD r.1)) (h2 : e = r.2) : PSub (.tup [x, .val (.int .i64 e)]) (encDE r) := PSub.tup ⟨h1, PSub.val_int h2, trivial⟩
theorem sub_zero {e : Int} {r : Disk × Int} (h : r = (zeroD, e)) : PSub (.tup [.agg [.val (.slice none 0 0), .val (.slice none 0 0), .val (.int .i64 0), .val (.bool false)], .val (.int .i64 e)]) (encDE r) := by
 subst h
 exact sub_de (sub_disk (PSub.nil 1) (PSub.nil 2) rfl rfl) rfl
theorem sub_sl {sz sz' : Nat} {a b : List (List PV)} (h : a = b) (hs : sz = sz' := by rfl) : PSub (.sl sz a) (.sl sz' b) := by subst h; subst hs; exact PSub.refl _
attribute [local irreducible] PSub Wp PSpec Le Need Both
def Disk.ready (d : Disk) : Int := if d.good ∧ d.stopped = false then 0 else 470
theorem good_of {d : Disk} (h : d.check = 0) : d.good := by
 by_cases hg : d.good
 · exact hg
 · rw [check_bad hg] at h; cases h
theorem bad_of {d : Disk} (h : ¬ d.check = 0) : ¬ d.good := fun hg => h (check_good hg)
theorem ready_of {d : Disk} (h : d.ready = 0) : d.good ∧ d.stopped = false := by
 by_cases hg : d.good ∧ d.stopped = false
 · exact hg
 · simp [Disk.ready, hg] at h
theorem ready_not {d : Disk} (h : ¬ d.ready = 0) : d.ready = 470 := by
 unfold Disk.ready at h ⊢
 split at h
 · exact absurd rfl h
 · rename_i hg; rw [if_neg hg]
theorem ready_ok {d : Disk} (h : d.check = 0) (h2 : d.stopped = false) : d.ready = 0 := by simp [Disk.ready, good_of h, h2]
theorem ready_bad {d : Disk} (h : ¬ d.check = 0) : d.ready = 470 := by simp [Disk.ready, bad_of h]
theorem ready_stopped {d : Disk} (h : d.stopped = true) : d.ready = 470 := by simp [Disk.ready, h]
theorem ready_spec (d : Disk) : PSpec Tryz.prog 94 [encD d] (.int d.ready) := by
 refine PSpec.of_vc (fun Γ => more2 false Γ.P Γ.fx) (fun Γ => more2_ok) Tryz.func94 rfl Tryz.call94 (by simp) ?_
 rintro ⟨P, N, w0, X, β0, fx, y, hy, pk, df⟩ rfl rfl rfl hoff rfl; change y.on = false at hoff
 skip
 refine .inl ⟨_, check_spec d, ?_⟩
 repeat' ((try conv => whnf); first|(first|refine k3 ?_ ?_|refine k4 ?_ ?_) <;> intro hb <;> (try rw [lM] at hb) <;> try (exfalso; omega)|refine k6 (fun hb => ?_) fun hb => ?_|fail)
 · exact PSub.val_int (by simp [Disk.ready, hb])
 · rename_i h; exact PSub.val_int (by simp [Disk.ready, hb, good_of h])
 · exact PSub.val_int (by rw [check_bad (bad_of hb)]; simp [Disk.ready, bad_of hb])
theorem restart_spec (d : Disk) : PSpec Tryz.prog 56 [encD d] (encD ⟨d.sectors, [], -1, false⟩) := by
 refine PSpec.of_vc (fun Γ => more2 false Γ.P Γ.fx) (fun Γ => more2_ok) Tryz.func56 rfl Tryz.call56 (by simp) ?_
 rintro ⟨P, N, w0, X, β0, fx, y, hy, pk, df⟩ rfl rfl rfl hoff rfl; change y.on = false at hoff
 repeat' ((try conv => whnf); first|refine aq rfl ?_|fail)
 exact sub_disk (PSub.refl _) (PSub.nil 2) rfl rfl
theorem refRestart_spec (d : Disk) : PSpec Tryz.prog 49 [encD d] (encD ⟨d.sectors, [], -1, false⟩) := by
 refine PSpec.of_vc (fun Γ => more2 false Γ.P Γ.fx) (fun Γ => more2_ok) Tryz.func49 rfl Tryz.call49 (by simp) ?_
 rintro ⟨P, N, w0, X, β0, fx, y, hy, pk, df⟩ rfl rfl rfl hoff rfl; change y.on = false at hoff
 repeat' ((try conv => whnf); first|refine aq rfl ?_|fail)
 exact sub_disk (PSub.refl _) (PSub.nil 2) rfl rfl
def Disk.stop (d : Disk) (left : Int) : Disk × Int := if d.ready = 0 then (if left < 0 ∨ 65536 < left then (zeroD, 1) else ({ d with left := left }, 0)) else (zeroD, 470)
theorem stop_spec (d : Disk) (left : Int) : PSpec Tryz.prog 53 [encD d, .int left] (encDE (d.stop left)) := by
 refine PSpec.of_vc (fun Γ => more2 false Γ.P Γ.fx) (fun Γ => more2_ok) Tryz.func53 rfl Tryz.call53 (by simp) ?_
 rintro ⟨P, N, w0, X, β0, fx, y, hy, pk, df⟩ rfl rfl rfl hoff rfl; change y.on = false at hoff
 skip
 refine .inl ⟨_, ready_spec d, ?_⟩
 repeat' ((try conv => whnf); first|(first|refine k3 ?_ ?_|refine k4 ?_ ?_) <;> intro hb <;> (try rw [lM] at hb) <;> try (exfalso; omega)|refine aq rfl ?_|fail)
 · rename_i h; exact sub_zero (by simp [Disk.stop, h, hb])
 · rename_i h _; exact sub_zero (by simp [Disk.stop, h, hb])
 · rename_i h h'
   have e : d.stop left = ({ d with left := left }, 0) := by simp only [Disk.stop, if_pos h]; rw [if_neg (by omega)]
   rw [e]
   exact sub_de (sub_disk (PSub.refl _) (PSub.refl _) rfl rfl) rfl
 · exact sub_zero (by simp [Disk.stop, ready_not hb])
theorem refStop_spec (d : Disk) (left : Int) : PSpec Tryz.prog 54 [encD d, .int left] (encDE (d.stop left)) := by
 refine PSpec.of_vc (fun Γ => more2 false Γ.P Γ.fx) (fun Γ => more2_ok) Tryz.func54 rfl Tryz.call54 (by simp) ?_
 rintro ⟨P, N, w0, X, β0, fx, y, hy, pk, df⟩ rfl rfl rfl hoff rfl; change y.on = false at hoff
 skip
 refine .inl ⟨_, refCheck_spec d, ?_⟩
 repeat' ((try conv => whnf); first|(first|refine k3 ?_ ?_|refine k4 ?_ ?_) <;> intro hb <;> (try rw [lM] at hb) <;> try (exfalso; omega)|refine k6 (fun hb => ?_) fun hb => ?_|refine aq rfl ?_|fail)
 · exact sub_zero (by simp [Disk.stop, ready_stopped hb])
 · rename_i h1 h2; exact sub_zero (by simp [Disk.stop, ready_ok h1 h2, hb])
 · rename_i h1 h2 _; exact sub_zero (by simp [Disk.stop, ready_ok h1 h2, hb])
 · rename_i h1 h2 _
   have e : d.stop left = ({ d with left := left }, 0) := by simp only [Disk.stop, if_pos (ready_ok h1 h2)]; rw [if_neg (by omega)]
   rw [e]
   exact sub_de (sub_disk (PSub.refl _) (PSub.refl _) rfl rfl) rfl
 · exact sub_zero (by simp [Disk.stop, ready_bad hb])
theorem cloneB_spec (ws : List UInt8) (h : ws.length ≤ 1000000) : PSpec Tryz.prog 59 [encB ws] (encB ws) := by
 refine PSpec.of_vc (fun Γ => more2 false Γ.P Γ.fx) (fun Γ => more2_ok) Tryz.func59 rfl Tryz.call59 (by simp) ?_
 rintro ⟨P, N, w0, X, β0, fx, y, hy, pk, df⟩ rfl rfl rfl hoff rfl; change y.on = false at hoff
 skip
 intro r hr
 repeat' ((try conv => whnf); first|refine k6 (fun hb => ?_) fun hb => ?_|refine aq rfl ?_|refine aq bd ?_|fail)
 · have e : ws = [] := List.map_eq_nil_iff.1 (hr hb)
   subst e
   exact PSub.nil 1
 exact sub_sl (by simp [List.take_of_length_le])
end Go.Proofs.YtjfjpnefohbobaaGreatDoor.K
/- Disks: Write. Conditions: none. -/
namespace Go.Proofs.YtjfjpnefohbobaaGreatDoor.K
open Go.Avc
attribute [local irreducible] PSub Wp PSpec Le Need Both
def zeroS : List UInt8 := List.replicate 128 0
def newD (n : Int) : Disk × Int := if n < 1 ∨ 4096 < n then (zeroD, 1) else (⟨List.replicate n.toNat zeroS, [], -1, false⟩, 0)
def put128 (b : List UInt8) : List UInt8 := b ++ List.replicate (128 - b.length) 0
def Disk.write (d : Disk) (at_ : Int) (b : List UInt8) : Disk × Int :=
 if d.ready = 0 then (if at_ < 0 ∨ d.sectors.length ≤ at_ then (zeroD, 470) else if 128 < b.length then (zeroD, 1) else if d.pending.length = 4096 then (zeroD, 2) else ({ d with pending := d.pending ++ [(at_, put128 b)] }, 0)) else (zeroD, 470)
end Go.Proofs.YtjfjpnefohbobaaGreatDoor.K
/- Disks: latest, Read. Conditions: none. -/
namespace Go.Proofs.YtjfjpnefohbobaaGreatDoor.K
open Go.Avc
attribute [local irreducible] PSub Wp PSpec Le Need Both
def rdPend (ws : List (Int × List UInt8)) (at_ : Int) : Option (List UInt8) := (ws.reverse.find? fun w => w.1 == at_).map (·.2)
def Disk.read (d : Disk) (at_ : Int) : List UInt8 × Int :=
 if d.ready = 0 then (if at_ < 0 ∨ d.sectors.length ≤ at_ then ([], 470) else ((rdPend d.pending at_).getD (d.sectors.getD at_.toNat []), 0)) else ([], d.ready)
def encBE (r : List UInt8 × Int) : PV := .tup [encB r.1, .int r.2]
theorem ready_le {d : Disk} (h : d.ready = 0) : d.pending.length ≤ 4096 ∧ d.sectors.length ≤ 4096 ∧ (∀ s ∈ d.sectors, s.length = 128) ∧ ∀ p ∈ d.pending, ¬ p.1 < 0 ∧ ¬ (d.sectors.length : Int) ≤ p.1 ∧ p.2.length = 128 := by
 obtain ⟨⟨_, h2, h3, _, _, h6, h7⟩, _⟩ := ready_of h
 exact ⟨by omega, by omega, h6, h7⟩
end Go.Proofs.YtjfjpnefohbobaaGreatDoor.K
/- Disks: New, the reference's New and Write. Conditions: none. -/
namespace Go.Proofs.YtjfjpnefohbobaaGreatDoor.K
open Go.Avc
attribute [local irreducible] PSub Wp PSpec Le Need Both
theorem zeros_eq : (List.replicate (Int.toNat 128) (List.map PV.val (Value.int .u8 0).cells.toList)) = zeroS.map fun b => [PV.val (.int .u8 (b.toNat : Int))] := by
 simp [zeroS]
theorem make128 : PV.sl 1 (List.take (Int.toNat 128) (List.drop 0 (List.replicate (Int.toNat 128) (List.map PV.val (Value.int .u8 0).cells.toList)))) = encB zeroS := by
 simp [zeroS, encB]
theorem encB_zeroS : encB zeroS = PV.sl 1 (List.replicate 128 [.val (.int .u8 0)]) := by simp [encB, zeroS]
theorem set_repl {α : Type} (A B : α) (n k : Nat) (h : k < n) : (List.replicate k A ++ List.replicate (n - k) B).set k A = List.replicate (k + 1) A ++ List.replicate (n - (k + 1)) B := by
 rw [List.set_append_right _ _ (by simp)]
 simp only [List.length_replicate, Nat.sub_self]
 have : n - k = (n - (k + 1)) + 1 := by omega
 rw [this, List.replicate_succ, List.set_cons_zero, List.replicate_succ']
 simp
theorem refWrite_spec (d : Disk) (at_ : Int) (b : List UInt8) : PSpec Tryz.prog 88 [encD d, .int at_, encB b] (encDE (d.write at_ b)) := by
 refine PSpec.of_vc (fun Γ => more2 false Γ.P Γ.fx) (fun Γ => more2_ok) Tryz.func88 rfl Tryz.call88 (by simp) ?_
 rintro ⟨P, N, w0, X, β0, fx, y, hy, pk, df⟩ rfl rfl rfl hoff rfl; change y.on = false at hoff
 skip
 refine .inl ⟨_, refCheck_spec d, ?_⟩
 repeat' ((try conv => whnf); first|(first|refine k3 ?_ ?_|refine k4 ?_ ?_) <;> intro hb <;> (try rw [lM] at hb) <;> try (exfalso; omega)|refine k6 (fun hb => ?_) fun hb => ?_|refine aq rfl ?_|refine aq bd ?_|fail)
 · exact sub_zero (by simp [Disk.write, ready_stopped hb])
 · rename_i h1 h2; exact sub_zero (by simp [Disk.write, ready_ok h1 h2, hb])
 · rename_i h1 h2 _; exact sub_zero (by simp [Disk.write, ready_ok h1 h2, hb])
 · rename_i h1 h2 _ _; exact sub_zero (by simp only [Disk.write]; rw [if_pos (ready_ok h1 h2), if_neg (by omega), if_pos (by omega)])
 · rename_i h1 h2 _ _ _; exact sub_zero (by simp only [Disk.write]; rw [if_pos (ready_ok h1 h2), if_neg (by omega), if_neg (by omega), if_pos (by omega)])
 · rename_i h1 h2 _ _ _
   have hp := (ready_of (ready_ok h1 h2)).1.2.2.1
   have e : d.write at_ b = ({ d with pending := d.pending ++ [(at_, put128 b)] }, 0) := by simp only [Disk.write]; rw [if_pos (ready_ok h1 h2), if_neg (by omega), if_neg (by omega), if_neg (by omega)]
   rw [e]
   refine Wp.loop (fun k : Nat => ⟨[(1, .int at_), (3, .loc 3 0 0), (6, .loc 6 0 0), (8, .lsl 39 0 (b.length + k))], [(3, some (.box [.pure (encS d.sectors), .pure (encWs d.pending), .int d.left, .bool d.stopped])), (6, some (.box [.pure (.val (.slice none 0 0)), .pure (.val (.slice none 0 0)), .int 0, .bool false])), (39, some (.row 1 ((b ++ List.replicate k 0).map fun b : UInt8 => [.val (.int .u8 b.toNat)])))], [3, 6, 39]⟩)
     (fun k => b.length + k ≤ 128) (fun k => 128 - (b.length + k)) 0 (Le.of ?_ ?_ rfl rfl rfl) (by omega) ?_
   · (repeat' (first|exact trivial|refine aq ?_ ?_|exact oq|exact SubA.lsl ls|fail))
   · (repeat' (first|exact trivial|refine aq ?_ ?_|refine Exists.intro _ (aq rfl ?_)|exact oq|exact rowEq rs|fail))
   intro k hk
   refine code_sound (more := more2 false _ _) more2_ok FOK.wide _ ?_
   repeat' ((try conv => whnf); first|(first|refine k3 ?_ ?_|refine k4 ?_ ?_) <;> intro hb <;> (try rw [lM] at hb) <;> try (exfalso; omega)|refine aq rfl ?_|refine aq bd ?_|fail)
   · refine ⟨k + 1, Le.map [(39, 45)] ?_ ?_ rfl rfl rfl rfl, by omega, by omega⟩
     · (repeat' (first|exact trivial|refine aq ?_ ?_|exact oq|exact SubA.lsl ls|fail))
     · (repeat' (first|exact trivial|refine aq ?_ ?_|refine Exists.intro _ (aq rfl ?_)|exact oq|fail))
       refine rowEq ?_
       simp [List.replicate_succ']
   · have ek : k = 128 - b.length := by omega
     subst ek
     refine sub_de (sub_disk (PSub.refl _) (sub_sl ?_) rfl rfl) rfl
     simp [encW, encB, put128, List.take_of_length_le]
     try omega
 · exact sub_zero (by simp [Disk.write, ready_bad hb])
theorem new_spec (n : Int) : PSpec Tryz.prog 50 [.int n] (encDE (newD n)) := by
 refine PSpec.of_vc (fun Γ => more2 false Γ.P Γ.fx) (fun Γ => more2_ok) Tryz.func50 rfl Tryz.call50 (by simp) ?_
 rintro ⟨P, N, w0, X, β0, fx, y, hy, pk, df⟩ rfl rfl rfl hoff rfl; change y.on = false at hoff
 repeat' ((try conv => whnf); first|(first|refine k3 ?_ ?_|refine k4 ?_ ?_) <;> intro hb <;> (try rw [lM] at hb) <;> try (exfalso; omega)|refine aq rfl ?_|refine aq bd ?_|fail)
 · exact sub_zero (by simp only [newD]; rw [if_pos (by omega)])
 · exact sub_zero (by simp only [newD]; rw [if_pos (by omega)])
 · rename_i h1
   refine Wp.loop (fun k : Nat => ⟨[(2, .loc 2 0 0), (17, .int n), (18, .int k)], [(2, some (.box [.lsl 13 0 n.toNat, .pure (.val (.slice none 0 0)), .int (-1), .bool false])), (13, some (.row 1 (List.replicate k [encB zeroS] ++ List.replicate (n.toNat - k) [.val (.slice none 0 0)])))], [2, 13]⟩)
     (fun k => k ≤ n.toNat) (fun k => n.toNat - k) 0 (Le.of ?_ ?_ rfl rfl rfl) (by omega) ?_
   · (repeat' (first|exact trivial|refine aq ?_ ?_|exact oq|exact l1 bd|fail))
   · (repeat' (first|exact trivial|exact rfl|refine aq ?_ ?_|refine Exists.intro _ (aq rfl ?_)|exact oq|fail))
   intro k hk
   refine code_sound (more := more2 false _ _) more2_ok FOK.wide _ ?_
   repeat' ((try conv => whnf); first|(first|refine k3 ?_ ?_|refine k4 ?_ ?_) <;> intro hb <;> (try rw [lM] at hb) <;> try (exfalso; omega)|refine aq rfl ?_|fail)
   · refine Wp.draw (more := more2 true _ _) more2_det more2_ok FOK.wide rfl (by decide +kernel) (by conv => lhs; reduce) ?_
     repeat' ((try conv => whnf); first|refine aq rfl ?_|refine s4 nm ?_|refine aq bd ?_|refine .inl ⟨rfl, rfl, bd, rfl, rfl, ?_⟩|fail)
     refine ⟨k + 1, Le.of ?_ ?_ rfl rfl rfl, by omega, by omega⟩
     · (repeat' (first|exact trivial|refine aq ?_ ?_|exact oq|fail))
     · (repeat' (first|exact trivial|refine aq ?_ ?_|refine Exists.intro _ (aq rfl ?_)|exact oq|fail))
       refine rowEq ?_
       simp only [make128]
       simp only [Int.toNat_natCast, Nat.zero_add]
       exact set_repl _ _ _ _ (by omega)
   · have e : newD n = (⟨List.replicate n.toNat zeroS, [], -1, false⟩, 0) := by simp only [newD]; rw [if_neg (by omega)]
     rw [e]
     have hkn : k = n.toNat := by omega
     subst hkn
     exact sub_de (sub_disk (sub_sl (by simp)) (PSub.nil 2) rfl rfl) rfl
theorem refNew_spec (n : Int) : PSpec Tryz.prog 52 [.int n] (encDE (newD n)) := by
 refine PSpec.of_vc (fun Γ => more2 false Γ.P Γ.fx) (fun Γ => more2_ok) Tryz.func52 rfl Tryz.call52 (by simp) ?_
 rintro ⟨P, N, w0, X, β0, fx, y, hy, pk, df⟩ rfl rfl rfl hoff rfl; change y.on = false at hoff
 repeat' ((try conv => whnf); first|(first|refine k3 ?_ ?_|refine k4 ?_ ?_) <;> intro hb <;> (try rw [lM] at hb) <;> try (exfalso; omega)|refine aq rfl ?_|fail)
 · exact sub_zero (by simp only [newD]; rw [if_pos (by omega)])
 · exact sub_zero (by simp only [newD]; rw [if_pos (by omega)])
 · rename_i h1
   refine Wp.loop (fun k : Nat => ⟨[(0, .int n), (2, .loc 2 0 0), (4, .loc 4 0 0), (5, .int k)], [(2, some (.box [.pure (.val (.slice none 0 0)), .pure (.val (.slice none 0 0)), .int 0, .bool false])), (4, some (.box [.lsl 60 0 k, .pure (.val (.slice none 0 0)), .int (-1), .bool false])), (60, some (.row 1 (List.replicate k [encB zeroS])))], [2, 4, 60]⟩)
     (fun k => k ≤ n.toNat) (fun k => n.toNat - k) 0 (Le.trans (Le.virt (k := 60) (sz := 1) rfl rfl (by omega)) (Le.of ?_ ?_ rfl rfl rfl)) (by omega) ?_
   · (repeat' (first|exact trivial|refine aq ?_ ?_|exact oq|fail))
   · (repeat' (first|exact trivial|exact rfl|refine aq ?_ ?_|refine Exists.intro _ (aq rfl ?_)|exact oq|exact l6 rfl|fail))
   intro k hk
   refine code_sound (more := more2 false _ _) more2_ok FOK.wide _ ?_
   repeat' ((try conv => whnf); first|(first|refine k3 ?_ ?_|refine k4 ?_ ?_) <;> intro hb <;> (try rw [lM] at hb) <;> try (exfalso; omega)|refine aq rfl ?_|fail)
   · refine Wp.draw (more := more2 true _ _) more2_det more2_ok FOK.wide rfl (by decide +kernel) (by conv => lhs; reduce) ?_
     repeat' ((try conv => whnf); first|refine aq rfl ?_|refine s4 nm ?_|refine aq bd ?_|fail)
     refine ⟨k + 1, Le.map [(60, 23)] ?_ ?_ rfl rfl rfl rfl, by omega, by omega⟩
     · (repeat' (first|exact trivial|refine aq ?_ ?_|exact oq|fail))
     · (repeat' (first|exact trivial|refine aq ?_ ?_|refine Exists.intro _ (aq rfl ?_)|exact oq|exact SubA.lsl ls|fail))
       refine rowEq ?_
       simp [encB_zeroS, List.replicate_succ']
   · have e : newD n = (⟨List.replicate n.toNat zeroS, [], -1, false⟩, 0) := by simp only [newD]; rw [if_neg (by omega)]
     rw [e]
     have hkn : k = n.toNat := by omega
     subst hkn
     exact sub_de (sub_disk (sub_sl (by simp)) (PSub.nil 2) rfl rfl) rfl
end Go.Proofs.YtjfjpnefohbobaaGreatDoor.K
/- Disks: Sync. Conditions: none. -/
namespace Go.Proofs.YtjfjpnefohbobaaGreatDoor.K
open Go.Avc
attribute [local irreducible] PSub Wp PSpec Le Need Both
def perform (ss : List (List UInt8)) (ws : List (Int × List UInt8)) : List (List UInt8) := ws.foldl (fun s w => s.set w.1.toNat w.2) ss
def tear (s : List (List UInt8)) (w : Int × List UInt8) : List (List UInt8) := s.set w.1.toNat (w.2.take 64 ++ (s.getD w.1.toNat []).drop 64)
def Disk.sync (d : Disk) : Disk × Int :=
 if d.ready = 0 then
   (if d.left = -1 ∨ (d.pending.length : Int) ≤ d.left then (⟨perform d.sectors d.pending, [], if d.left = -1 then -1 else d.left - d.pending.length, false⟩, 0)
    else (⟨tear (perform d.sectors (d.pending.take d.left.toNat)) (d.pending.getD d.left.toNat (0, [])), [], 0, true⟩, 470))
 else (zeroD, 470)
theorem perform_len (ss : List (List UInt8)) (ws : List (Int × List UInt8)) : (perform ss ws).length = ss.length := by
 induction ws generalizing ss with
 | nil => rfl
 | cons w ws ih => simp only [perform, List.foldl_cons] at ih ⊢; rw [ih]; simp
theorem perform_snoc (ss : List (List UInt8)) (ws : List (Int × List UInt8)) (w : Int × List UInt8) : perform ss (ws ++ [w]) = (perform ss ws).set w.1.toNat w.2 := by simp [perform]
theorem perform_take (ss : List (List UInt8)) (ws : List (Int × List UInt8)) {k : Nat} (hk : k < ws.length) : perform ss (ws.take (k + 1)) = (perform ss (ws.take k)).set ws[k].1.toNat ws[k].2 := by
 rw [List.take_succ_eq_append_getElem hk, perform_snoc]
theorem perform_128 {ss : List (List UInt8)} {ws : List (Int × List UInt8)} (h1 : ∀ s ∈ ss, s.length = 128) (h2 : ∀ w ∈ ws, w.2.length = 128) : ∀ s ∈ perform ss ws, s.length = 128 := by
 induction ws generalizing ss with
 | nil => exact h1
 | cons w ws ih =>
   refine ih (ss := ss.set w.1.toNat w.2) (fun s hs => ?_) fun x hx => h2 x (List.mem_cons_of_mem _ hx)
   rcases List.mem_or_eq_of_mem_set hs with h | h
   · exact h1 s h
   · rw [h]; exact h2 w List.mem_cons_self
theorem ovr_map {α β : Type} (f : α → β) (l m : List α) (i c : Nat) : ovr (l.map f) i c (m.map f) = (ovr l i c m).map f := by simp [ovr]
theorem torn_rows {s w : List UInt8} (hs : s.length = 128) (hw : w.length = 128) : PV.sl (0 + 1) (List.take (Int.toNat 128) (List.drop 0 (ovr (ovr (List.replicate (Int.toNat 128) (List.map PV.val (Value.int IntKind.u8 0).cells.toList)) 0
   (min (List.map (fun b : UInt8 => [PV.val (Value.int IntKind.u8 (b.toNat : Int))]) s).length (Int.toNat 128)) (List.map (fun b : UInt8 => [PV.val (Value.int IntKind.u8 (b.toNat : Int))]) s)) (0 + 0)
   (min (List.map (fun b : UInt8 => [PV.val (Value.int IntKind.u8 (b.toNat : Int))]) w).length (Int.toNat 64 - 0)) (List.map (fun b : UInt8 => [PV.val (Value.int IntKind.u8 (b.toNat : Int))]) w)))) = encB (w.take 64 ++ s.drop 64) := by
 rw [zeros_eq, ovr_map, ovr_map]
 simp only [encB, Nat.zero_add, List.drop_zero, ← List.map_take]
 congr 2
 have e1 : Int.toNat 128 = 128 := rfl
 have e2 : Int.toNat 64 = 64 := rfl
 simp only [List.length_map, hs, hw, e1, e2, ovr, zeroS, List.take_zero, List.nil_append, Nat.zero_add]
 rw [List.take_of_length_le (by simp; omega)]
 simp [List.drop_append, List.take_of_length_le, hs]
theorem cloneS_own (ws : List (List UInt8)) (h : ws.length ≤ 1000000) : GSpec Tryz.prog 68 1 ⟨[(0, .pure (encS ws))], [], []⟩ [] 1 ⟨[(0, .lsl 7 0 ws.length)], [(7, some (.row 1 (ws.map fun s => [encB s])))], [7]⟩ := by
 refine GSpec.of_vc (fun Γ => more2 false Γ.P Γ.fx) (fun Γ => more2_ok) Tryz.func68 rfl Tryz.call68 (by simp) ?_
 rintro ⟨P, N, w0, X, β0, fx, y, hy, pk, df⟩ rfl rfl rfl hoff rfl; change y.on = false at hoff
 skip
 intro r hr
 repeat' ((try conv => whnf); first|refine k6 (fun hb => ?_) fun hb => ?_|refine aq rfl ?_|refine aq bd ?_|fail)
 · have e : ws = [] := List.map_eq_nil_iff.1 (hr hb)
   subst e
   exact Le.trans (Le.virt (k := 7) (sz := 1) rfl rfl (by omega)) (Le.of ⟨Or.inr (Or.inr (Or.inr ⟨7, rfl, rfl, rfl⟩)), trivial⟩ ⟨rfl, trivial⟩ rfl rfl rfl)
 · exact Le.of ⟨SubA.lsl (by simp), trivial⟩ ⟨rfl, trivial⟩ rfl rfl rfl
theorem sync_spec (d : Disk) : PSpec Tryz.prog 76 [encD d] (encDE d.sync) := by
 refine PSpec.of_vc (fun Γ => more2 false Γ.P Γ.fx) (fun Γ => more2_ok) Tryz.func76 rfl Tryz.call76 (by simp) ?_
 rintro ⟨P, N, w0, X, β0, fx, y, hy, pk, df⟩ rfl rfl rfl hoff rfl; change y.on = false at hoff
 skip
 refine .inl ⟨_, ready_spec d, ?_⟩
 by_cases hr : d.ready = 0
 case neg =>
   repeat' ((try conv => whnf); first|(first|refine k3 ?_ ?_|refine k4 ?_ ?_) <;> intro hb <;> (try rw [lM] at hb) <;> try (exfalso; omega)|refine aq rfl ?_|fail)
   exact sub_zero (by simp only [Disk.sync]; rw [if_neg hr, ready_not hr])
 obtain ⟨l1, l2, l3, l4⟩ := ready_le hr
 repeat' ((try conv => whnf); first|(first|refine k3 ?_ ?_|refine k4 ?_ ?_) <;> intro hb <;> (try rw [lM] at hb) <;> try (exfalso; omega)|refine aq rfl ?_|fail)
 · have hw : d.left = -1 := by assumption
   have e : d.sync = (⟨perform d.sectors d.pending, [], -1, false⟩, 0) := by simp only [Disk.sync, if_pos hr]; rw [if_pos (by omega), if_pos hw]
   refine .inr ⟨[(7, 36)], [.pure (encS d.sectors)], [], [], [], 1, _, cloneS_own d.sectors (by omega), ⟨Or.inl rfl, trivial⟩, trivial, ?_⟩
   repeat' ((try conv => whnf); first|refine aq rfl ?_|refine aq bd ?_|fail)
   refine Wp.loop (fun k : Nat => ⟨[(1, .loc 1 0 0), (2, .loc 2 0 0), (5, .int (d.pending.length : Nat)), (6, .bool true), (43, .pure (.sl 2 ((d.pending.take d.pending.length).map encW))), (44, .int (d.pending.length : Nat)), (45, .int k)],
       [(1, some (.box [.pure (encS d.sectors), .pure (encWs d.pending), .int d.left, .bool d.stopped])), (2, some (.box [.lsl 36 0 d.sectors.length, .pure (.val (.slice none 0 0)), .int d.left, .bool d.stopped])), (36, some (.row 1 ((perform d.sectors (d.pending.take k)).map fun s => [encB s])))], [1, 2, 36]⟩)
     (fun k => k ≤ d.pending.length) (fun k => d.pending.length - k) 0 (Le.of ?_ ?_ rfl rfl rfl) (by omega) ?_
   · (repeat' (first|exact trivial|refine aq ?_ ?_|exact oq|fail))
     all_goals first
       | (refine SubA.int ?_; simp [cut]; done)
       | (refine SubA.int ?_; simp [cut]; omega)
       | (refine SubA.sl ?_; simp [cut, List.map_take]; done)
       | (refine SubA.sl ?_; simp only [cut, List.map_take]; simp only [List.length_map, Int.toNat_natCast, Nat.sub_zero, List.drop_zero]; done)
   · (repeat' (first|exact trivial|exact rfl|refine aq ?_ ?_|refine Exists.intro _ (aq rfl ?_)|exact oq|fail))
   intro k hk
   have hplen := perform_len d.sectors (d.pending.take k)
   by_cases hkm : k < (d.pending.take d.pending.length).length
   · have h5 := l4 _ (List.mem_of_mem_take (List.getElem_mem hkm))
     have hkm2 : k < d.pending.length := by simp at hkm; omega
     have hkm' : k < d.pending.length := by simp at hkm; omega
     have h6 : (d.pending.take d.pending.length)[k] = d.pending[k] := List.getElem_take
     have h7 := perform_take d.sectors d.pending hkm'
     refine code_sound (more := more2 false _ _) more2_ok FOK.wide _ ?_
     repeat' ((try conv => whnf); first|(first|refine k3 ?_ ?_|refine k4 ?_ ?_) <;> intro hb <;> (try rw [lM] at hb) <;> try (exfalso; omega)|refine aq rfl ?_|refine s4 nm ?_|refine s5 nm nm ?_|refine aq bd ?_|refine .inl ⟨rfl, rfl, bd, rfl, rfl, ?_⟩|fail)
     refine ⟨k + 1, Le.of ?_ ?_ rfl rfl rfl, by omega, by omega⟩
     · (repeat' (first|exact trivial|refine aq ?_ ?_|exact oq|fail))
     · (repeat' (first|exact trivial|refine aq ?_ ?_|refine Exists.intro _ (aq rfl ?_)|exact oq|fail))
       refine rowEq ?_
       simp only [h7, h6, List.map_set, Nat.zero_add]
   have ek : k = d.pending.length := by simp at hkm; omega
   subst ek
   refine code_sound (more := more2 false _ _) more2_ok FOK.wide _ ?_
   repeat' ((try conv => whnf); first|(first|refine k3 ?_ ?_|refine k4 ?_ ?_) <;> intro hb <;> (try rw [lM] at hb) <;> try (exfalso; omega)|refine aq rfl ?_|fail)
   rw [e]
   refine sub_de (sub_disk (sub_sl ?_) (PSub.nil 2) hw (ready_of hr).2) rfl
   simp only [List.drop_zero, List.take_length] at hplen ⊢
   exact List.take_of_length_le (by simp; omega)
 · have hw : ¬ d.left = -1 := by assumption
   have hw2 : (d.pending.length : Int) ≤ d.left := by assumption
   have hl3 := (ready_of hr).1.2.2.2.2.1
   have e : d.sync = (⟨perform d.sectors d.pending, [], d.left - d.pending.length, false⟩, 0) := by simp only [Disk.sync, if_pos hr]; rw [if_pos (by omega), if_neg hw]
   refine .inr ⟨[(7, 36)], [.pure (encS d.sectors)], [], [], [], 1, _, cloneS_own d.sectors (by omega), ⟨Or.inl rfl, trivial⟩, trivial, ?_⟩
   repeat' ((try conv => whnf); first|refine aq rfl ?_|refine aq bd ?_|fail)
   refine Wp.loop (fun k : Nat => ⟨[(1, .loc 1 0 0), (2, .loc 2 0 0), (5, .int (d.pending.length : Nat)), (6, .bool (decide ((d.pending.length : Int) ≤ d.left))), (43, .pure (.sl 2 ((d.pending.take d.pending.length).map encW))), (44, .int (d.pending.length : Nat)), (45, .int k)],
       [(1, some (.box [.pure (encS d.sectors), .pure (encWs d.pending), .int d.left, .bool d.stopped])), (2, some (.box [.lsl 36 0 d.sectors.length, .pure (.val (.slice none 0 0)), .int d.left, .bool d.stopped])), (36, some (.row 1 ((perform d.sectors (d.pending.take k)).map fun s => [encB s])))], [1, 2, 36]⟩)
     (fun k => k ≤ d.pending.length) (fun k => d.pending.length - k) 0 (Le.of ?_ ?_ rfl rfl rfl) (by omega) ?_
   · (repeat' (first|exact trivial|refine aq ?_ ?_|exact oq|exact SubA.bool bo|fail))
     all_goals first
       | (refine SubA.int ?_; simp [cut]; done)
       | (refine SubA.int ?_; simp [cut]; omega)
       | (refine SubA.sl ?_; simp [cut, List.map_take]; done)
       | (refine SubA.sl ?_; simp only [cut, List.map_take]; simp only [List.length_map, Int.toNat_natCast, Nat.sub_zero, List.drop_zero]; done)
   · (repeat' (first|exact trivial|exact rfl|refine aq ?_ ?_|refine Exists.intro _ (aq rfl ?_)|exact oq|fail))
   intro k hk
   have hplen := perform_len d.sectors (d.pending.take k)
   by_cases hkm : k < (d.pending.take d.pending.length).length
   · have h5 := l4 _ (List.mem_of_mem_take (List.getElem_mem hkm))
     have hkm2 : k < d.pending.length := by simp at hkm; omega
     have hkm' : k < d.pending.length := by simp at hkm; omega
     have h6 : (d.pending.take d.pending.length)[k] = d.pending[k] := List.getElem_take
     have h7 := perform_take d.sectors d.pending hkm'
     refine code_sound (more := more2 false _ _) more2_ok FOK.wide _ ?_
     repeat' ((try conv => whnf); first|(first|refine k3 ?_ ?_|refine k4 ?_ ?_) <;> intro hb <;> (try rw [lM] at hb) <;> try (exfalso; omega)|refine aq rfl ?_|refine s4 nm ?_|refine s5 nm nm ?_|refine aq bd ?_|refine .inl ⟨rfl, rfl, bd, rfl, rfl, ?_⟩|fail)
     refine ⟨k + 1, Le.of ?_ ?_ rfl rfl rfl, by omega, by omega⟩
     · (repeat' (first|exact trivial|refine aq ?_ ?_|exact oq|fail))
     · (repeat' (first|exact trivial|refine aq ?_ ?_|refine Exists.intro _ (aq rfl ?_)|exact oq|fail))
       refine rowEq ?_
       simp only [h7, h6, List.map_set, Nat.zero_add]
   have ek : k = d.pending.length := by simp at hkm; omega
   subst ek
   refine code_sound (more := more2 false _ _) more2_ok FOK.wide _ ?_
   repeat' ((try conv => whnf); first|(first|refine k3 ?_ ?_|refine k4 ?_ ?_) <;> intro hb <;> (try rw [lM] at hb) <;> try (exfalso; omega)|refine aq rfl ?_|refine s4 nm ?_|fail)
   rw [e]
   refine sub_de (sub_disk (sub_sl ?_) (PSub.nil 2) rfl (ready_of hr).2) rfl
   simp only [List.drop_zero, List.take_length] at hplen ⊢
   exact List.take_of_length_le (by simp; omega)
 · have hl0 : 0 ≤ d.left := by have := (ready_of hr).1.2.2.2.1; omega
   have hl1 : d.left.toNat < d.pending.length := by omega
   have h8 := l4 _ (List.getElem_mem hl1)
   have e : d.sync = (⟨tear (perform d.sectors (d.pending.take d.left.toNat)) d.pending[d.left.toNat], [], 0, true⟩, 470) := by simp only [Disk.sync, if_pos hr]; rw [if_neg (by omega)]; simp [List.getD, hl1]
   refine .inr ⟨[(7, 36)], [.pure (encS d.sectors)], [], [], [], 1, _, cloneS_own d.sectors (by omega), ⟨Or.inl rfl, trivial⟩, trivial, ?_⟩
   repeat' ((try conv => whnf); first|refine aq rfl ?_|refine aq bd ?_|fail)
   refine Wp.loop (fun k : Nat => ⟨[(1, .loc 1 0 0), (2, .loc 2 0 0), (5, .int (d.left.toNat : Nat)), (6, .bool (decide ((d.pending.length : Int) ≤ d.left))), (43, .pure (.sl 2 ((d.pending.take d.left.toNat).map encW))), (44, .int (d.left.toNat : Nat)), (45, .int k)],
       [(1, some (.box [.pure (encS d.sectors), .pure (encWs d.pending), .int d.left, .bool d.stopped])), (2, some (.box [.lsl 36 0 d.sectors.length, .pure (.val (.slice none 0 0)), .int d.left, .bool d.stopped])), (36, some (.row 1 ((perform d.sectors (d.pending.take k)).map fun s => [encB s])))], [1, 2, 36]⟩)
     (fun k => k ≤ d.left.toNat) (fun k => d.left.toNat - k) 0 (Le.of ?_ ?_ rfl rfl rfl) (by omega) ?_
   · (repeat' (first|exact trivial|refine aq ?_ ?_|exact oq|exact SubA.sl sc|exact SubA.bool bo|fail))
     all_goals first
       | (refine SubA.int ?_; simp [cut]; done)
       | (refine SubA.int ?_; simp [cut]; omega)
       | (refine SubA.sl ?_; simp [cut, List.map_take]; done)
       | (refine SubA.sl ?_; simp only [cut, List.map_take]; simp only [List.length_map, Int.toNat_natCast, Nat.sub_zero, List.drop_zero]; done)
   · (repeat' (first|exact trivial|exact rfl|refine aq ?_ ?_|refine Exists.intro _ (aq rfl ?_)|exact oq|fail))
   intro k hk
   have hplen := perform_len d.sectors (d.pending.take k)
   by_cases hkm : k < (d.pending.take d.left.toNat).length
   · have h5 := l4 _ (List.mem_of_mem_take (List.getElem_mem hkm))
     have hkm2 : k < d.left.toNat := by simp at hkm; omega
     have hkm' : k < d.pending.length := by simp at hkm; omega
     have h6 : (d.pending.take d.left.toNat)[k] = d.pending[k] := List.getElem_take
     have h7 := perform_take d.sectors d.pending hkm'
     refine code_sound (more := more2 false _ _) more2_ok FOK.wide _ ?_
     repeat' ((try conv => whnf); first|(first|refine k3 ?_ ?_|refine k4 ?_ ?_) <;> intro hb <;> (try rw [lM] at hb) <;> try (exfalso; omega)|refine aq rfl ?_|refine s4 nm ?_|refine s5 nm nm ?_|refine aq bd ?_|refine .inl ⟨rfl, rfl, bd, rfl, rfl, ?_⟩|fail)
     refine ⟨k + 1, Le.of ?_ ?_ rfl rfl rfl, by omega, by omega⟩
     · (repeat' (first|exact trivial|refine aq ?_ ?_|exact oq|fail))
     · (repeat' (first|exact trivial|refine aq ?_ ?_|refine Exists.intro _ (aq rfl ?_)|exact oq|fail))
       refine rowEq ?_
       simp only [h7, h6, List.map_set, Nat.zero_add]
   have ek : k = d.left.toNat := by simp at hkm; omega
   subst ek
   refine code_sound (more := more2 false _ _) more2_ok FOK.wide _ ?_
   repeat' ((try conv => whnf); first|(first|refine k3 ?_ ?_|refine k4 ?_ ?_) <;> intro hb <;> (try rw [lM] at hb) <;> try (exfalso; omega)|refine aq rfl ?_|refine s5 nm nm ?_|refine aq bd ?_|refine ⟨_, _, getMapN nm, rfl, ?_⟩|fail)
   refine Wp.draw (more := more2 true _ _) more2_det more2_ok FOK.wide rfl (by decide +kernel) (by conv => lhs; reduce) ?_
   repeat' ((try conv => whnf); first|refine aq rfl ?_|refine aq bd ?_|refine .inl ⟨rfl, rfl, bd, rfl, rfl, ?_⟩|fail)
   rw [e]
   refine sub_de (sub_disk (sub_sl ?_) (PSub.nil 2) rfl rfl) rfl
   have h9 : (perform d.sectors (List.take d.left.toNat d.pending))[0 + d.pending[d.left.toNat].fst.toNat]'(by omega) = (perform d.sectors (List.take d.left.toNat d.pending)).getD d.pending[d.left.toNat].fst.toNat [] := by
     have : d.pending[d.left.toNat].fst.toNat < (perform d.sectors (List.take d.left.toNat d.pending)).length := by omega
     simp [List.getD, this]
   have h10 : ((perform d.sectors (List.take d.left.toNat d.pending)).getD d.pending[d.left.toNat].fst.toNat []).length = 128 := by
     rw [← h9]
     exact perform_128 l3 (fun w hw => (l4 w (List.mem_of_mem_take hw)).2.2) _ (List.getElem_mem _)
   have h11 := h8.2.2
   simp only [h9, tear]
   clear h9
   generalize (perform d.sectors (List.take d.left.toNat d.pending)).getD d.pending[d.left.toNat].fst.toNat [] = s at h10 ⊢
   generalize d.pending[d.left.toNat] = w at h11 ⊢
   rw [torn_rows h10 h11]
   simp only [List.drop_zero, Nat.zero_add, ← List.map_set]
   exact List.take_of_length_le (by simp; omega)
end Go.Proofs.YtjfjpnefohbobaaGreatDoor.K
