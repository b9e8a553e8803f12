/- Disks: their values, and what Check answers. Conditions: none. -/
import Derived.Test.YtcgpikmaapallaaWd
import Derived.Test.YtcgpikmaapallaaRows
set_option linter.unusedSimpArgs false
set_option linter.unusedVariables false
set_option maxRecDepth 20000
set_option maxHeartbeats 4000000
namespace Go.Proofs.Ytcgpikmaapallaa
open Go.Avc
structure Disk where
 sectors : List (List UInt8)
 pending : List (Int × List UInt8)
 left : Int
 stopped : Bool
 deriving DecidableEq
def encB (bs : List UInt8) : PV := .sl 1 (bs.map fun b => [.val (.int .u8 b.toNat)])
def encS (ss : List (List UInt8)) : PV := .sl 1 (ss.map fun s => [encB s])
def encW (w : Int × List UInt8) : List PV := [.int w.1, encB w.2]
def encWs (ws : List (Int × List UInt8)) : PV := .sl 2 (ws.map encW)
def encD (d : Disk) : PV := .agg [encS d.sectors, encWs d.pending, .int d.left, .bool d.stopped]
def Disk.good (d : Disk) : Prop := ¬ d.sectors.length < 1 ∧ ¬ 4096 < d.sectors.length ∧ ¬ 4096 < d.pending.length ∧ ¬ d.left < -1 ∧ ¬ 65536 < d.left ∧
 (∀ s ∈ d.sectors, s.length = 128) ∧ ∀ p ∈ d.pending, ¬ p.1 < 0 ∧ ¬ (d.sectors.length : Int) ≤ p.1 ∧ p.2.length = 128
instance (d : Disk) : Decidable d.good := by unfold Disk.good; infer_instance
def Disk.check (d : Disk) : Int := if d.good then 0 else 470
theorem check_bad {d : Disk} (h : ¬ d.good) : d.check = 470 := by simp [Disk.check, h]
theorem check_good {d : Disk} (h : d.good) : d.check = 0 := by simp [Disk.check, h]
theorem bad470 {d : Disk} (h : ¬ d.good) : PSub (.val (.int .i64 470)) (.int d.check) := PSub.val_int (check_bad h).symm
theorem take_all {α : Type} {l : List α} {p : α → Prop} {k : Nat} (h : ∀ x ∈ l.take k, p x) (hk : k < l.length) (h1 : p l[k]) : ∀ x ∈ l.take (k + 1), p x := fun x hx => by
 rw [List.take_succ_eq_append_getElem hk] at hx
 rcases List.mem_append.1 hx with h' | h'
 · exact h x h'
 · simp at h'; subst h'; exact h1
theorem all_take {α : Type} {l : List α} {p : α → Prop} {k : Nat} (h : ∀ x ∈ l.take k, p x) (hk : l.length ≤ k) : ∀ x ∈ l, p x := fun x hx => h x (by rwa [List.take_of_length_le hk])
attribute [local irreducible] PSub Wp PSpec Le Need Both
theorem check_spec (d : Disk) : PSpec Try.prog 31 [encD d] (.int d.check) := by
 refine PSpec.of_vc (fun Γ => more2 false Γ.P Γ.fx) (fun Γ => more2_ok) Try.func31 rfl Try.call31 (by simp) ?_
 rintro ⟨P, N, w0, X, β0, fx, y, hy, pk, df⟩ rfl rfl rfl hoff rfl; change y.on = false at hoff
 repeat' ((try conv => whnf); first|(first|refine k3 ?_ ?_|refine k4 ?_ ?_) <;> intro hb <;> (try rw [lM] at hb) <;> try (exfalso; omega)|fail)
 case refine_1 => exact bad470 (fun h => h.1 (by omega))
 case refine_2.refine_1 => exact bad470 (fun h => h.2.1 (by omega))
 case refine_2.refine_2.refine_1 => exact bad470 (fun h => h.2.2.1 (by omega))
 case refine_2.refine_2.refine_2.refine_1 => exact bad470 (fun h => h.2.2.2.1 (by omega))
 case refine_2.refine_2.refine_2.refine_2.refine_1 => exact bad470 (fun h => h.2.2.2.2.1 (by omega))
 refine Wp.loop (fun k : Nat => ⟨[(1, .loc 1 0 0), (34, .pure (encS d.sectors)), (35, .int d.sectors.length), (36, .int k)], [(1, some (.box [.pure (encS d.sectors), .pure (encWs d.pending), .int d.left, .bool d.stopped]))], [1]⟩)
   (fun k => k ≤ d.sectors.length ∧ ∀ s ∈ d.sectors.take k, s.length = 128) (fun k => d.sectors.length - k) 0 (Le.of ?_ ?_ rfl rfl rfl) ⟨by omega, by simp⟩ ?_
 · (repeat' (first|exact trivial|refine aq ?_ ?_|exact oq|exact l1 bd|fail))
 · (repeat' (first|exact trivial|refine aq ?_ ?_|refine Exists.intro _ (aq rfl ?_)|exact oq|fail))
 rintro k ⟨hk, hs⟩
 refine code_sound (more := more2 false _ _) more2_ok FOK.wide _ ?_
 repeat' ((try conv => whnf); first|(first|refine k3 ?_ ?_|refine k4 ?_ ?_) <;> intro hb <;> (try rw [lM] at hb) <;> try (exfalso; omega)|refine s4 nm ?_|refine s5 nm nm ?_|fail)
 · exact ⟨k + 1, Le.of (by (repeat' (first|exact trivial|refine aq ?_ ?_|exact oq|fail))) (by (repeat' (first|exact trivial|refine aq ?_ ?_|refine Exists.intro _ (aq rfl ?_)|exact oq|fail))) rfl rfl rfl, ⟨by omega, take_all hs (by omega) (by omega)⟩, by omega⟩
 · exact bad470 (fun h => hb (by have := h.2.2.2.2.2.1 _ (List.getElem_mem (show k < d.sectors.length by omega)); omega))
 have hs2 := all_take hs (by omega)
 refine Wp.loop (fun k : Nat => ⟨[(1, .loc 1 0 0), (45, .pure (encWs d.pending)), (46, .int d.pending.length), (47, .int k)], [(1, some (.box [.pure (encS d.sectors), .pure (encWs d.pending), .int d.left, .bool d.stopped]))], [1]⟩)
   (fun k => k ≤ d.pending.length ∧ ∀ p ∈ d.pending.take k, ¬ p.1 < 0 ∧ ¬ (d.sectors.length : Int) ≤ p.1 ∧ p.2.length = 128) (fun k => d.pending.length - k) 0 (Le.of ?_ ?_ rfl rfl rfl) ⟨by omega, by simp⟩ ?_
 · (repeat' (first|exact trivial|refine aq ?_ ?_|exact oq|exact l1 bd|fail))
 · (repeat' (first|exact trivial|refine aq ?_ ?_|refine Exists.intro _ (aq rfl ?_)|exact oq|fail))
 clear hs hk
 rintro k ⟨hk, hs⟩
 refine code_sound (more := more2 false _ _) more2_ok FOK.wide _ ?_
 repeat' ((try conv => whnf); first|(first|refine k3 ?_ ?_|refine k4 ?_ ?_) <;> intro hb <;> (try rw [lM] at hb) <;> try (exfalso; omega)|refine aq rfl ?_|refine s4 nm ?_|refine s5 nm nm ?_|fail)
 · exact bad470 fun h => (h.2.2.2.2.2.2 _ (List.getElem_mem (show k < d.pending.length by omega))).1 hb
 · exact bad470 fun h => (h.2.2.2.2.2.2 _ (List.getElem_mem (show k < d.pending.length by omega))).2.1 hb
 · exact ⟨k + 1, Le.of (by (repeat' (first|exact trivial|refine aq ?_ ?_|exact oq|fail))) (by (repeat' (first|exact trivial|refine aq ?_ ?_|refine Exists.intro _ (aq rfl ?_)|exact oq|fail))) rfl rfl rfl, ⟨by omega, take_all hs (by omega) ⟨by omega, by omega, by omega⟩⟩, by omega⟩
 · exact bad470 fun h => hb (by have := (h.2.2.2.2.2.2 _ (List.getElem_mem (show k < d.pending.length by omega))).2.2; omega)
 · exact PSub.val_int (check_good ⟨by omega, by omega, by omega, by omega, by omega, hs2, all_take hs (by omega)⟩).symm
end Go.Proofs.Ytcgpikmaapallaa
/- Disks: the reference's Check, and Same. Conditions: none. -/
namespace Go.Proofs.Ytcgpikmaapallaa
open Go.Avc
attribute [local irreducible] PSub Wp PSpec Le Need Both
theorem refCheck_spec (d : Disk) : PSpec Try.prog 34 [encD d] (.int d.check) := by
 refine PSpec.of_vc (fun Γ => more2 false Γ.P Γ.fx) (fun Γ => more2_ok) Try.func34 rfl Try.call34 (by simp) ?_
 rintro ⟨P, N, w0, X, β0, fx, y, hy, pk, df⟩ rfl rfl rfl hoff rfl; change y.on = false at hoff
 repeat' ((try conv => whnf); first|(first|refine k3 ?_ ?_|refine k4 ?_ ?_) <;> intro hb <;> (try rw [lM] at hb) <;> try (exfalso; omega)|fail)
 case refine_1 => exact bad470 (fun h => h.1 (by omega))
 case refine_2.refine_1 => exact bad470 (fun h => h.2.1 (by omega))
 case refine_2.refine_2.refine_1 => exact bad470 (fun h => h.2.2.1 (by omega))
 case refine_2.refine_2.refine_2.refine_1 => exact bad470 (fun h => h.2.2.2.1 (by omega))
 case refine_2.refine_2.refine_2.refine_2.refine_1 => exact bad470 (fun h => h.2.2.2.2.1 (by omega))
 refine Wp.loop (fun k : Nat => ⟨[(1, .loc 1 0 0), (3, .int d.sectors.length), (4, .int k)], [(1, some (.box [.pure (encS d.sectors), .pure (encWs d.pending), .int d.left, .bool d.stopped]))], [1]⟩)
   (fun k => k ≤ d.sectors.length ∧ ∀ s ∈ d.sectors.take k, s.length = 128) (fun k => d.sectors.length - k) 0 (Le.of ?_ ?_ rfl rfl rfl) ⟨by omega, by simp⟩ ?_
 · (repeat' (first|exact trivial|refine aq ?_ ?_|exact oq|exact l1 bd|fail))
 · (repeat' (first|exact trivial|refine aq ?_ ?_|refine Exists.intro _ (aq rfl ?_)|exact oq|fail))
 rintro k ⟨hk, hs⟩
 refine code_sound (more := more2 false _ _) more2_ok FOK.wide _ ?_
 repeat' ((try conv => whnf); first|(first|refine k3 ?_ ?_|refine k4 ?_ ?_) <;> intro hb <;> (try rw [lM] at hb) <;> try (exfalso; omega)|refine s4 nm ?_|refine s5 nm nm ?_|fail)
 · exact ⟨k + 1, Le.of (by (repeat' (first|exact trivial|refine aq ?_ ?_|exact oq|fail))) (by (repeat' (first|exact trivial|refine aq ?_ ?_|refine Exists.intro _ (aq rfl ?_)|exact oq|fail))) rfl rfl rfl, ⟨by omega, take_all hs (by omega) (by omega)⟩, by omega⟩
 · exact bad470 fun h => hb (by have := h.2.2.2.2.2.1 _ (List.getElem_mem (show k < d.sectors.length by omega)); omega)
 have hs2 := all_take hs (by omega)
 refine Wp.loop (fun k : Nat => ⟨[(1, .loc 1 0 0), (3, .int d.sectors.length), (5, .int k)], [(1, some (.box [.pure (encS d.sectors), .pure (encWs d.pending), .int d.left, .bool d.stopped]))], [1]⟩)
   (fun k => k ≤ d.pending.length ∧ ∀ p ∈ d.pending.take k, ¬ p.1 < 0 ∧ ¬ (d.sectors.length : Int) ≤ p.1 ∧ p.2.length = 128) (fun k => d.pending.length - k) 0 (Le.of ?_ ?_ rfl rfl rfl) ⟨by omega, by simp⟩ ?_
 · (repeat' (first|exact trivial|refine aq ?_ ?_|exact oq|fail))
 · (repeat' (first|exact trivial|refine aq ?_ ?_|refine Exists.intro _ (aq rfl ?_)|exact oq|fail))
 clear hs hk
 rintro k ⟨hk, hs⟩
 refine code_sound (more := more2 false _ _) more2_ok FOK.wide _ ?_
 repeat' ((try conv => whnf); first|(first|refine k3 ?_ ?_|refine k4 ?_ ?_) <;> intro hb <;> (try rw [lM] at hb) <;> try (exfalso; omega)|refine aq rfl ?_|refine s4 nm ?_|refine s5 nm nm ?_|fail)
 · exact bad470 fun h => (h.2.2.2.2.2.2 _ (List.getElem_mem (show k < d.pending.length by omega))).1 hb
 · exact bad470 fun h => (h.2.2.2.2.2.2 _ (List.getElem_mem (show k < d.pending.length by omega))).2.1 hb
 · exact ⟨k + 1, Le.of (by (repeat' (first|exact trivial|refine aq ?_ ?_|exact oq|fail))) (by (repeat' (first|exact trivial|refine aq ?_ ?_|refine Exists.intro _ (aq rfl ?_)|exact oq|fail))) rfl rfl rfl, ⟨by omega, take_all hs (by omega) ⟨by omega, by omega, by omega⟩⟩, by omega⟩
 · exact bad470 fun h => hb (by have := (h.2.2.2.2.2.2 _ (List.getElem_mem (show k < d.pending.length by omega))).2.2; omega)
 · exact PSub.val_int (check_good ⟨by omega, by omega, by omega, by omega, by omega, hs2, all_take hs (by omega)⟩).symm
def Disk.same (a b : Disk) : Bool := decide (a = b)
theorem ofArr {x y : List UInt8} (h : (⟨x.toArray⟩ : ByteArray) = ⟨y.toArray⟩) : x = y := by
 injection h with h
 exact List.toArray_inj h
end Go.Proofs.Ytcgpikmaapallaa
/- Disks: ready, Restart, Stop, the copies of slices. Conditions: none. -/
namespace Go.Proofs.Ytcgpikmaapallaa
open Go.Avc
def zeroD : Disk := ⟨[], [], 0, false⟩
def encDE (r : Disk × Int) : PV := .tup [encD r.1, .int r.2]
theorem sub_disk {s p : PV} {l : Int} {b : Bool} {d : Disk} (h1 : PSub s (encS d.sectors)) (h2 : PSub p (encWs d.pending)) (h3 : l = d.left) (h4 : b = d.stopped) : PSub (.agg [s, p, .val (.int .i64 l), .val (.bool b)]) (encD d) :=
 PSub.agg ⟨h1, h2, PSub.val_int h3, PSub.val_bool h4, trivial⟩
theorem sub_de {x : PV} {e : Int} {r : Disk × Int} (h1 : PSub x (encD r.1)) (h2 : e = r.2) : PSub (.tup [x, .val (.int .i64 e)]) (encDE r) := PSub.tup ⟨h1, PSub.val_int h2, trivial⟩
theorem sub_zero {e : Int} {r : Disk × Int} (h : r = (zeroD, e)) : PSub (.tup [.agg [.val (.slice none 0 0), .val (.slice none 0 0), .val (.int .i64 0), .val (.bool false)], .val (.int .i64 e)]) (encDE r) := by
 subst h
 exact sub_de (sub_disk (PSub.nil 1) (PSub.nil 2) rfl rfl) rfl
theorem sub_sl {sz sz' : Nat} {a b : List (List PV)} (h : a = b) (hs : sz = sz' := by rfl) : PSub (.sl sz a) (.sl sz' b) := by subst h; subst hs; exact PSub.refl _
attribute [local irreducible] PSub Wp PSpec Le Need Both
def Disk.ready (d : Disk) : Int := if d.good ∧ d.stopped = false then 0 else 470
theorem good_of {d : Disk} (h : d.check = 0) : d.good := by
 by_cases hg : d.good
 · exact hg
 · rw [check_bad hg] at h; cases h
theorem bad_of {d : Disk} (h : ¬ d.check = 0) : ¬ d.good := fun hg => h (check_good hg)
theorem ready_of {d : Disk} (h : d.ready = 0) : d.good ∧ d.stopped = false := by
 by_cases hg : d.good ∧ d.stopped = false
 · exact hg
 · simp [Disk.ready, hg] at h
theorem ready_not {d : Disk} (h : ¬ d.ready = 0) : d.ready = 470 := by
 unfold Disk.ready at h ⊢
 split at h
 · exact absurd rfl h
 · rename_i hg; rw [if_neg hg]
theorem ready_ok {d : Disk} (h : d.check = 0) (h2 : d.stopped = false) : d.ready = 0 := by simp [Disk.ready, good_of h, h2]
theorem ready_bad {d : Disk} (h : ¬ d.check = 0) : d.ready = 470 := by simp [Disk.ready, bad_of h]
theorem ready_stopped {d : Disk} (h : d.stopped = true) : d.ready = 470 := by simp [Disk.ready, h]
theorem ready_spec (d : Disk) : PSpec Try.prog 50 [encD d] (.int d.ready) := by
 refine PSpec.of_vc (fun Γ => more2 false Γ.P Γ.fx) (fun Γ => more2_ok) Try.func50 rfl Try.call50 (by simp) ?_
 rintro ⟨P, N, w0, X, β0, fx, y, hy, pk, df⟩ rfl rfl rfl hoff rfl; change y.on = false at hoff
 skip
 refine .inl ⟨_, check_spec d, ?_⟩
 repeat' ((try conv => whnf); first|(first|refine k3 ?_ ?_|refine k4 ?_ ?_) <;> intro hb <;> (try rw [lM] at hb) <;> try (exfalso; omega)|refine k6 (fun hb => ?_) fun hb => ?_|fail)
 · exact PSub.val_int (by simp [Disk.ready, hb])
 · rename_i h; exact PSub.val_int (by simp [Disk.ready, hb, good_of h])
 · exact PSub.val_int (by rw [check_bad (bad_of hb)]; simp [Disk.ready, bad_of hb])
theorem restart_spec (d : Disk) : PSpec Try.prog 28 [encD d] (encD ⟨d.sectors, [], -1, false⟩) := by
 refine PSpec.of_vc (fun Γ => more2 false Γ.P Γ.fx) (fun Γ => more2_ok) Try.func28 rfl Try.call28 (by simp) ?_
 rintro ⟨P, N, w0, X, β0, fx, y, hy, pk, df⟩ rfl rfl rfl hoff rfl; change y.on = false at hoff
 repeat' ((try conv => whnf); first|refine aq rfl ?_|fail)
 exact sub_disk (PSub.refl _) (PSub.nil 2) rfl rfl
def Disk.stop (d : Disk) (left : Int) : Disk × Int := if d.ready = 0 then (if left < 0 ∨ 65536 < left then (zeroD, 1) else ({ d with left := left }, 0)) else (zeroD, 470)
theorem stop_spec (d : Disk) (left : Int) : PSpec Try.prog 27 [encD d, .int left] (encDE (d.stop left)) := by
 refine PSpec.of_vc (fun Γ => more2 false Γ.P Γ.fx) (fun Γ => more2_ok) Try.func27 rfl Try.call27 (by simp) ?_
 rintro ⟨P, N, w0, X, β0, fx, y, hy, pk, df⟩ rfl rfl rfl hoff rfl; change y.on = false at hoff
 skip
 refine .inl ⟨_, ready_spec d, ?_⟩
 repeat' ((try conv => whnf); first|(first|refine k3 ?_ ?_|refine k4 ?_ ?_) <;> intro hb <;> (try rw [lM] at hb) <;> try (exfalso; omega)|refine aq rfl ?_|fail)
 · rename_i h; exact sub_zero (by simp [Disk.stop, h, hb])
 · rename_i h _; exact sub_zero (by simp [Disk.stop, h, hb])
 · rename_i h h'
   have e : d.stop left = ({ d with left := left }, 0) := by simp only [Disk.stop, if_pos h]; rw [if_neg (by omega)]
   rw [e]
   exact sub_de (sub_disk (PSub.refl _) (PSub.refl _) rfl rfl) rfl
 · exact sub_zero (by simp [Disk.stop, ready_not hb])
theorem cloneW_spec (ws : List (Int × List UInt8)) (h : ws.length ≤ 1000000) : PSpec Try.prog 51 [encWs ws] (encWs ws) := by
 refine PSpec.of_vc (fun Γ => more2 false Γ.P Γ.fx) (fun Γ => more2_ok) Try.func51 rfl Try.call51 (by simp) ?_
 rintro ⟨P, N, w0, X, β0, fx, y, hy, pk, df⟩ rfl rfl rfl hoff rfl; change y.on = false at hoff
 skip
 intro r hr
 repeat' ((try conv => whnf); first|refine k6 (fun hb => ?_) fun hb => ?_|refine aq rfl ?_|refine aq bd ?_|fail)
 · have e : ws = [] := List.map_eq_nil_iff.1 (hr hb)
   subst e
   exact PSub.nil 2
 exact sub_sl (by simp [List.take_of_length_le])
theorem cloneB_spec (ws : List UInt8) (h : ws.length ≤ 1000000) : PSpec Try.prog 39 [encB ws] (encB ws) := by
 refine PSpec.of_vc (fun Γ => more2 false Γ.P Γ.fx) (fun Γ => more2_ok) Try.func39 rfl Try.call39 (by simp) ?_
 rintro ⟨P, N, w0, X, β0, fx, y, hy, pk, df⟩ rfl rfl rfl hoff rfl; change y.on = false at hoff
 skip
 intro r hr
 repeat' ((try conv => whnf); first|refine k6 (fun hb => ?_) fun hb => ?_|refine aq rfl ?_|refine aq bd ?_|fail)
 · have e : ws = [] := List.map_eq_nil_iff.1 (hr hb)
   subst e
   exact PSub.nil 1
 exact sub_sl (by simp [List.take_of_length_le])
end Go.Proofs.Ytcgpikmaapallaa
/- Journals: the bytes of a sector, the numbers in them, the checksum. Conditions: none. -/
namespace Go.Proofs.Ytcgpikmaapallaa
open Go.Avc
def rowB (s : List UInt8) : List (List PV) := s.map fun b => [.val (.int .u8 b.toNat)]
def parB (s : List UInt8) : PV := .par 1 (s.map fun b => [.val (.int .u8 b.toNat)])
def four (s : List UInt8) (a : Nat) : Nat := (s.getD a 0).toNat * 16777216 + (s.getD (a + 1) 0).toNat * 65536 + (s.getD (a + 2) 0).toNat * 256 + (s.getD (a + 3) 0).toNat
theorem four_lt (s : List UInt8) (a : Nat) : four s a < 4294967296 := by
 have h0 := UInt8.toNat_lt (s.getD a 0)
 have h1 := UInt8.toNat_lt (s.getD (a + 1) 0)
 have h2 := UInt8.toNat_lt (s.getD (a + 2) 0)
 have h3 := UInt8.toNat_lt (s.getD (a + 3) 0)
 unfold four; omega
theorem get_at (s : List UInt8) {a : Nat} (h : a < s.length) : s[a] = s.getD a 0 := by simp [List.getD, h]
attribute [local irreducible] PSub Wp PSpec Le Need Both
theorem four_spec (s : List UInt8) (hs : s.length = 128) (a : Nat) (ha : a + 3 < 128) : PSpec Try.prog 56 [parB s, .int a] (.val (.int .u32 (four s a))) := by
 refine PSpec.of_vc (fun Γ => more2 false Γ.P Γ.fx) (fun Γ => more2_ok) Try.func56 rfl Try.call56 (by simp) ?_
 rintro ⟨P, N, w0, X, β0, fx, y, hy, pk, df⟩ rfl rfl rfl hoff rfl; change y.on = false at hoff
 skip
 refine Wp.draw (more := more2 true _ _) more2_det more2_ok FOK.wide rfl (by decide +kernel) (by conv => lhs; reduce) ?_
 repeat' ((try conv => whnf); first|refine s2 ?_|refine s5 nm nm ?_|refine aq bd ?_|fail)
 refine ⟨_, shl24 _, ?_⟩
 repeat' ((try conv => whnf); first|refine s2 ?_|refine s4 nm ?_|refine s5 nm nm ?_|refine aq bd ?_|fail)
 refine ⟨_, shl16 _, ?_⟩
 skip
 refine ⟨_, or24 _ _, ?_⟩
 repeat' ((try conv => whnf); first|refine s2 ?_|refine s4 nm ?_|refine s5 nm nm ?_|refine aq bd ?_|fail)
 refine ⟨_, shl8 _, ?_⟩
 skip
 refine ⟨_, or16 _ _ _, ?_⟩
 repeat' ((try conv => whnf); first|refine s2 ?_|refine s4 nm ?_|refine s5 nm nm ?_|fail)
 refine ⟨_, or8 _ _ _ _, ?_⟩
 skip
 refine PSub.of_eq ?_
 simp only [get_at]
 rfl
def hasF (s : List UInt8) (f : UInt8) : Bool := !decide (((s.getD 10 0 &&& f).toNat : Int) = 0)
theorem has_spec (s : List UInt8) (hs : s.length = 128) (f : UInt8) : PSpec Try.prog 55 [parB s, .val (.int .u8 f.toNat)] (.bool (hasF s f)) := by
 refine PSpec.of_vc (fun Γ => more2 false Γ.P Γ.fx) (fun Γ => more2_ok) Try.func55 rfl Try.call55 (by simp) ?_
 rintro ⟨P, N, w0, X, β0, fx, y, hy, pk, df⟩ rfl rfl rfl hoff rfl; change y.on = false at hoff
 repeat' ((try conv => whnf); first|refine s5 nm nm ?_|fail)
 refine ⟨_, and_u8 _ _, ?_⟩
 skip
 refine PSub.of_eq ?_
 simp only [get_at]
 rfl
theorem has1_spec (s : List UInt8) (hs : s.length = 128) : PSpec Try.prog 55 [parB s, .val (.int .u8 1)] (.bool (hasF s 1)) := has_spec s hs 1
theorem has2_spec (s : List UInt8) (hs : s.length = 128) : PSpec Try.prog 55 [parB s, .val (.int .u8 2)] (.bool (hasF s 2)) := has_spec s hs 2
def crc1 (n : Nat) : Nat := if n % 2 = 1 then (n / 2) ^^^ 3988292384 else n / 2
def crcIt : Nat → Nat → Nat
 | 0, m => m
 | j + 1, m => crc1 (crcIt j m)
def crcB (n : Nat) (b : UInt8) : Nat := crcIt 8 (n ^^^ b.toNat)
def crcN (l : List UInt8) : Nat := l.foldl crcB 4294967295
def crc (l : List UInt8) : Nat := 4294967295 ^^^ crcN l
def body (s : List UInt8) : List UInt8 := (s.drop 8).take 116
theorem crc1_lt {n : Nat} (h : n < 4294967296) : crc1 n < 4294967296 := by
 unfold crc1
 split
 · exact Nat.xor_lt_two_pow (n := 32) (by omega) (by decide)
 · omega
theorem crcIt_lt {n : Nat} (h : n < 4294967296) : ∀ j, crcIt j n < 4294967296
 | 0 => h
 | j + 1 => crc1_lt (crcIt_lt h j)
theorem crcB_lt {n : Nat} (h : n < 4294967296) (b : UInt8) : crcB n b < 4294967296 :=
 crcIt_lt (Nat.xor_lt_two_pow (n := 32) h (by have := UInt8.toNat_lt b; omega)) 8
theorem crcN_lt (l : List UInt8) : crcN l < 4294967296 := by
 unfold crcN
 suffices h : ∀ n, n < 4294967296 → l.foldl crcB n < 4294967296 from h _ (by decide)
 induction l with
 | nil => exact fun n h => h
 | cons b l ih => exact fun n h => ih _ (crcB_lt h b)
theorem crcN_take (l : List UInt8) {k : Nat} (h : k < l.length) : crcN (l.take (k + 1)) = crcB (crcN (l.take k)) l[k] := by
 unfold crcN
 rw [List.take_succ_eq_append_getElem h, List.foldl_append]
 rfl
theorem body_len {s : List UInt8} (hs : s.length = 128) : (body s).length = 116 := by simp [body, hs]
attribute [local irreducible] crcIt crcB crcN crc1
theorem checksum_spec (s : List UInt8) (hs : s.length = 128) : PSpec Try.prog 61 [parB s] (.val (.int .u32 (crc (body s)))) := by
 have hbl := body_len hs
 refine PSpec.of_vc (fun Γ => more2 false Γ.P Γ.fx) (fun Γ => more2_ok) Try.func61 rfl Try.call61 (by simp) ?_
 rintro ⟨P, N, w0, X, β0, fx, y, hy, pk, df⟩ rfl rfl rfl hoff rfl; change y.on = false at hoff
 repeat' ((try conv => whnf); first|refine aq bd ?_|fail)
 refine Wp.loop (fun k : Nat => ⟨[(3, .pure (.val (.int .u32 (crcN ((body s).take k))))), (8, .pure (encB (body s))), (9, .int 116), (10, .int k)], [], []⟩) (fun k => k ≤ 116) (fun k => 116 - k) 0 (Le.of ?_ ?_ rfl rfl rfl) (by omega) ?_
 · (repeat' (first|exact trivial|refine aq ?_ ?_|exact oq|exact l1 bd|fail))
   all_goals first
     | (refine SubA.sl ?_; simp [cut, body, List.map_take, List.map_drop]; done)
     | (refine SubA.int ?_; simp [cut, hs]; done)
     | (refine SubA.int ?_; simp [crcN]; done)
 · (repeat' (first|exact trivial|fail))
 intro k hk
 have hm := crcN_lt ((body s).take k)
 by_cases hk2 : k < 116
 · have hx : crcN ((body s).take k) ^^^ ((body s)[k]'(by omega)).toNat < 4294967296 := Nat.xor_lt_two_pow (n := 32) hm (by have := UInt8.toNat_lt ((body s)[k]'(by omega)); omega)
   have hb8 := UInt8.toNat_lt ((body s)[k]'(by omega))
   have hnext := crcN_take (body s) (k := k) (by omega)
   refine code_sound (more := more2 false _ _) more2_ok FOK.wide _ ?_
   repeat' ((try conv => whnf); first|(first|refine k3 ?_ ?_|refine k4 ?_ ?_) <;> intro hb <;> (try rw [lM] at hb) <;> try (exfalso; omega)|refine s2 ?_|refine s5 nm nm ?_|fail)
   refine ⟨_, xor_u32 hm (by omega), ?_⟩
   skip
   refine Wp.loop (fun j : Nat => ⟨[(3, .pure (.val (.int .u32 (crcIt j (crcN ((body s).take k) ^^^ ((body s)[k]'(by omega)).toNat))))), (8, .pure (encB (body s))), (9, .int 116), (10, .int k), (18, .int j)], [], []⟩) (fun j => j ≤ 8) (fun j => 8 - j) 0 (Le.of ?_ ?_ rfl rfl rfl) (by omega) ?_
   · (repeat' (first|exact trivial|refine aq ?_ ?_|exact oq|fail))
     all_goals (refine SubA.int ?_; simp [crcIt]; done)
   · (repeat' (first|exact trivial|fail))
   intro j hj
   have hj2 := crcIt_lt hx j
   by_cases hj3 : j < 8
   · refine code_sound (more := more2 false _ _) more2_ok FOK.wide _ ?_
     repeat' ((try conv => whnf); first|(first|refine k3 ?_ ?_|refine k4 ?_ ?_) <;> intro hb <;> (try rw [lM] at hb) <;> try (exfalso; omega)|fail)
     refine ⟨_, and1_u32 hj2, ?_⟩
     repeat' ((try conv => whnf); first|(first|refine k3 ?_ ?_|refine k4 ?_ ?_) <;> intro hb <;> (try rw [lM] at hb) <;> try (exfalso; omega)|refine aq bd ?_|fail)
     · have hb2 : crcIt j (crcN ((body s).take k) ^^^ ((body s)[k]'(by omega)).toNat) % 2 = 1 := by omega
       refine ⟨_, shr1_u32 _, ?_⟩
       skip
       refine ⟨_, xor_u32 (by omega) (by decide), ?_⟩
       repeat' ((try conv => whnf); first|refine s4 nm ?_|fail)
       refine ⟨j + 1, Le.of ?_ (by (repeat' (first|exact trivial|fail))) rfl rfl rfl, by omega, by omega⟩
       (repeat' (first|exact trivial|refine aq ?_ ?_|exact oq|fail))
       all_goals (refine SubA.int ?_; rw [crcIt, crc1, if_pos hb2]; done)
     · have hb2 : ¬ crcIt j (crcN ((body s).take k) ^^^ ((body s)[k]'(by omega)).toNat) % 2 = 1 := by omega
       refine ⟨_, shr1_u32 _, ?_⟩
       repeat' ((try conv => whnf); first|refine s4 nm ?_|fail)
       refine ⟨j + 1, Le.of ?_ (by (repeat' (first|exact trivial|fail))) rfl rfl rfl, by omega, by omega⟩
       (repeat' (first|exact trivial|refine aq ?_ ?_|exact oq|fail))
       all_goals (refine SubA.int ?_; rw [crcIt, crc1, if_neg hb2]; done)
   · have ej : j = 8 := by omega
     subst ej
     refine code_sound (more := more2 false _ _) more2_ok FOK.wide _ ?_
     repeat' ((try conv => whnf); first|refine s4 nm ?_|fail)
     refine ⟨k + 1, Le.of ?_ (by (repeat' (first|exact trivial|fail))) rfl rfl rfl, by omega, by omega⟩
     (repeat' (first|exact trivial|refine aq ?_ ?_|exact oq|fail))
     all_goals (refine SubA.int ?_; rw [hnext, crcB]; done)
 · have ek : k = 116 := by omega
   subst ek
   refine code_sound (more := more2 false _ _) more2_ok FOK.wide _ ?_
   skip
   refine ⟨_, xor_u32 (a := 4294967295) (by decide) hm, ?_⟩
   skip
   refine PSub.of_eq ?_
   rw [List.take_of_length_le (by omega)]
   rfl
end Go.Proofs.Ytcgpikmaapallaa
/- Disks: Write. Conditions: none. -/
namespace Go.Proofs.Ytcgpikmaapallaa
open Go.Avc
attribute [local irreducible] PSub Wp PSpec Le Need Both
def zeroS : List UInt8 := List.replicate 128 0
def newD (n : Int) : Disk × Int := if n < 1 ∨ 4096 < n then (zeroD, 1) else (⟨List.replicate n.toNat zeroS, [], -1, false⟩, 0)
def put128 (b : List UInt8) : List UInt8 := b ++ List.replicate (128 - b.length) 0
def Disk.write (d : Disk) (at_ : Int) (b : List UInt8) : Disk × Int :=
 if d.ready = 0 then (if at_ < 0 ∨ d.sectors.length ≤ at_ then (zeroD, 470) else if 128 < b.length then (zeroD, 1) else if d.pending.length = 4096 then (zeroD, 2) else ({ d with pending := d.pending ++ [(at_, put128 b)] }, 0)) else (zeroD, 470)
theorem ovr_put {b : List UInt8} (hb : b.length ≤ 128) : List.take (Int.toNat 128) (List.drop 0 (ovr (List.replicate (Int.toNat 128) (List.map PV.val (Value.int .u8 0).cells.toList)) 0 (min (b.map fun b => [PV.val (.int .u8 (b.toNat : Int))]).length (Int.toNat 128)) (b.map fun b => [PV.val (.int .u8 (b.toNat : Int))]))) = (put128 b).map fun b => [PV.val (.int .u8 (b.toNat : Int))] := by
 have e : min b.length 128 = b.length := Nat.min_eq_left hb
 simp only [List.length_map, show Int.toNat 128 = 128 from rfl, e, ovr, put128, List.drop_zero, List.take_zero, List.nil_append, Nat.zero_add, List.map_append, List.map_replicate]
 rw [List.take_of_length_le (by simp; omega), List.take_of_length_le (by simp), List.drop_replicate]
 rfl
theorem cloneW_own (ws : List (Int × List UInt8)) (h : ws.length ≤ 1000000) : GSpec Try.prog 51 1 ⟨[(0, .pure (encWs ws))], [], []⟩ [] 1 ⟨[(0, .lsl 7 0 ws.length)], [(7, some (.row 2 (ws.map encW)))], [7]⟩ := by
 refine GSpec.of_vc (fun Γ => more2 false Γ.P Γ.fx) (fun Γ => more2_ok) Try.func51 rfl Try.call51 (by simp) ?_
 rintro ⟨P, N, w0, X, β0, fx, y, hy, pk, df⟩ rfl rfl rfl hoff rfl; change y.on = false at hoff
 skip
 intro r hr
 repeat' ((try conv => whnf); first|refine k6 (fun hb => ?_) fun hb => ?_|refine aq rfl ?_|refine aq bd ?_|fail)
 · have e : ws = [] := List.map_eq_nil_iff.1 (hr hb)
   subst e
   exact Le.trans (Le.virt (k := 7) (sz := 2) rfl rfl (by omega)) (Le.of ⟨Or.inr (Or.inr (Or.inr ⟨7, rfl, rfl, rfl⟩)), trivial⟩ ⟨rfl, trivial⟩ rfl rfl rfl)
 · exact Le.of ⟨Or.inl (by show AV.lsl 7 0 _ = AV.lsl 7 0 _; simp), trivial⟩ ⟨rfl, trivial⟩ rfl rfl rfl
theorem write_spec (d : Disk) (at_ : Int) (b : List UInt8) : PSpec Try.prog 29 [encD d, .int at_, encB b] (encDE (d.write at_ b)) := by
 refine PSpec.of_vc (fun Γ => more2 false Γ.P Γ.fx) (fun Γ => more2_ok) Try.func29 rfl Try.call29 (by simp) ?_
 rintro ⟨P, N, w0, X, β0, fx, y, hy, pk, df⟩ rfl rfl rfl hoff rfl; change y.on = false at hoff
 skip
 refine .inl ⟨_, ready_spec d, ?_⟩
 repeat' ((try conv => whnf); first|(first|refine k3 ?_ ?_|refine k4 ?_ ?_) <;> intro hb <;> (try rw [lM] at hb) <;> try (exfalso; omega)|refine aq rfl ?_|refine aq bd ?_|fail)
 · rename_i h; exact sub_zero (by simp [Disk.write, h, hb])
 · rename_i h _; exact sub_zero (by simp [Disk.write, h, hb])
 · rename_i h h1 h2; exact sub_zero (by simp only [Disk.write]; rw [if_pos h, if_neg (by omega), if_pos (by omega)])
 · rename_i h h1 h2 h3; exact sub_zero (by simp only [Disk.write]; rw [if_pos h, if_neg (by omega), if_neg (by omega), if_pos (by omega)])
 · rename_i h h1 h2 h3
   have hp := (ready_of h).1.2.2.1
   have e : d.write at_ b = ({ d with pending := d.pending ++ [(at_, put128 b)] }, 0) := by simp only [Disk.write]; rw [if_pos h, if_neg (by omega), if_neg (by omega), if_neg (by omega)]
   rw [e]
   refine .inr ⟨[(7, 45)], [.pure (encWs d.pending)], [], [], [], 1, _, cloneW_own d.pending (by omega), ⟨Or.inl rfl, trivial⟩, trivial, ?_⟩
   repeat' ((try conv => whnf); first|refine aq rfl ?_|refine aq bd ?_|fail)
   refine sub_de (sub_disk (PSub.refl _) (sub_sl ?_) rfl rfl) rfl
   have h4 := ovr_put (b := b) (by omega)
   simp only [] at h4 ⊢
   simp only [h4]
   simp [encW, encB, List.take_of_length_le]
 · exact sub_zero (by simp [Disk.write, ready_not hb])
end Go.Proofs.Ytcgpikmaapallaa
/- Disks: New, the reference's New and Write. Conditions: none. -/
namespace Go.Proofs.Ytcgpikmaapallaa
open Go.Avc
attribute [local irreducible] PSub Wp PSpec Le Need Both
theorem zeros_eq : (List.replicate (Int.toNat 128) (List.map PV.val (Value.int .u8 0).cells.toList)) = zeroS.map fun b => [PV.val (.int .u8 (b.toNat : Int))] := by
 simp [zeroS]
theorem make128 : PV.sl 1 (List.take (Int.toNat 128) (List.drop 0 (List.replicate (Int.toNat 128) (List.map PV.val (Value.int .u8 0).cells.toList)))) = encB zeroS := by
 simp [zeroS, encB]
theorem set_repl {α : Type} (A B : α) (n k : Nat) (h : k < n) : (List.replicate k A ++ List.replicate (n - k) B).set k A = List.replicate (k + 1) A ++ List.replicate (n - (k + 1)) B := by
 rw [List.set_append_right _ _ (by simp)]
 simp only [List.length_replicate, Nat.sub_self]
 have : n - k = (n - (k + 1)) + 1 := by omega
 rw [this, List.replicate_succ, List.set_cons_zero, List.replicate_succ']
 simp
theorem refWrite_spec (d : Disk) (at_ : Int) (b : List UInt8) : PSpec Try.prog 47 [encD d, .int at_, encB b] (encDE (d.write at_ b)) := by
 refine PSpec.of_vc (fun Γ => more2 false Γ.P Γ.fx) (fun Γ => more2_ok) Try.func47 rfl Try.call47 (by simp) ?_
 rintro ⟨P, N, w0, X, β0, fx, y, hy, pk, df⟩ rfl rfl rfl hoff rfl; change y.on = false at hoff
 skip
 refine .inl ⟨_, refCheck_spec d, ?_⟩
 repeat' ((try conv => whnf); first|(first|refine k3 ?_ ?_|refine k4 ?_ ?_) <;> intro hb <;> (try rw [lM] at hb) <;> try (exfalso; omega)|refine k6 (fun hb => ?_) fun hb => ?_|refine aq rfl ?_|refine aq bd ?_|fail)
 · exact sub_zero (by simp [Disk.write, ready_stopped hb])
 · rename_i h1 h2; exact sub_zero (by simp [Disk.write, ready_ok h1 h2, hb])
 · rename_i h1 h2 _; exact sub_zero (by simp [Disk.write, ready_ok h1 h2, hb])
 · rename_i h1 h2 _ _; exact sub_zero (by simp only [Disk.write]; rw [if_pos (ready_ok h1 h2), if_neg (by omega), if_pos (by omega)])
 · rename_i h1 h2 _ _ _; exact sub_zero (by simp only [Disk.write]; rw [if_pos (ready_ok h1 h2), if_neg (by omega), if_neg (by omega), if_pos (by omega)])
 · rename_i h1 h2 _ _ _
   have hp := (ready_of (ready_ok h1 h2)).1.2.2.1
   have e : d.write at_ b = ({ d with pending := d.pending ++ [(at_, put128 b)] }, 0) := by simp only [Disk.write]; rw [if_pos (ready_ok h1 h2), if_neg (by omega), if_neg (by omega), if_neg (by omega)]
   rw [e]
   refine Wp.loop (fun k : Nat => ⟨[(1, .int at_), (3, .loc 3 0 0), (6, .loc 6 0 0), (8, .lsl 39 0 (b.length + k))], [(3, some (.box [.pure (encS d.sectors), .pure (encWs d.pending), .int d.left, .bool d.stopped])), (6, some (.box [.pure (.val (.slice none 0 0)), .pure (.val (.slice none 0 0)), .int 0, .bool false])), (39, some (.row 1 ((b ++ List.replicate k 0).map fun b : UInt8 => [.val (.int .u8 b.toNat)])))], [3, 6, 39]⟩)
     (fun k => b.length + k ≤ 128) (fun k => 128 - (b.length + k)) 0 (Le.of ?_ ?_ rfl rfl rfl) (by omega) ?_
   · (repeat' (first|exact trivial|refine aq ?_ ?_|exact oq|exact SubA.lsl ls|fail))
   · (repeat' (first|exact trivial|refine aq ?_ ?_|refine Exists.intro _ (aq rfl ?_)|exact oq|exact rowEq rs|fail))
   intro k hk
   refine code_sound (more := more2 false _ _) more2_ok FOK.wide _ ?_
   repeat' ((try conv => whnf); first|(first|refine k3 ?_ ?_|refine k4 ?_ ?_) <;> intro hb <;> (try rw [lM] at hb) <;> try (exfalso; omega)|refine aq rfl ?_|refine aq bd ?_|fail)
   · refine ⟨k + 1, Le.map [(39, 45)] ?_ ?_ rfl rfl rfl rfl, by omega, by omega⟩
     · (repeat' (first|exact trivial|refine aq ?_ ?_|exact oq|exact SubA.lsl ls|fail))
     · (repeat' (first|exact trivial|refine aq ?_ ?_|refine Exists.intro _ (aq rfl ?_)|exact oq|fail))
       refine rowEq ?_
       simp [List.replicate_succ']
   · have ek : k = 128 - b.length := by omega
     subst ek
     refine sub_de (sub_disk (PSub.refl _) (sub_sl ?_) rfl rfl) rfl
     simp [encW, encB, put128, List.take_of_length_le]
     try omega
 · exact sub_zero (by simp [Disk.write, ready_bad hb])
theorem new_spec (n : Int) : PSpec Try.prog 25 [.int n] (encDE (newD n)) := by
 refine PSpec.of_vc (fun Γ => more2 false Γ.P Γ.fx) (fun Γ => more2_ok) Try.func25 rfl Try.call25 (by simp) ?_
 rintro ⟨P, N, w0, X, β0, fx, y, hy, pk, df⟩ rfl rfl rfl hoff rfl; change y.on = false at hoff
 repeat' ((try conv => whnf); first|(first|refine k3 ?_ ?_|refine k4 ?_ ?_) <;> intro hb <;> (try rw [lM] at hb) <;> try (exfalso; omega)|refine aq rfl ?_|refine aq bd ?_|fail)
 · exact sub_zero (by simp only [newD]; rw [if_pos (by omega)])
 · exact sub_zero (by simp only [newD]; rw [if_pos (by omega)])
 · rename_i h1
   refine Wp.loop (fun k : Nat => ⟨[(2, .loc 2 0 0), (17, .int n), (18, .int k)], [(2, some (.box [.lsl 13 0 n.toNat, .pure (.val (.slice none 0 0)), .int (-1), .bool false])), (13, some (.row 1 (List.replicate k [encB zeroS] ++ List.replicate (n.toNat - k) [.val (.slice none 0 0)])))], [2, 13]⟩)
     (fun k => k ≤ n.toNat) (fun k => n.toNat - k) 0 (Le.of ?_ ?_ rfl rfl rfl) (by omega) ?_
   · (repeat' (first|exact trivial|refine aq ?_ ?_|exact oq|exact l1 bd|fail))
   · (repeat' (first|exact trivial|exact rfl|refine aq ?_ ?_|refine Exists.intro _ (aq rfl ?_)|exact oq|fail))
   intro k hk
   refine code_sound (more := more2 false _ _) more2_ok FOK.wide _ ?_
   repeat' ((try conv => whnf); first|(first|refine k3 ?_ ?_|refine k4 ?_ ?_) <;> intro hb <;> (try rw [lM] at hb) <;> try (exfalso; omega)|refine aq rfl ?_|fail)
   · refine Wp.draw (more := more2 true _ _) more2_det more2_ok FOK.wide rfl (by decide +kernel) (by conv => lhs; reduce) ?_
     repeat' ((try conv => whnf); first|refine aq rfl ?_|refine s4 nm ?_|refine aq bd ?_|refine .inl ⟨rfl, rfl, bd, rfl, rfl, ?_⟩|fail)
     refine ⟨k + 1, Le.of ?_ ?_ rfl rfl rfl, by omega, by omega⟩
     · (repeat' (first|exact trivial|refine aq ?_ ?_|exact oq|fail))
     · (repeat' (first|exact trivial|refine aq ?_ ?_|refine Exists.intro _ (aq rfl ?_)|exact oq|fail))
       refine rowEq ?_
       simp only [make128]
       simp only [Int.toNat_natCast, Nat.zero_add]
       exact set_repl _ _ _ _ (by omega)
   · have e : newD n = (⟨List.replicate n.toNat zeroS, [], -1, false⟩, 0) := by simp only [newD]; rw [if_neg (by omega)]
     rw [e]
     have hkn : k = n.toNat := by omega
     subst hkn
     exact sub_de (sub_disk (sub_sl (by simp)) (PSub.nil 2) rfl rfl) rfl
end Go.Proofs.Ytcgpikmaapallaa
/- Disks: latest, Read. Conditions: none. -/
namespace Go.Proofs.Ytcgpikmaapallaa
open Go.Avc
attribute [local irreducible] PSub Wp PSpec Le Need Both
def rdPend (ws : List (Int × List UInt8)) (at_ : Int) : Option (List UInt8) := (ws.reverse.find? fun w => w.1 == at_).map (·.2)
def Disk.read (d : Disk) (at_ : Int) : List UInt8 × Int :=
 if d.ready = 0 then (if at_ < 0 ∨ d.sectors.length ≤ at_ then ([], 470) else ((rdPend d.pending at_).getD (d.sectors.getD at_.toNat []), 0)) else ([], d.ready)
theorem ready_le {d : Disk} (h : d.ready = 0) : d.pending.length ≤ 4096 ∧ d.sectors.length ≤ 4096 ∧ (∀ s ∈ d.sectors, s.length = 128) ∧ ∀ p ∈ d.pending, ¬ p.1 < 0 ∧ ¬ (d.sectors.length : Int) ≤ p.1 ∧ p.2.length = 128 := by
 obtain ⟨⟨_, h2, h3, _, _, h6, h7⟩, _⟩ := ready_of h
 exact ⟨by omega, by omega, h6, h7⟩
end Go.Proofs.Ytcgpikmaapallaa
/- Disks: Sync. Conditions: none. -/
namespace Go.Proofs.Ytcgpikmaapallaa
open Go.Avc
attribute [local irreducible] PSub Wp PSpec Le Need Both
def perform (ss : List (List UInt8)) (ws : List (Int × List UInt8)) : List (List UInt8) := ws.foldl (fun s w => s.set w.1.toNat w.2) ss
def tear (s : List (List UInt8)) (w : Int × List UInt8) : List (List UInt8) := s.set w.1.toNat (w.2.take 64 ++ (s.getD w.1.toNat []).drop 64)
def Disk.sync (d : Disk) : Disk × Int :=
 if d.ready = 0 then
   (if d.left = -1 ∨ (d.pending.length : Int) ≤ d.left then (⟨perform d.sectors d.pending, [], if d.left = -1 then -1 else d.left - d.pending.length, false⟩, 0)
    else (⟨tear (perform d.sectors (d.pending.take d.left.toNat)) (d.pending.getD d.left.toNat (0, [])), [], 0, true⟩, 470))
 else (zeroD, 470)
theorem perform_len (ss : List (List UInt8)) (ws : List (Int × List UInt8)) : (perform ss ws).length = ss.length := by
 induction ws generalizing ss with
 | nil => rfl
 | cons w ws ih => simp only [perform, List.foldl_cons] at ih ⊢; rw [ih]; simp
theorem perform_snoc (ss : List (List UInt8)) (ws : List (Int × List UInt8)) (w : Int × List UInt8) : perform ss (ws ++ [w]) = (perform ss ws).set w.1.toNat w.2 := by simp [perform]
theorem perform_take (ss : List (List UInt8)) (ws : List (Int × List UInt8)) {k : Nat} (hk : k < ws.length) : perform ss (ws.take (k + 1)) = (perform ss (ws.take k)).set ws[k].1.toNat ws[k].2 := by
 rw [List.take_succ_eq_append_getElem hk, perform_snoc]
theorem perform_128 {ss : List (List UInt8)} {ws : List (Int × List UInt8)} (h1 : ∀ s ∈ ss, s.length = 128) (h2 : ∀ w ∈ ws, w.2.length = 128) : ∀ s ∈ perform ss ws, s.length = 128 := by
 induction ws generalizing ss with
 | nil => exact h1
 | cons w ws ih =>
   refine ih (ss := ss.set w.1.toNat w.2) (fun s hs => ?_) fun x hx => h2 x (List.mem_cons_of_mem _ hx)
   rcases List.mem_or_eq_of_mem_set hs with h | h
   · exact h1 s h
   · rw [h]; exact h2 w List.mem_cons_self
theorem ovr_map {α β : Type} (f : α → β) (l m : List α) (i c : Nat) : ovr (l.map f) i c (m.map f) = (ovr l i c m).map f := by simp [ovr]
theorem torn_rows {s w : List UInt8} (hs : s.length = 128) (hw : w.length = 128) : PV.sl (0 + 1) (List.take (Int.toNat 128) (List.drop 0 (ovr (ovr (List.replicate (Int.toNat 128) (List.map PV.val (Value.int IntKind.u8 0).cells.toList)) 0
   (min (List.map (fun b : UInt8 => [PV.val (Value.int IntKind.u8 (b.toNat : Int))]) s).length (Int.toNat 128)) (List.map (fun b : UInt8 => [PV.val (Value.int IntKind.u8 (b.toNat : Int))]) s)) (0 + 0)
   (min (List.map (fun b : UInt8 => [PV.val (Value.int IntKind.u8 (b.toNat : Int))]) w).length (Int.toNat 64 - 0)) (List.map (fun b : UInt8 => [PV.val (Value.int IntKind.u8 (b.toNat : Int))]) w)))) = encB (w.take 64 ++ s.drop 64) := by
 rw [zeros_eq, ovr_map, ovr_map]
 simp only [encB, Nat.zero_add, List.drop_zero, ← List.map_take]
 congr 2
 have e1 : Int.toNat 128 = 128 := rfl
 have e2 : Int.toNat 64 = 64 := rfl
 simp only [List.length_map, hs, hw, e1, e2, ovr, zeroS, List.take_zero, List.nil_append, Nat.zero_add]
 rw [List.take_of_length_le (by simp; omega)]
 simp [List.drop_append, List.take_of_length_le, hs]
theorem cloneS_own (ws : List (List UInt8)) (h : ws.length ≤ 1000000) : GSpec Try.prog 38 1 ⟨[(0, .pure (encS ws))], [], []⟩ [] 1 ⟨[(0, .lsl 7 0 ws.length)], [(7, some (.row 1 (ws.map fun s => [encB s])))], [7]⟩ := by
 refine GSpec.of_vc (fun Γ => more2 false Γ.P Γ.fx) (fun Γ => more2_ok) Try.func38 rfl Try.call38 (by simp) ?_
 rintro ⟨P, N, w0, X, β0, fx, y, hy, pk, df⟩ rfl rfl rfl hoff rfl; change y.on = false at hoff
 skip
 intro r hr
 repeat' ((try conv => whnf); first|refine k6 (fun hb => ?_) fun hb => ?_|refine aq rfl ?_|refine aq bd ?_|fail)
 · have e : ws = [] := List.map_eq_nil_iff.1 (hr hb)
   subst e
   exact Le.trans (Le.virt (k := 7) (sz := 1) rfl rfl (by omega)) (Le.of ⟨Or.inr (Or.inr (Or.inr ⟨7, rfl, rfl, rfl⟩)), trivial⟩ ⟨rfl, trivial⟩ rfl rfl rfl)
 · exact Le.of ⟨SubA.lsl (by simp), trivial⟩ ⟨rfl, trivial⟩ rfl rfl rfl
theorem sync_spec (d : Disk) : PSpec Try.prog 30 [encD d] (encDE d.sync) := by
 refine PSpec.of_vc (fun Γ => more2 false Γ.P Γ.fx) (fun Γ => more2_ok) Try.func30 rfl Try.call30 (by simp) ?_
 rintro ⟨P, N, w0, X, β0, fx, y, hy, pk, df⟩ rfl rfl rfl hoff rfl; change y.on = false at hoff
 skip
 refine .inl ⟨_, ready_spec d, ?_⟩
 by_cases hr : d.ready = 0
 case neg =>
   repeat' ((try conv => whnf); first|(first|refine k3 ?_ ?_|refine k4 ?_ ?_) <;> intro hb <;> (try rw [lM] at hb) <;> try (exfalso; omega)|refine aq rfl ?_|fail)
   exact sub_zero (by simp only [Disk.sync]; rw [if_neg hr, ready_not hr])
 obtain ⟨l1, l2, l3, l4⟩ := ready_le hr
 repeat' ((try conv => whnf); first|(first|refine k3 ?_ ?_|refine k4 ?_ ?_) <;> intro hb <;> (try rw [lM] at hb) <;> try (exfalso; omega)|refine aq rfl ?_|fail)
 · have hw : d.left = -1 := by assumption
   have e : d.sync = (⟨perform d.sectors d.pending, [], -1, false⟩, 0) := by simp only [Disk.sync, if_pos hr]; rw [if_pos (by omega), if_pos hw]
   refine .inr ⟨[(7, 36)], [.pure (encS d.sectors)], [], [], [], 1, _, cloneS_own d.sectors (by omega), ⟨Or.inl rfl, trivial⟩, trivial, ?_⟩
   repeat' ((try conv => whnf); first|refine aq rfl ?_|refine aq bd ?_|fail)
   refine Wp.loop (fun k : Nat => ⟨[(1, .loc 1 0 0), (2, .loc 2 0 0), (5, .int (d.pending.length : Nat)), (6, .bool true), (43, .pure (.sl 2 ((d.pending.take d.pending.length).map encW))), (44, .int (d.pending.length : Nat)), (45, .int k)],
       [(1, some (.box [.pure (encS d.sectors), .pure (encWs d.pending), .int d.left, .bool d.stopped])), (2, some (.box [.lsl 36 0 d.sectors.length, .pure (.val (.slice none 0 0)), .int d.left, .bool d.stopped])), (36, some (.row 1 ((perform d.sectors (d.pending.take k)).map fun s => [encB s])))], [1, 2, 36]⟩)
     (fun k => k ≤ d.pending.length) (fun k => d.pending.length - k) 0 (Le.of ?_ ?_ rfl rfl rfl) (by omega) ?_
   · (repeat' (first|exact trivial|refine aq ?_ ?_|exact oq|fail))
     all_goals first
       | (refine SubA.int ?_; simp [cut]; done)
       | (refine SubA.int ?_; simp [cut]; omega)
       | (refine SubA.sl ?_; simp [cut, List.map_take]; done)
       | (refine SubA.sl ?_; simp only [cut, List.map_take]; simp only [List.length_map, Int.toNat_natCast, Nat.sub_zero, List.drop_zero]; done)
   · (repeat' (first|exact trivial|exact rfl|refine aq ?_ ?_|refine Exists.intro _ (aq rfl ?_)|exact oq|fail))
   intro k hk
   have hplen := perform_len d.sectors (d.pending.take k)
   by_cases hkm : k < (d.pending.take d.pending.length).length
   · have h5 := l4 _ (List.mem_of_mem_take (List.getElem_mem hkm))
     have hkm2 : k < d.pending.length := by simp at hkm; omega
     have hkm' : k < d.pending.length := by simp at hkm; omega
     have h6 : (d.pending.take d.pending.length)[k] = d.pending[k] := List.getElem_take
     have h7 := perform_take d.sectors d.pending hkm'
     refine code_sound (more := more2 false _ _) more2_ok FOK.wide _ ?_
     repeat' ((try conv => whnf); first|(first|refine k3 ?_ ?_|refine k4 ?_ ?_) <;> intro hb <;> (try rw [lM] at hb) <;> try (exfalso; omega)|refine aq rfl ?_|refine s4 nm ?_|refine s5 nm nm ?_|refine aq bd ?_|refine .inl ⟨rfl, rfl, bd, rfl, rfl, ?_⟩|fail)
     refine ⟨k + 1, Le.of ?_ ?_ rfl rfl rfl, by omega, by omega⟩
     · (repeat' (first|exact trivial|refine aq ?_ ?_|exact oq|fail))
     · (repeat' (first|exact trivial|refine aq ?_ ?_|refine Exists.intro _ (aq rfl ?_)|exact oq|fail))
       refine rowEq ?_
       simp only [h7, h6, List.map_set, Nat.zero_add]
   have ek : k = d.pending.length := by simp at hkm; omega
   subst ek
   refine code_sound (more := more2 false _ _) more2_ok FOK.wide _ ?_
   repeat' ((try conv => whnf); first|(first|refine k3 ?_ ?_|refine k4 ?_ ?_) <;> intro hb <;> (try rw [lM] at hb) <;> try (exfalso; omega)|refine aq rfl ?_|fail)
   rw [e]
   refine sub_de (sub_disk (sub_sl ?_) (PSub.nil 2) hw (ready_of hr).2) rfl
   simp only [List.drop_zero, List.take_length] at hplen ⊢
   exact List.take_of_length_le (by simp; omega)
 · have hw : ¬ d.left = -1 := by assumption
   have hw2 : (d.pending.length : Int) ≤ d.left := by assumption
   have hl3 := (ready_of hr).1.2.2.2.2.1
   have e : d.sync = (⟨perform d.sectors d.pending, [], d.left - d.pending.length, false⟩, 0) := by simp only [Disk.sync, if_pos hr]; rw [if_pos (by omega), if_neg hw]
   refine .inr ⟨[(7, 36)], [.pure (encS d.sectors)], [], [], [], 1, _, cloneS_own d.sectors (by omega), ⟨Or.inl rfl, trivial⟩, trivial, ?_⟩
   repeat' ((try conv => whnf); first|refine aq rfl ?_|refine aq bd ?_|fail)
   refine Wp.loop (fun k : Nat => ⟨[(1, .loc 1 0 0), (2, .loc 2 0 0), (5, .int (d.pending.length : Nat)), (6, .bool (decide ((d.pending.length : Int) ≤ d.left))), (43, .pure (.sl 2 ((d.pending.take d.pending.length).map encW))), (44, .int (d.pending.length : Nat)), (45, .int k)],
       [(1, some (.box [.pure (encS d.sectors), .pure (encWs d.pending), .int d.left, .bool d.stopped])), (2, some (.box [.lsl 36 0 d.sectors.length, .pure (.val (.slice none 0 0)), .int d.left, .bool d.stopped])), (36, some (.row 1 ((perform d.sectors (d.pending.take k)).map fun s => [encB s])))], [1, 2, 36]⟩)
     (fun k => k ≤ d.pending.length) (fun k => d.pending.length - k) 0 (Le.of ?_ ?_ rfl rfl rfl) (by omega) ?_
   · (repeat' (first|exact trivial|refine aq ?_ ?_|exact oq|exact SubA.bool bo|fail))
     all_goals first
       | (refine SubA.int ?_; simp [cut]; done)
       | (refine SubA.int ?_; simp [cut]; omega)
       | (refine SubA.sl ?_; simp [cut, List.map_take]; done)
       | (refine SubA.sl ?_; simp only [cut, List.map_take]; simp only [List.length_map, Int.toNat_natCast, Nat.sub_zero, List.drop_zero]; done)
   · (repeat' (first|exact trivial|exact rfl|refine aq ?_ ?_|refine Exists.intro _ (aq rfl ?_)|exact oq|fail))
   intro k hk
   have hplen := perform_len d.sectors (d.pending.take k)
   by_cases hkm : k < (d.pending.take d.pending.length).length
   · have h5 := l4 _ (List.mem_of_mem_take (List.getElem_mem hkm))
     have hkm2 : k < d.pending.length := by simp at hkm; omega
     have hkm' : k < d.pending.length := by simp at hkm; omega
     have h6 : (d.pending.take d.pending.length)[k] = d.pending[k] := List.getElem_take
     have h7 := perform_take d.sectors d.pending hkm'
     refine code_sound (more := more2 false _ _) more2_ok FOK.wide _ ?_
     repeat' ((try conv => whnf); first|(first|refine k3 ?_ ?_|refine k4 ?_ ?_) <;> intro hb <;> (try rw [lM] at hb) <;> try (exfalso; omega)|refine aq rfl ?_|refine s4 nm ?_|refine s5 nm nm ?_|refine aq bd ?_|refine .inl ⟨rfl, rfl, bd, rfl, rfl, ?_⟩|fail)
     refine ⟨k + 1, Le.of ?_ ?_ rfl rfl rfl, by omega, by omega⟩
     · (repeat' (first|exact trivial|refine aq ?_ ?_|exact oq|fail))
     · (repeat' (first|exact trivial|refine aq ?_ ?_|refine Exists.intro _ (aq rfl ?_)|exact oq|fail))
       refine rowEq ?_
       simp only [h7, h6, List.map_set, Nat.zero_add]
   have ek : k = d.pending.length := by simp at hkm; omega
   subst ek
   refine code_sound (more := more2 false _ _) more2_ok FOK.wide _ ?_
   repeat' ((try conv => whnf); first|(first|refine k3 ?_ ?_|refine k4 ?_ ?_) <;> intro hb <;> (try rw [lM] at hb) <;> try (exfalso; omega)|refine aq rfl ?_|refine s4 nm ?_|fail)
   rw [e]
   refine sub_de (sub_disk (sub_sl ?_) (PSub.nil 2) rfl (ready_of hr).2) rfl
   simp only [List.drop_zero, List.take_length] at hplen ⊢
   exact List.take_of_length_le (by simp; omega)
 · have hl0 : 0 ≤ d.left := by have := (ready_of hr).1.2.2.2.1; omega
   have hl1 : d.left.toNat < d.pending.length := by omega
   have h8 := l4 _ (List.getElem_mem hl1)
   have e : d.sync = (⟨tear (perform d.sectors (d.pending.take d.left.toNat)) d.pending[d.left.toNat], [], 0, true⟩, 470) := by simp only [Disk.sync, if_pos hr]; rw [if_neg (by omega)]; simp [List.getD, hl1]
   refine .inr ⟨[(7, 36)], [.pure (encS d.sectors)], [], [], [], 1, _, cloneS_own d.sectors (by omega), ⟨Or.inl rfl, trivial⟩, trivial, ?_⟩
   repeat' ((try conv => whnf); first|refine aq rfl ?_|refine aq bd ?_|fail)
   refine Wp.loop (fun k : Nat => ⟨[(1, .loc 1 0 0), (2, .loc 2 0 0), (5, .int (d.left.toNat : Nat)), (6, .bool (decide ((d.pending.length : Int) ≤ d.left))), (43, .pure (.sl 2 ((d.pending.take d.left.toNat).map encW))), (44, .int (d.left.toNat : Nat)), (45, .int k)],
       [(1, some (.box [.pure (encS d.sectors), .pure (encWs d.pending), .int d.left, .bool d.stopped])), (2, some (.box [.lsl 36 0 d.sectors.length, .pure (.val (.slice none 0 0)), .int d.left, .bool d.stopped])), (36, some (.row 1 ((perform d.sectors (d.pending.take k)).map fun s => [encB s])))], [1, 2, 36]⟩)
     (fun k => k ≤ d.left.toNat) (fun k => d.left.toNat - k) 0 (Le.of ?_ ?_ rfl rfl rfl) (by omega) ?_
   · (repeat' (first|exact trivial|refine aq ?_ ?_|exact oq|exact SubA.sl sc|exact SubA.bool bo|fail))
     all_goals first
       | (refine SubA.int ?_; simp [cut]; done)
       | (refine SubA.int ?_; simp [cut]; omega)
       | (refine SubA.sl ?_; simp [cut, List.map_take]; done)
       | (refine SubA.sl ?_; simp only [cut, List.map_take]; simp only [List.length_map, Int.toNat_natCast, Nat.sub_zero, List.drop_zero]; done)
   · (repeat' (first|exact trivial|exact rfl|refine aq ?_ ?_|refine Exists.intro _ (aq rfl ?_)|exact oq|fail))
   intro k hk
   have hplen := perform_len d.sectors (d.pending.take k)
   by_cases hkm : k < (d.pending.take d.left.toNat).length
   · have h5 := l4 _ (List.mem_of_mem_take (List.getElem_mem hkm))
     have hkm2 : k < d.left.toNat := by simp at hkm; omega
     have hkm' : k < d.pending.length := by simp at hkm; omega
     have h6 : (d.pending.take d.left.toNat)[k] = d.pending[k] := List.getElem_take
     have h7 := perform_take d.sectors d.pending hkm'
     refine code_sound (more := more2 false _ _) more2_ok FOK.wide _ ?_
     repeat' ((try conv => whnf); first|(first|refine k3 ?_ ?_|refine k4 ?_ ?_) <;> intro hb <;> (try rw [lM] at hb) <;> try (exfalso; omega)|refine aq rfl ?_|refine s4 nm ?_|refine s5 nm nm ?_|refine aq bd ?_|refine .inl ⟨rfl, rfl, bd, rfl, rfl, ?_⟩|fail)
     refine ⟨k + 1, Le.of ?_ ?_ rfl rfl rfl, by omega, by omega⟩
     · (repeat' (first|exact trivial|refine aq ?_ ?_|exact oq|fail))
     · (repeat' (first|exact trivial|refine aq ?_ ?_|refine Exists.intro _ (aq rfl ?_)|exact oq|fail))
       refine rowEq ?_
       simp only [h7, h6, List.map_set, Nat.zero_add]
   have ek : k = d.left.toNat := by simp at hkm; omega
   subst ek
   refine code_sound (more := more2 false _ _) more2_ok FOK.wide _ ?_
   repeat' ((try conv => whnf); first|(first|refine k3 ?_ ?_|refine k4 ?_ ?_) <;> intro hb <;> (try rw [lM] at hb) <;> try (exfalso; omega)|refine aq rfl ?_|refine s5 nm nm ?_|refine aq bd ?_|refine ⟨_, _, getMapN nm, rfl, ?_⟩|fail)
   refine Wp.draw (more := more2 true _ _) more2_det more2_ok FOK.wide rfl (by decide +kernel) (by conv => lhs; reduce) ?_
   repeat' ((try conv => whnf); first|refine aq rfl ?_|refine aq bd ?_|refine .inl ⟨rfl, rfl, bd, rfl, rfl, ?_⟩|fail)
   rw [e]
   refine sub_de (sub_disk (sub_sl ?_) (PSub.nil 2) rfl rfl) rfl
   have h9 : (perform d.sectors (List.take d.left.toNat d.pending))[0 + d.pending[d.left.toNat].fst.toNat]'(by omega) = (perform d.sectors (List.take d.left.toNat d.pending)).getD d.pending[d.left.toNat].fst.toNat [] := by
     have : d.pending[d.left.toNat].fst.toNat < (perform d.sectors (List.take d.left.toNat d.pending)).length := by omega
     simp [List.getD, this]
   have h10 : ((perform d.sectors (List.take d.left.toNat d.pending)).getD d.pending[d.left.toNat].fst.toNat []).length = 128 := by
     rw [← h9]
     exact perform_128 l3 (fun w hw => (l4 w (List.mem_of_mem_take hw)).2.2) _ (List.getElem_mem _)
   have h11 := h8.2.2
   simp only [h9, tear]
   clear h9
   generalize (perform d.sectors (List.take d.left.toNat d.pending)).getD d.pending[d.left.toNat].fst.toNat [] = s at h10 ⊢
   generalize d.pending[d.left.toNat] = w at h11 ⊢
   rw [torn_rows h10 h11]
   simp only [List.drop_zero, Nat.zero_add, ← List.map_set]
   exact List.take_of_length_le (by simp; omega)
end Go.Proofs.Ytcgpikmaapallaa
