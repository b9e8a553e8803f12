/- Journals: data, setFour, good. Conditions: none. -/
import Derived.Test.YtcgpikmaapallaaWd
import Derived.Test.YtcgpikmaapallaaWf
set_option linter.unusedSimpArgs false
set_option linter.unusedVariables false
set_option maxRecDepth 20000
set_option maxHeartbeats 4000000
namespace Go.Proofs.Ytcgpikmaapallaa
open Go.Avc
def sizeF (s : List UInt8) : Nat := (s.getD 11 0).toNat
def numF (s : List UInt8) : Nat := (s.getD 8 0).toNat * 256 + (s.getD 9 0).toNat
def GoodP (s : List UInt8) (k : Int) : Prop := four s 0 ≠ 0 ∧ four s 0 = four s 124 ∧ (numF s : Int) = k ∧ (s.getD 10 0).toNat ≤ 3 ∧ sizeF s ≤ 112 ∧ (hasF s 2 = false → sizeF s = 112) ∧ (hasF s 1 = false → 1 ≤ sizeF s) ∧
 (∀ b ∈ (s.drop (12 + sizeF s)).take (112 - sizeF s), b = 0) ∧ four s 4 = crc (body s)
instance (s : List UInt8) (k : Int) : Decidable (GoodP s k) := by unfold GoodP; infer_instance
def setB (s : List UInt8) (a n : Nat) : Nat → List UInt8
 | 0 => s
 | k + 1 => (setB s a n k).set (a + k) (UInt8.ofNat (n / 2 ^ (24 - 8 * k)))
theorem setB_len (s : List UInt8) (a n : Nat) : ∀ k, (setB s a n k).length = s.length
 | 0 => rfl
 | k + 1 => by simp [setB, setB_len s a n k]
theorem byte_wrap (n : Nat) : IntKind.u8.wrap (n : Int) = ((UInt8.ofNat n).toNat : Int) := by
 rw [IntKind.wrap_u8, UInt8.toNat_ofNat']; omega
theorem shr_e {k : Nat} (a : Nat) {e : Int} (h : min e.toNat IntKind.u32.bits = k) : (a : Int).fdiv (2 ^ (min e.toNat IntKind.u32.bits)) = ((a / 2 ^ k : Nat) : Int) := by
 have := shr_nat a k k (Nat.le_refl _)
 rw [h]
 rw [Int.toNat_natCast, Nat.min_self] at this
 exact this
attribute [local irreducible] PSub Wp PSpec Le Need Both
theorem data_spec (s : List UInt8) (hs : s.length = 128) (hz : sizeF s ≤ 112) : GSpec Try.prog 57 1 ⟨[(0, .loc 1 0 0)], [(1, some (.row 1 (s.map fun b => [.val (.int .u8 b.toNat)])))], [1]⟩ [1] 1
   ⟨[(0, .lsl 1 12 (sizeF s))], [(1, some (.row 1 (s.map fun b => [.val (.int .u8 b.toNat)])))], [1]⟩ := by
 have e11 : (s[Int.toNat 11]'(by simp; omega)).toNat = sizeF s := by rw [get_at]; rfl
 refine GSpec.of_vc (fun Γ => more2 false Γ.P Γ.fx) (fun Γ => more2_ok) Try.func57 rfl Try.call57 (by simp) ?_
 rintro ⟨P, N, w0, X, β0, fx, y, hy, pk, df⟩ rfl rfl rfl hoff rfl; change y.on = false at hoff
 skip
 refine Wp.draw (more := more2 true _ _) more2_det more2_ok FOK.wide rfl (by decide +kernel) (by conv => lhs; reduce) ?_
 repeat' ((try conv => whnf); first|refine aq rfl ?_|refine s1 ?_|refine s4 nm ?_|refine aq bd ?_|refine ⟨_, _, getMapN nm, rfl, ?_⟩|fail)
 exact Le.of ⟨SubA.lsl (i := 12) (by omega), trivial⟩ ⟨rfl, trivial⟩ rfl rfl rfl
theorem setFour_spec (s : List UInt8) (hs : s.length = 128) (a n : Nat) (ha : a + 3 < 128) (hn : n < 4294967296) : GSpec Try.prog 60 3 ⟨[(0, .loc 1 0 0), (1, .int a), (2, .pure (.val (.int .u32 n)))], [(1, some (.row 1 (s.map fun b => [.val (.int .u8 b.toNat)])))], [1]⟩ [1] 0
   ⟨[], [(1, some (.row 1 ((setB s a n 4).map fun b => [.val (.int .u8 b.toNat)])))], [1]⟩ := by
 refine GSpec.of_vc (fun Γ => more2 false Γ.P Γ.fx) (fun Γ => more2_ok) Try.func60 rfl Try.call60 (by simp) ?_
 rintro ⟨P, N, w0, X, β0, fx, y, hy, pk, df⟩ rfl rfl rfl hoff rfl; change y.on = false at hoff
 skip
 refine Wp.loop (fun k : Nat => ⟨[(0, .loc 1 0 0), (1, .int a), (2, .pure (.val (.int .u32 n))), (7, .int k)], [(1, some (.row 1 ((setB s a n k).map fun b => [.val (.int .u8 b.toNat)])))], [1]⟩) (fun k => k ≤ 4) (fun k => 4 - k) 0 (Le.of ?_ ?_ rfl rfl rfl) (by omega) ?_
 · (repeat' (first|exact trivial|refine aq ?_ ?_|exact oq|fail))
 · (repeat' (first|exact trivial|exact rfl|refine aq ?_ ?_|fail))
 intro k hk
 have hl := setB_len s a n k
 by_cases hk4 : k < 4
 · have h4 : k = 0 ∨ k = 1 ∨ k = 2 ∨ k = 3 := by omega
   rcases h4 with rfl | rfl | rfl | rfl
   all_goals (refine code_sound (more := more2 false _ _) more2_ok FOK.wide _ ?_)
   all_goals (skip)
   all_goals (refine Wp.draw (more := more2 true _ _) more2_det more2_ok FOK.wide rfl (by decide +kernel) (by conv => lhs; reduce) ?_)
   all_goals (repeat' ((try conv => whnf); first|refine s4 nm ?_|refine aq bd ?_|fail))
   all_goals first
     | refine ⟨_, shr_e (k := 24) _ (by decide), ?_⟩
     | refine ⟨_, shr_e (k := 16) _ (by decide), ?_⟩
     | refine ⟨_, shr_e (k := 8) _ (by decide), ?_⟩
     | refine ⟨_, shr_e (k := 0) _ (by decide), ?_⟩
   all_goals (skip)
   all_goals first
     | refine ⟨_, byte_wrap _, ?_⟩
     | skip
   all_goals (repeat' ((try conv => whnf); first|refine aq rfl ?_|refine s4 nm ?_|refine aq bd ?_|refine ⟨_, set_map _ _ _, ?_⟩|fail))
   · refine ⟨1, Le.of (by (repeat' (first|exact trivial|refine aq ?_ ?_|exact oq|fail))) ⟨rowEq ?_, trivial⟩ rfl rfl rfl, by omega, by omega⟩
     rw [setB]
     congr 2
     all_goals first | rfl | omega
   · refine ⟨2, Le.of (by (repeat' (first|exact trivial|refine aq ?_ ?_|exact oq|fail))) ⟨rowEq ?_, trivial⟩ rfl rfl rfl, by omega, by omega⟩
     rw [setB]
     congr 2
     all_goals first | rfl | omega
   · refine ⟨3, Le.of (by (repeat' (first|exact trivial|refine aq ?_ ?_|exact oq|fail))) ⟨rowEq ?_, trivial⟩ rfl rfl rfl, by omega, by omega⟩
     rw [setB]
     congr 2
     all_goals first | rfl | omega
   · refine ⟨4, Le.of (by (repeat' (first|exact trivial|refine aq ?_ ?_|exact oq|fail))) ⟨rowEq ?_, trivial⟩ rfl rfl rfl, by omega, by omega⟩
     rw [setB]
     congr 2
     all_goals first | rfl | omega
 · have ek : k = 4 := by omega
   subst ek
   refine code_sound (more := more2 false _ _) more2_ok FOK.wide _ ?_
   skip
   exact Le.of (by (repeat' (first|exact trivial|fail))) (by (repeat' (first|exact trivial|exact rfl|refine aq ?_ ?_|fail))) rfl rfl rfl
theorem good_spec (s : List UInt8) (hs : s.length = 128) (k : Int) : PSpec Try.prog 54 [parB s, .int k] (.bool (decide (GoodP s k))) := by
 have z11 := UInt8.toNat_lt (s.getD 11 0)
 have e8 : s[Int.toNat 8]'(by simp; omega) = s.getD 8 0 := get_at s _
 have e9 : s[Int.toNat 9]'(by simp; omega) = s.getD 9 0 := get_at s _
 have e10 : s[Int.toNat 10]'(by simp; omega) = s.getD 10 0 := get_at s _
 have e11 : s[Int.toNat 11]'(by simp; omega) = s.getD 11 0 := get_at s _
 have q0 := four_spec s hs 0 (by omega)
 have q4 := four_spec s hs 4 (by omega)
 have q124 := four_spec s hs 124 (by omega)
 have qc := checksum_spec s hs
 have h1 := has1_spec s hs
 have h2 := has2_spec s hs
 obtain ⟨G, hG⟩ : ∃ G : Bool, G = decide (GoodP s k) := ⟨_, rfl⟩
 rw [← hG]
 have hG : G = true ↔ GoodP s k := by rw [hG]; exact decide_eq_true_iff
 unfold GoodP at hG
 obtain ⟨n0, hn0⟩ : ∃ n, n = four s 0 := ⟨_, rfl⟩
 obtain ⟨n4, hn4⟩ : ∃ n, n = four s 4 := ⟨_, rfl⟩
 obtain ⟨n124, hn124⟩ : ∃ n, n = four s 124 := ⟨_, rfl⟩
 obtain ⟨nc, hnc⟩ : ∃ n, n = crc (body s) := ⟨_, rfl⟩
 obtain ⟨b1, hb1⟩ : ∃ n, n = hasF s 1 := ⟨_, rfl⟩
 obtain ⟨b2, hb2⟩ : ∃ n, n = hasF s 2 := ⟨_, rfl⟩
 rw [← hn0] at q0 hG
 rw [← hn4] at q4 hG
 rw [← hn124] at q124 hG
 rw [← hnc] at qc hG
 rw [← hb1] at h1 hG
 rw [← hb2] at h2 hG
 clear hn0 hn4 hn124 hnc hb1 hb2
 have bad : ¬ (n0 ≠ 0 ∧ n0 = n124 ∧ (numF s : Int) = k ∧ (s.getD 10 0).toNat ≤ 3 ∧ sizeF s ≤ 112 ∧ (b2 = false → sizeF s = 112) ∧ (b1 = false → 1 ≤ sizeF s) ∧
     (∀ b ∈ (s.drop (12 + sizeF s)).take (112 - sizeF s), b = 0) ∧ n4 = nc) → PSub (PV.val (Value.bool false)) (PV.bool G) := fun h => PSub.val_bool (by cases hGG : G with | false => rfl | true => exact absurd (hG.1 hGG) h)
 refine PSpec.of_vc (fun Γ => more2 false Γ.P Γ.fx) (fun Γ => more2_ok) Try.func54 rfl Try.call54 (by simp) ?_
 rintro ⟨P, N, w0, X, β0, fx, y, hy, pk, df⟩ rfl rfl rfl hoff rfl; change y.on = false at hoff
 repeat' ((try conv => whnf); first|refine s1 ?_|refine s5 nm nm ?_|fail)
 refine Wp.draw (more := more2 true _ _) more2_det more2_ok FOK.wide rfl (by decide +kernel) (by conv => lhs; reduce) ?_
 skip
 refine ⟨_, q0, ?_⟩
 repeat' ((try conv => whnf); first|(first|refine k3 ?_ ?_|refine k4 ?_ ?_) <;> intro hb <;> (try rw [lM] at hb) <;> try (exfalso; omega)|fail)
 · exact bad fun h => h.1 (by omega)
 refine ⟨_, q0, ?_⟩
 skip
 refine ⟨_, q124, ?_⟩
 repeat' ((try conv => whnf); first|(first|refine k3 ?_ ?_|refine k4 ?_ ?_) <;> intro hb <;> (try rw [lM] at hb) <;> try (exfalso; omega)|refine s1 ?_|refine s5 nm nm ?_|refine aq bd ?_|fail)
 rotate_left
 · exact bad fun h => by omega
 refine ⟨_, shl8_i64 _, ?_⟩
 repeat' ((try conv => whnf); first|refine s1 ?_|refine s5 nm nm ?_|fail)
 refine ⟨_, or8_i64 _ _, ?_⟩
 repeat' ((try conv => whnf); first|(first|refine k3 ?_ ?_|refine k4 ?_ ?_) <;> intro hb <;> (try rw [lM] at hb) <;> try (exfalso; omega)|refine s5 nm nm ?_|fail)
 · refine bad fun h => ?_
   simp only [get_at] at *
   simp only [numF, sizeF] at h
   omega
 · refine bad fun h => ?_
   simp only [get_at] at *
   simp only [numF, sizeF] at h
   omega
 rotate_left
 · refine bad fun h => ?_
   simp only [get_at] at *
   simp only [numF, sizeF] at h
   omega
 have z11' : (s[Int.toNat 11]'(by simp; omega)).toNat = sizeF s := by rw [e11]; rfl
 have hZ : ((s.drop (12 + sizeF s)).take (112 - sizeF s)).length = 112 - sizeF s := by simp [hs]; omega
 refine .inl ⟨_, h2, ?_⟩
 repeat' ((try conv => whnf); first|(first|refine k3 ?_ ?_|refine k4 ?_ ?_) <;> intro hb <;> (try rw [lM] at hb) <;> try (exfalso; omega)|refine k5 (fun hb => ?_) fun hb => ?_|fail)
 · refine .inl ⟨_, h1, ?_⟩
   repeat' ((try conv => whnf); first|(first|refine k3 ?_ ?_|refine k4 ?_ ?_) <;> intro hb <;> (try rw [lM] at hb) <;> try (exfalso; omega)|refine k5 (fun hb => ?_) fun hb => ?_|refine s4 nm ?_|refine aq bd ?_|fail)
   · have hc : (b2 = false → sizeF s = 112) ∧ (b1 = false → 1 ≤ sizeF s) := ⟨fun h => absurd (h.symm.trans ‹b2 = true›) (by simp), fun h => absurd (h.symm.trans ‹b1 = true›) (by simp)⟩
     refine Wp.loop (fun i : Nat => ⟨[(0, .pure (parB s)), (70, .pure (encB ((s.drop (12 + sizeF s)).take (112 - sizeF s)))), (71, .int (112 - sizeF s : Nat)), (72, .int i)], [], []⟩)
       (fun i => i ≤ 112 - sizeF s ∧ ∀ b ∈ ((s.drop (12 + sizeF s)).take (112 - sizeF s)).take i, b = 0) (fun i => 112 - sizeF s - i) 0 (Le.of ?_ ?_ rfl rfl rfl) ⟨by omega, by simp⟩ ?_
     · (repeat' (first|exact trivial|refine aq ?_ ?_|exact oq|fail))
       all_goals simp only [get_at]
       all_goals first
         | (refine SubA.sl ?_; rw [show (12 + ((s.getD 11 0).toNat : Int)).toNat = 12 + sizeF s by unfold sizeF; omega]; simp only [cut, List.map_take, List.map_drop]; congr 1; show 124 - _ = _; omega)
         | (refine SubA.int ?_; rw [show (12 + ((s.getD 11 0).toNat : Int)).toNat = 12 + sizeF s by unfold sizeF; omega]; simp [cut, hs]; omega)
     · (repeat' (first|exact trivial|fail))
     rintro i ⟨hi, hz⟩
     by_cases hi2 : i < 112 - sizeF s
     · refine code_sound (more := more2 false _ _) more2_ok FOK.wide _ ?_
       repeat' ((try conv => whnf); first|(first|refine k3 ?_ ?_|refine k4 ?_ ?_) <;> intro hb <;> (try rw [lM] at hb) <;> try (exfalso; omega)|refine s4 nm ?_|refine s5 nm nm ?_|fail)
       · refine ⟨i + 1, Le.of (by (repeat' (first|exact trivial|refine aq ?_ ?_|exact oq|fail))) (by (repeat' (first|exact trivial|fail))) rfl rfl rfl, ⟨by omega, take_all hz (by omega) (UInt8.toNat_inj.1 ?_)⟩, by omega⟩
         have hb0 := hb
         simp only [UInt8.toNat_zero]
         omega
       · exact bad fun h => hb (by rw [h.2.2.2.2.2.2.2.1 _ (List.getElem_mem (show i < ((s.drop (12 + sizeF s)).take (112 - sizeF s)).length by omega))]; rfl)
     · have ei : i = 112 - sizeF s := by omega
       subst ei
       rw [List.take_of_length_le (by omega)] at hz
       refine code_sound (more := more2 false _ _) more2_ok FOK.wide _ ?_
       repeat' ((try conv => whnf); first|(first|refine k3 ?_ ?_|refine k4 ?_ ?_) <;> intro hb <;> (try rw [lM] at hb) <;> try (exfalso; omega)|fail)
       refine .inl ⟨_, q4, ?_⟩
       skip
       refine .inl ⟨_, qc, ?_⟩
       skip
       refine PSub.val_bool (Bool.eq_iff_iff.2 ?_)
       rw [hG, decide_eq_true_iff]
       constructor
       · intro h
         simp only [get_at] at *
         refine ⟨by omega, by omega, ?_, by omega, by unfold sizeF; omega, hc.1, hc.2, hz, by omega⟩
         unfold numF; omega
       · intro h; have := h.2.2.2.2.2.2.2.2; omega
   · refine bad fun h => ?_
     have h7 := h.2.2.2.2.2.2.1 ‹_›
     simp only [get_at] at *
     unfold sizeF at h7; omega
   · have hc : (b2 = false → sizeF s = 112) ∧ (b1 = false → 1 ≤ sizeF s) := ⟨fun h => absurd (h.symm.trans ‹b2 = true›) (by simp), fun h => by simp only [get_at] at *; unfold sizeF; omega⟩
     refine Wp.loop (fun i : Nat => ⟨[(0, .pure (parB s)), (70, .pure (encB ((s.drop (12 + sizeF s)).take (112 - sizeF s)))), (71, .int (112 - sizeF s : Nat)), (72, .int i)], [], []⟩)
       (fun i => i ≤ 112 - sizeF s ∧ ∀ b ∈ ((s.drop (12 + sizeF s)).take (112 - sizeF s)).take i, b = 0) (fun i => 112 - sizeF s - i) 0 (Le.of ?_ ?_ rfl rfl rfl) ⟨by omega, by simp⟩ ?_
     · (repeat' (first|exact trivial|refine aq ?_ ?_|exact oq|fail))
       all_goals simp only [get_at]
       all_goals first
         | (refine SubA.sl ?_; rw [show (12 + ((s.getD 11 0).toNat : Int)).toNat = 12 + sizeF s by unfold sizeF; omega]; simp only [cut, List.map_take, List.map_drop]; congr 1; show 124 - _ = _; omega)
         | (refine SubA.int ?_; rw [show (12 + ((s.getD 11 0).toNat : Int)).toNat = 12 + sizeF s by unfold sizeF; omega]; simp [cut, hs]; omega)
     · (repeat' (first|exact trivial|fail))
     rintro i ⟨hi, hz⟩
     by_cases hi2 : i < 112 - sizeF s
     · refine code_sound (more := more2 false _ _) more2_ok FOK.wide _ ?_
       repeat' ((try conv => whnf); first|(first|refine k3 ?_ ?_|refine k4 ?_ ?_) <;> intro hb <;> (try rw [lM] at hb) <;> try (exfalso; omega)|refine s4 nm ?_|refine s5 nm nm ?_|fail)
       · refine ⟨i + 1, Le.of (by (repeat' (first|exact trivial|refine aq ?_ ?_|exact oq|fail))) (by (repeat' (first|exact trivial|fail))) rfl rfl rfl, ⟨by omega, take_all hz (by omega) (UInt8.toNat_inj.1 ?_)⟩, by omega⟩
         have hb0 := hb
         simp only [UInt8.toNat_zero]
         omega
       · exact bad fun h => hb (by rw [h.2.2.2.2.2.2.2.1 _ (List.getElem_mem (show i < ((s.drop (12 + sizeF s)).take (112 - sizeF s)).length by omega))]; rfl)
     · have ei : i = 112 - sizeF s := by omega
       subst ei
       rw [List.take_of_length_le (by omega)] at hz
       refine code_sound (more := more2 false _ _) more2_ok FOK.wide _ ?_
       repeat' ((try conv => whnf); first|(first|refine k3 ?_ ?_|refine k4 ?_ ?_) <;> intro hb <;> (try rw [lM] at hb) <;> try (exfalso; omega)|fail)
       refine .inl ⟨_, q4, ?_⟩
       skip
       refine .inl ⟨_, qc, ?_⟩
       skip
       refine PSub.val_bool (Bool.eq_iff_iff.2 ?_)
       rw [hG, decide_eq_true_iff]
       constructor
       · intro h
         simp only [get_at] at *
         refine ⟨by omega, by omega, ?_, by omega, by unfold sizeF; omega, hc.1, hc.2, hz, by omega⟩
         unfold numF; omega
       · intro h; have := h.2.2.2.2.2.2.2.2; omega
 · refine .inl ⟨_, h1, ?_⟩
   repeat' ((try conv => whnf); first|(first|refine k3 ?_ ?_|refine k4 ?_ ?_) <;> intro hb <;> (try rw [lM] at hb) <;> try (exfalso; omega)|refine k5 (fun hb => ?_) fun hb => ?_|refine s4 nm ?_|refine aq bd ?_|fail)
   · have hc : (b2 = false → sizeF s = 112) ∧ (b1 = false → 1 ≤ sizeF s) := ⟨fun h => by simp only [get_at] at *; unfold sizeF; omega, fun h => by simp only [get_at] at *; unfold sizeF; omega⟩
     refine Wp.loop (fun i : Nat => ⟨[(0, .pure (parB s)), (70, .pure (encB ((s.drop (12 + sizeF s)).take (112 - sizeF s)))), (71, .int (112 - sizeF s : Nat)), (72, .int i)], [], []⟩)
       (fun i => i ≤ 112 - sizeF s ∧ ∀ b ∈ ((s.drop (12 + sizeF s)).take (112 - sizeF s)).take i, b = 0) (fun i => 112 - sizeF s - i) 0 (Le.of ?_ ?_ rfl rfl rfl) ⟨by omega, by simp⟩ ?_
     · (repeat' (first|exact trivial|refine aq ?_ ?_|exact oq|fail))
       all_goals simp only [get_at]
       all_goals first
         | (refine SubA.sl ?_; rw [show (12 + ((s.getD 11 0).toNat : Int)).toNat = 12 + sizeF s by unfold sizeF; omega]; simp only [cut, List.map_take, List.map_drop]; congr 1; show 124 - _ = _; omega)
         | (refine SubA.int ?_; rw [show (12 + ((s.getD 11 0).toNat : Int)).toNat = 12 + sizeF s by unfold sizeF; omega]; simp [cut, hs]; omega)
     · (repeat' (first|exact trivial|fail))
     rintro i ⟨hi, hz⟩
     by_cases hi2 : i < 112 - sizeF s
     · refine code_sound (more := more2 false _ _) more2_ok FOK.wide _ ?_
       repeat' ((try conv => whnf); first|(first|refine k3 ?_ ?_|refine k4 ?_ ?_) <;> intro hb <;> (try rw [lM] at hb) <;> try (exfalso; omega)|refine s4 nm ?_|refine s5 nm nm ?_|fail)
       · refine ⟨i + 1, Le.of (by (repeat' (first|exact trivial|refine aq ?_ ?_|exact oq|fail))) (by (repeat' (first|exact trivial|fail))) rfl rfl rfl, ⟨by omega, take_all hz (by omega) (UInt8.toNat_inj.1 ?_)⟩, by omega⟩
         have hb0 := hb
         simp only [UInt8.toNat_zero]
         omega
       · exact bad fun h => hb (by rw [h.2.2.2.2.2.2.2.1 _ (List.getElem_mem (show i < ((s.drop (12 + sizeF s)).take (112 - sizeF s)).length by omega))]; rfl)
     · have ei : i = 112 - sizeF s := by omega
       subst ei
       rw [List.take_of_length_le (by omega)] at hz
       refine code_sound (more := more2 false _ _) more2_ok FOK.wide _ ?_
       repeat' ((try conv => whnf); first|(first|refine k3 ?_ ?_|refine k4 ?_ ?_) <;> intro hb <;> (try rw [lM] at hb) <;> try (exfalso; omega)|fail)
       refine .inl ⟨_, q4, ?_⟩
       skip
       refine .inl ⟨_, qc, ?_⟩
       skip
       refine PSub.val_bool (Bool.eq_iff_iff.2 ?_)
       rw [hG, decide_eq_true_iff]
       constructor
       · intro h
         simp only [get_at] at *
         refine ⟨by omega, by omega, ?_, by omega, by unfold sizeF; omega, hc.1, hc.2, hz, by omega⟩
         unfold numF; omega
       · intro h; have := h.2.2.2.2.2.2.2.2; omega
   · have hc : (b2 = false → sizeF s = 112) ∧ (b1 = false → 1 ≤ sizeF s) := ⟨fun h => by simp only [get_at] at *; unfold sizeF; omega, fun h => by simp only [get_at] at *; unfold sizeF; omega⟩
     refine Wp.loop (fun i : Nat => ⟨[(0, .pure (parB s)), (70, .pure (encB ((s.drop (12 + sizeF s)).take (112 - sizeF s)))), (71, .int (112 - sizeF s : Nat)), (72, .int i)], [], []⟩)
       (fun i => i ≤ 112 - sizeF s ∧ ∀ b ∈ ((s.drop (12 + sizeF s)).take (112 - sizeF s)).take i, b = 0) (fun i => 112 - sizeF s - i) 0 (Le.of ?_ ?_ rfl rfl rfl) ⟨by omega, by simp⟩ ?_
     · (repeat' (first|exact trivial|refine aq ?_ ?_|exact oq|fail))
       all_goals simp only [get_at]
       all_goals first
         | (refine SubA.sl ?_; rw [show (12 + ((s.getD 11 0).toNat : Int)).toNat = 12 + sizeF s by unfold sizeF; omega]; simp only [cut, List.map_take, List.map_drop]; congr 1; show 124 - _ = _; omega)
         | (refine SubA.int ?_; rw [show (12 + ((s.getD 11 0).toNat : Int)).toNat = 12 + sizeF s by unfold sizeF; omega]; simp [cut, hs]; omega)
     · (repeat' (first|exact trivial|fail))
     rintro i ⟨hi, hz⟩
     by_cases hi2 : i < 112 - sizeF s
     · refine code_sound (more := more2 false _ _) more2_ok FOK.wide _ ?_
       repeat' ((try conv => whnf); first|(first|refine k3 ?_ ?_|refine k4 ?_ ?_) <;> intro hb <;> (try rw [lM] at hb) <;> try (exfalso; omega)|refine s4 nm ?_|refine s5 nm nm ?_|fail)
       · refine ⟨i + 1, Le.of (by (repeat' (first|exact trivial|refine aq ?_ ?_|exact oq|fail))) (by (repeat' (first|exact trivial|fail))) rfl rfl rfl, ⟨by omega, take_all hz (by omega) (UInt8.toNat_inj.1 ?_)⟩, by omega⟩
         have hb0 := hb
         simp only [UInt8.toNat_zero]
         omega
       · exact bad fun h => hb (by rw [h.2.2.2.2.2.2.2.1 _ (List.getElem_mem (show i < ((s.drop (12 + sizeF s)).take (112 - sizeF s)).length by omega))]; rfl)
     · have ei : i = 112 - sizeF s := by omega
       subst ei
       rw [List.take_of_length_le (by omega)] at hz
       refine code_sound (more := more2 false _ _) more2_ok FOK.wide _ ?_
       repeat' ((try conv => whnf); first|(first|refine k3 ?_ ?_|refine k4 ?_ ?_) <;> intro hb <;> (try rw [lM] at hb) <;> try (exfalso; omega)|fail)
       refine .inl ⟨_, q4, ?_⟩
       skip
       refine .inl ⟨_, qc, ?_⟩
       skip
       refine PSub.val_bool (Bool.eq_iff_iff.2 ?_)
       rw [hG, decide_eq_true_iff]
       constructor
       · intro h
         simp only [get_at] at *
         refine ⟨by omega, by omega, ?_, by omega, by unfold sizeF; omega, hc.1, hc.2, hz, by omega⟩
         unfold numF; omega
       · intro h; have := h.2.2.2.2.2.2.2.2; omega
 · refine bad fun h => ?_
   have h7 := h.2.2.2.2.2.1 ‹_›
   simp only [get_at] at *
   unfold sizeF at h7; omega
end Go.Proofs.Ytcgpikmaapallaa
/- Journals: the records on a disk. Conditions: none. -/
namespace Go.Proofs.Ytcgpikmaapallaa
open Go.Avc
def dataF (s : List UInt8) : List UInt8 := (s.drop 12).take (sizeF s)
def contL (gen : Nat) (k : Nat) (s : List UInt8) (b : List UInt8) : List (List UInt8) → Option (List UInt8 × Nat × List (List UInt8))
 | [] => if hasF s 2 = true then some (b, k, []) else none
 | s' :: rest => if hasF s 2 = true then some (b, k, s' :: rest) else
     if GoodP s' (k + 1 : Nat) ∧ hasF s' 1 = false ∧ four s' 0 = gen then contL gen (k + 1) s' (b ++ dataF s') rest else none
def recsL : Nat → Nat → Nat → List (List UInt8) → List (List UInt8)
 | 0, _, _, _ => []
 | _ + 1, _, _, [] => []
 | f + 1, gen, k, s :: rest =>
   if GoodP s k ∧ hasF s 1 = true ∧ gen ≤ four s 0 then
     match contL (four s 0) k s (dataF s) rest with
     | none => []
     | some (b, k', rest') => b :: recsL f (four s 0) (k' + 1) rest'
   else []
def recs (ss : List (List UInt8)) : List (List UInt8) := recsL ss.length 1 0 ss
theorem contL_rest {gen : Nat} {ss : List (List UInt8)} : ∀ {rest : List (List UInt8)} {k : Nat} {s b : List UInt8} {r : List UInt8 × Nat × List (List UInt8)}, rest = ss.drop (k + 1) → contL gen k s b rest = some r → k ≤ r.2.1 ∧ r.2.2 = ss.drop (r.2.1 + 1)
 | [], k, s, b, r, hr, h => by
   unfold contL at h
   split at h
   · cases h; exact ⟨Nat.le_refl _, hr⟩
   · cases h
 | s' :: rest, k, s, b, r, hr, h => by
   unfold contL at h
   split at h
   · cases h; exact ⟨Nat.le_refl _, hr⟩
   · split at h
     · have hr' : rest = ss.drop (k + 1 + 1) := by
         have := congrArg List.tail hr
         simpa using this
       obtain ⟨h1, h2⟩ := contL_rest hr' h
       exact ⟨by omega, h2⟩
     · cases h
theorem dataF_len {s : List UInt8} (hs : s.length = 128) (hz : sizeF s ≤ 112) : (dataF s).length = sizeF s := by simp [dataF, hs]; omega
theorem GoodP.size {s : List UInt8} {k : Int} (h : GoodP s k) : sizeF s ≤ 112 := h.2.2.2.2.1
attribute [local irreducible] PSub Wp PSpec Le Need Both
attribute [local irreducible] four hasF GoodP contL recsL sizeF dataF
theorem cloneL_spec (rows : List UInt8) (i n : Nat) (hi : i + n ≤ rows.length) (hl : rows.length ≤ 1000000) : GSpec Try.prog 39 1 ⟨[(0, .lsl 1 i n)], [(1, some (.row 1 (rows.map fun b => [.val (.int .u8 b.toNat)])))], [1]⟩ [1] 1
   ⟨[(0, .lsl 7 0 n)], [(1, some (.row 1 (rows.map fun b => [.val (.int .u8 b.toNat)]))), (7, some (.row 1 (((rows.drop i).take n).map fun b => [.val (.int .u8 b.toNat)])))], [1, 7]⟩ := by
 refine GSpec.of_vc (fun Γ => more2 false Γ.P Γ.fx) (fun Γ => more2_ok) Try.func39 rfl Try.call39 (by simp) ?_
 rintro ⟨P, N, w0, X, β0, fx, y, hy, pk, df⟩ rfl rfl rfl hoff rfl; change y.on = false at hoff
 skip
 intro r hr
 repeat' ((try conv => whnf); first|refine k6 (fun hb => ?_) fun hb => ?_|refine aq rfl ?_|refine aq bd ?_|fail)
 · have e : n = 0 := hr hb
   subst e
   exact Le.trans (Le.virt (k := 7) (sz := 1) rfl rfl (by omega)) (Le.of ⟨Or.inr (Or.inr (Or.inr ⟨7, rfl, rfl, rfl⟩)), trivial⟩ ⟨rfl, rfl, trivial⟩ rfl rfl rfl)
 · exact Le.of ⟨SubA.lsl (by simp; omega), trivial⟩ ⟨rfl, rowEq (by simp [List.map_take, List.map_drop]), trivial⟩ rfl rfl rfl
theorem contL_has {gen k : Nat} {s b : List UInt8} {rest : List (List UInt8)} (h : hasF s 2 = true) : contL gen k s b rest = some (b, k, rest) := by
 cases rest <;> simp [contL, h]
theorem contL_end {gen k : Nat} {s b : List UInt8} (h : hasF s 2 = false) : contL gen k s b [] = none := by simp [contL, h]
theorem contL_bad {gen k : Nat} {s b s' : List UInt8} {rest : List (List UInt8)} (h : hasF s 2 = false) (hb : ¬ (GoodP s' (k + 1 : Nat) ∧ hasF s' 1 = false ∧ four s' 0 = gen)) : contL gen k s b (s' :: rest) = none := by
 rw [contL, if_neg (by simp [h]), if_neg hb]
theorem contL_next {gen k : Nat} {s b s' : List UInt8} {rest : List (List UInt8)} (h : hasF s 2 = false) (hb : GoodP s' (k + 1 : Nat) ∧ hasF s' 1 = false ∧ four s' 0 = gen) : contL gen k s b (s' :: rest) = contL gen (k + 1) s' (b ++ dataF s') rest := by
 rw [contL, if_neg (by simp [h]), if_pos hb]
theorem sector_specs (s : List UInt8) (hs : s.length = 128) (k : Int) : ∃ (g b1 b2 : Bool) (n0 z : Nat), (g = true ↔ GoodP s k) ∧ b1 = hasF s 1 ∧ b2 = hasF s 2 ∧ n0 = four s 0 ∧ z = sizeF s ∧ n0 < 4294967296 ∧
   PSpec Try.prog 54 [parB s, .int k] (.bool g) ∧ PSpec Try.prog 55 [parB s, .val (.int .u8 1)] (.bool b1) ∧ PSpec Try.prog 55 [parB s, .val (.int .u8 2)] (.bool b2) ∧
   PSpec Try.prog 56 [parB s, .int 0] (.val (.int .u32 n0)) ∧
   (z ≤ 112 → GSpec Try.prog 57 1 ⟨[(0, .loc 1 0 0)], [(1, some (.row 1 (s.map fun b => [.val (.int .u8 b.toNat)])))], [1]⟩ [1] 1
     ⟨[(0, .lsl 1 12 z)], [(1, some (.row 1 (s.map fun b => [.val (.int .u8 b.toNat)])))], [1]⟩) :=
 ⟨decide (GoodP s k), _, _, _, _, decide_eq_true_iff, rfl, rfl, rfl, rfl, four_lt s 0, good_spec s hs k, has1_spec s hs, has2_spec s hs, four_spec s hs 0 (by omega), data_spec s hs⟩
theorem records1_spec (d : Disk) (hl : d.sectors.length ≤ 4096) (h128 : ∀ s ∈ d.sectors, s.length = 128) : ISpec Try.prog 53 [.ptr [encS d.sectors, encWs d.pending, .int d.left, .bool d.stopped]] ((recs d.sectors).map fun b => [encB b]) := by
 refine ISpec.of_vc (fun Γ => more2 false Γ.P Γ.fx) (fun Γ => more2_ok) Try.func53 rfl Try.call53 (Nat.le_of_ble_eq_true rfl) rfl ?_
 rintro ⟨P, N, w0, X, β0, fx, y, hy, pk, df⟩ rfl rfl rfl rfl hon hxs
 dsimp only at hon hxs
 skip
 refine Wp.loop (fun (q : Nat × Nat × Nat × Nat) => ⟨[(0, .pure (.val (.func (.yield y.l) #[] #[]))), (1, .pure (.ptr [encS d.sectors, encWs d.pending, .int d.left, .bool d.stopped])), (3, .pure (.val (.int .u32 q.2.1))), (4, .int q.1), (70, .gh q.2.2.1 false)], [], []⟩)
   (fun q => q.1 ≤ d.sectors.length ∧ (recs d.sectors).drop q.2.2.1 = recsL q.2.2.2 q.2.1 q.1 (d.sectors.drop q.1) ∧ d.sectors.length ≤ q.1 + q.2.2.2 ∧ q.2.2.1 ≤ (recs d.sectors).length ∧ q.2.1 < 4294967296) (fun q => d.sectors.length - q.1) (0, 1, 0, d.sectors.length) (Le.of ?_ ?_ rfl rfl rfl) ⟨by omega, rfl, by simp, by simp, by show (1 : Nat) < 4294967296; decide⟩ ?_
 · (repeat' (first|exact trivial|refine aq ?_ ?_|exact oq|fail))
 · (repeat' (first|exact trivial|fail))
 rintro ⟨k, gen, i, f⟩ ⟨hk, hx, hf, hi, hg⟩
 dsimp only at hk hx hf hi hg ⊢
 by_cases hk2 : k < d.sectors.length
 rotate_left
 · have e : d.sectors.drop k = [] := List.drop_eq_nil_of_le (by omega)
   have e2 : recsL f gen k [] = [] := by cases f <;> simp [recsL]
   rw [e, e2] at hx
   have e3 := List.drop_eq_nil_iff.1 hx
   refine code_sound (more := more2 false _ _) more2_ok FOK.wide _ ?_
   repeat' ((try conv => whnf); first|(first|refine k3 ?_ ?_|refine k4 ?_ ?_) <;> intro hb <;> (try rw [lM] at hb) <;> try (exfalso; omega)|fail)
   exact ⟨i, false, rfl, fun _ => by simp; omega⟩
 have hs := h128 _ (List.getElem_mem hk2)
 have edrop : d.sectors.drop k = d.sectors[k] :: d.sectors.drop (k + 1) := by simp
 obtain ⟨f, rfl⟩ : ∃ f', f = f' + 1 := ⟨f - 1, by omega⟩
 rw [edrop, recsL] at hx
 obtain ⟨g, b1, b2, n0, z, hgood, hb1, hb2, hn0, hz, hn, q1, q2, q3, q4, q5⟩ := sector_specs _ hs k
 rw [← hb1, ← hn0] at hx
 have bad : ¬ (GoodP (d.sectors[k]) k ∧ b1 = true ∧ gen ≤ n0) → i = ((recs d.sectors).map fun b => [encB b]).length := fun h => by
   rw [if_neg h] at hx
   have := List.drop_eq_nil_iff.1 hx
   simp; omega
 refine code_sound (more := more2 false _ _) more2_ok FOK.wide _ ?_
 repeat' ((try conv => whnf); first|(first|refine k3 ?_ ?_|refine k4 ?_ ?_) <;> intro hb <;> (try rw [lM] at hb) <;> try (exfalso; omega)|refine s5 nm nm ?_|refine aq bd ?_|fail)
 refine ⟨congrArg some (show 128 = _ by simp [hs]), ?_⟩
 repeat' ((try conv => whnf); first|refine .inr ⟨rfl, rfl, rfl, ?_⟩|fail)
 refine ⟨(flat_len _ _).trans hs, onesB_flat _ _ (fun _ => rfl), congrArg some ((flat_len _ _).trans hs).symm, _, singles_flat _ _, ?_⟩
 skip
 refine .inl ⟨_, q1, ?_⟩
 repeat' ((try conv => whnf); first|refine k5 (fun hb => ?_) fun hb => ?_|fail)
 rotate_left
 · exact ⟨i, false, rfl, fun _ => bad fun h => absurd ((hgood.2 h.1).symm.trans hb) (by simp)⟩
 refine .inl ⟨_, q2, ?_⟩
 repeat' ((try conv => whnf); first|refine k5 (fun hb => ?_) fun hb => ?_|fail)
 rotate_left
 · exact ⟨i, false, rfl, fun _ => bad fun h => by simp_all⟩
 refine .inl ⟨_, q4, ?_⟩
 repeat' ((try conv => whnf); first|(first|refine k3 ?_ ?_|refine k4 ?_ ?_) <;> intro hb <;> (try rw [lM] at hb) <;> try (exfalso; omega)|fail)
 · exact ⟨i, false, rfl, fun _ => bad fun h => by omega⟩
 refine .inl ⟨_, q4, ?_⟩
 skip
 refine .inr ⟨[(1, 5)], [.loc 1 0 0], _, _, _, 1, _, q5 (hz ▸ (hgood.1 (by assumption)).size), ⟨Or.inl rfl, trivial⟩, ⟨rfl, trivial⟩, ?_⟩
 skip
 have hz112 : z ≤ 112 := hz ▸ (hgood.1 (by assumption)).size
 refine .inr ⟨[(1, 5), (7, 33)], [.lsl 1 12 z], _, _, _, 1, _, cloneL_spec d.sectors[k] 12 z (by omega) (by omega), ⟨Or.inl rfl, trivial⟩, ⟨rfl, trivial⟩, ?_⟩
 have hgood1 := hgood.1 (by assumption)
 rw [if_pos ⟨hgood1, by assumption, by omega⟩] at hx
 obtain ⟨R, hR⟩ : ∃ R, R = contL n0 k d.sectors[k] (dataF d.sectors[k]) (d.sectors.drop (k + 1)) := ⟨_, rfl⟩
 rw [← hR] at hx
 have hdata : (d.sectors[k].drop 12).take z = dataF d.sectors[k] := by rw [hz]; unfold dataF; rfl
 rw [hdata]
 have hdl : (dataF d.sectors[k]).length = z := by rw [hz]; exact dataF_len hs (hz ▸ hz112)
 skip
 refine Wp.loop (fun (q : Nat × List UInt8) => ⟨[(0, .pure (.val (.func (.yield y.l) #[] #[]))), (1, .pure (.ptr [encS d.sectors, encWs d.pending, .int d.left, .bool d.stopped])), (3, .pure (.val (.int .u32 n0))), (4, .int q.1), (5, .loc 5 0 0), (6, .lsl 300 0 q.2.length), (70, .gh i false)],
     [(5, some (.row 1 ((d.sectors.getD q.1 []).map fun b => [.val (.int .u8 b.toNat)]))), (300, some (.row 1 (q.2.map fun b => [.val (.int .u8 b.toNat)])))], [5, 300]⟩)
   (fun q => k ≤ q.1 ∧ q.1 < d.sectors.length ∧ contL n0 q.1 (d.sectors.getD q.1 []) q.2 (d.sectors.drop (q.1 + 1)) = R ∧ q.2.length ≤ 112 * (q.1 + 1)) (fun q => d.sectors.length - q.1) (k, dataF d.sectors[k]) (Le.map [(300, 33)] ?_ ?_ rfl rfl rfl rfl) ⟨by omega, hk2, ?_, by dsimp only; omega⟩ ?_
 · (repeat' (first|exact trivial|refine aq ?_ ?_|exact oq|exact SubA.lsl ls|fail))
 · (repeat' (first|exact trivial|exact rfl|refine aq ?_ ?_|fail))
   all_goals exact rowEq (by simp [List.getD, hk2])
 · show contL n0 k (d.sectors.getD k []) (dataF d.sectors[k]) (d.sectors.drop (k + 1)) = R
   rw [hR]; simp [List.getD, hk2]
 rintro ⟨k', b⟩ ⟨hkk, hk3, hcont, hblen⟩
 dsimp only at hkk hk3 hcont hblen ⊢
 have hs' := h128 _ (List.getElem_mem hk3)
 have eg : d.sectors.getD k' [] = d.sectors[k'] := by simp [List.getD, hk3]
 rw [eg] at hcont ⊢
 obtain ⟨g', b1', b2', n0', z', hgood', hb1', hb2', hn0', hz', hn', p1, p2, p3, p4, p5⟩ := sector_specs _ hs' k'
 refine code_sound (more := more2 false _ _) more2_ok FOK.wide _ ?_
 skip
 refine .inl ⟨_, p3, ?_⟩
 repeat' ((try conv => whnf); first|(first|refine k3 ?_ ?_|refine k4 ?_ ?_) <;> intro hb <;> (try rw [lM] at hb) <;> try (exfalso; omega)|refine k5 (fun hb => ?_) fun hb => ?_|refine aq rfl ?_|refine s4 nm ?_|refine s5 nm nm ?_|refine aq bd ?_|fail)
 · have hcR : R = some (b, k', d.sectors.drop (k' + 1)) := hcont.symm.trans (contL_has (hb2' ▸ hb))
   rw [hcR] at hx
   simp only at hx
   have hget : (recs d.sectors)[i]? = some b := by
     have := congrArg (fun l => l[0]?) hx
     simpa using this
   have hlt : i < (recs d.sectors).length := (List.getElem?_eq_some_iff.1 hget).1
   have hdrop : (recs d.sectors).drop (i + 1) = recsL f n0 (k' + 1) (d.sectors.drop (k' + 1)) := by
     have := congrArg List.tail hx
     simpa using this
   refine needY (i := i) hxs (row := [encB b]) (by rw [List.getElem?_map, hget]; rfl) ⟨sub_sl (List.take_of_length_le (by simp)), trivial⟩ ?_
   repeat' ((try conv => whnf); first|refine Both.intro ?_ ?_|fail)
   · exact ⟨(k' + 1, n0, i + 1, f), Le.of (by (repeat' (first|exact trivial|refine aq ?_ ?_|exact oq|fail))) (by (repeat' (first|exact trivial|fail))) rfl rfl rfl, ⟨by dsimp only; omega, hdrop, by dsimp only; omega, by dsimp only; omega, hn⟩, by dsimp only; omega⟩
   · exact ⟨i + 1, true, rfl, fun h => by cases h⟩
 · have ek : d.sectors.drop (k' + 1) = [] := List.drop_eq_nil_of_le (by omega)
   rw [ek, contL_end (hb2' ▸ (by assumption))] at hcont
   rw [← hcont] at hx
   simp only at hx
   have := List.drop_eq_nil_iff.1 hx
   exact ⟨i, false, rfl, fun _ => by simp; omega⟩
 have hk4 : k' + 1 < d.sectors.length := by omega
 have hs2 := h128 _ (List.getElem_mem hk4)
 have edrop2 : d.sectors.drop (k' + 1) = d.sectors[k' + 1] :: d.sectors.drop (k' + 1 + 1) := by simp
 obtain ⟨g2, c1, c2, m0, z2, hgood2, hc1, hc2, hm0, hz2, hm, r1, r2, r3, r4, r5⟩ := sector_specs _ hs2 ((k' : Int) + 1)
 rw [edrop2] at hcont
 have stop : ¬ (GoodP d.sectors[k' + 1] (k' + 1 : Nat) ∧ c1 = false ∧ m0 = n0) → i = ((recs d.sectors).map fun b => [encB b]).length := fun h => by
   rw [contL_bad (hb2' ▸ (by assumption)) (by rw [← hc1, ← hm0]; exact h)] at hcont
   rw [← hcont] at hx
   simp only at hx
   have := List.drop_eq_nil_iff.1 hx
   simp; omega
 refine ⟨by simp [hs2], ?_⟩
 repeat' ((try conv => whnf); first|refine aq bd ?_|fail)
 refine ⟨congrArg some (show 128 = _ by simp [hs2]), ?_⟩
 repeat' ((try conv => whnf); first|refine .inr ⟨rfl, rfl, rfl, ?_⟩|fail)
 refine ⟨by rw [flat_len, List.length_map, hs2, hs'], onesB_flat _ _ (fun _ => rfl), congrArg some ((flat_len _ _).trans hs2).symm, _, singles_flat _ _, ?_⟩
 skip
 refine .inl ⟨_, r1, ?_⟩
 repeat' ((try conv => whnf); first|refine k5 (fun hb => ?_) fun hb => ?_|fail)
 rotate_left
 · exact ⟨i, false, rfl, fun _ => stop fun h => absurd ((hgood2.2 h.1).symm.trans hb) (by simp)⟩
 refine .inl ⟨_, r2, ?_⟩
 repeat' ((try conv => whnf); first|refine k6 (fun hb => ?_) fun hb => ?_|fail)
 · exact ⟨i, false, rfl, fun _ => stop fun h => absurd (h.2.1.symm.trans hb) (by simp)⟩
 refine .inl ⟨_, r4, ?_⟩
 repeat' ((try conv => whnf); first|(first|refine k3 ?_ ?_|refine k4 ?_ ?_) <;> intro hb <;> (try rw [lM] at hb) <;> try (exfalso; omega)|fail)
 rotate_left
 · exact ⟨i, false, rfl, fun _ => stop fun h => by omega⟩
 have hg2 := hgood2.1 (by assumption)
 have hz2' : z2 ≤ 112 := hz2 ▸ hg2.size
 have hd2 : (d.sectors[k' + 1].drop 12).take z2 = dataF d.sectors[k' + 1] := by rw [hz2]; unfold dataF; rfl
 have hd2l : (dataF d.sectors[k' + 1]).length = z2 := by rw [hz2]; exact dataF_len hs2 (hz2 ▸ hz2')
 rw [contL_next (hb2' ▸ (by assumption)) (by rw [← hc1, ← hm0]; exact ⟨hg2, by assumption, by omega⟩)] at hcont
 refine .inr ⟨[(1, 5)], [.loc 1 0 0], _, _, _, 1, _, r5 hz2', ⟨Or.inl rfl, trivial⟩, ⟨rfl, trivial⟩, ?_⟩
 repeat' ((try conv => whnf); first|refine aq bd ?_|fail)
 refine ⟨(k' + 1, b ++ dataF d.sectors[k' + 1]), Le.map [(300, 63)] ?_ ?_ rfl rfl rfl rfl, ⟨by dsimp only; omega, hk4, ?_, by simp only [List.length_append]; omega⟩, by dsimp only; omega⟩
 · (repeat' (first|exact trivial|refine aq ?_ ?_|exact oq|exact SubA.lsl ls|fail))
   all_goals (refine SubA.lsl ?_; simp [hs2, hd2l]; omega)
 · (repeat' (first|exact trivial|refine aq ?_ ?_|fail))
   all_goals first
     | (refine rowEq ?_; focus (simp [List.getD, hk4]; done))
     | (refine rowEq ?_; focus (rw [List.map_append, ← hd2, List.map_take, List.map_drop]; done))
 · show contL n0 (k' + 1) (d.sectors.getD (k' + 1) []) (b ++ dataF d.sectors[k' + 1]) (d.sectors.drop (k' + 1 + 1)) = R
   rw [← hcont]; simp [List.getD, hk4]
end Go.Proofs.Ytcgpikmaapallaa
/- Journals: Collect, Open. Conditions: none. -/
namespace Go.Proofs.Ytcgpikmaapallaa
open Go.Avc
attribute [local irreducible] PSub Wp PSpec Le Need Both
theorem appendSeq_spec (f : FuncId) (caps : List PV) (xs : List (List UInt8)) (hl : xs.length ≤ 1000000) (h : ISpec Try.prog f caps (xs.map fun b => [encB b])) : PSpec Try.prog 52 [.val (.slice none 0 0), .fn f caps] (encS xs) := by
 refine PSpec.of_vc (fun Γ => more2 false Γ.P Γ.fx) (fun Γ => more2_ok) Try.func52 rfl Try.call52 (by simp) ?_
 rintro ⟨P, N, w0, X, β0, fx, y, hy, pk, df⟩ rfl rfl rfl hoff rfl; change y.on = false at hoff
 skip
 refine Wp.rangeFunc h [(2, .loc 2 0 0), (4, .pure (.val (.slice none 0 0))), (6, .pure (.fn f caps))]
     (fun i => [(2, some (.box [.lsl 300 0 (xs.take i).length])), (300, some (.row 1 ((xs.take i).map fun b => [encB b])))]) (fun _ => [2, 300]) [2]
     (fun _ => True)
     (Le.trans (Le.virt (k := 300) (sz := 1) rfl rfl (by omega)) (Le.of ?_ ?_ rfl rfl rfl)) rfl hoff trivial rfl rfl (fun _ => rfl) rfl (fun i row hrow => ?_) ?_ ?_
 · (repeat' (first|exact trivial|refine aq ?_ ?_|exact oq|fail))
 · (repeat' (first|exact trivial|exact rfl|refine aq ?_ ?_|refine Exists.intro _ (aq rfl ?_)|exact l6 rfl|fail))
 · simp only [List.getElem?_map, Option.map_eq_some_iff] at hrow
   obtain ⟨w, _, rfl⟩ := hrow
   rfl
 · rintro ⟨P1, N1, w1, X1, β1, fx1, y1, hy1, pk1, df1⟩ rfl rfl rfl hoff1 rfl l k row hrow hok; change y1.on = false at hoff1
   have hk : k < xs.length := by have := (List.getElem?_eq_some_iff.1 hrow).1; simpa using this
   rw [List.getElem?_map, List.getElem?_eq_getElem hk] at hrow
   cases hrow
   have hlt : (xs.take k).length = k := by simp; omega
   refine code_sound (more := more2 false _ _) more2_ok (FOK.inRound _) _ ?_
   skip
   rintro ⟨P2, N2, w2, X2, β2, fx2, y2, hy2, pk2, df2⟩ rfl rfl rfl hoff2 rfl; change y2.on = false at hoff2
   refine code_sound (more := more2 false _ _) more2_ok (FOK.inRound _) _ ?_
   repeat' ((try conv => whnf); first|refine Both.intro ?_ ?_|refine aq rfl ?_|refine aq bd ?_|fail)
   · refine Le.map [(300, 11)] trivial ?_ rfl rfl rfl rfl
     (repeat' (first|exact trivial|refine aq ?_ ?_|refine Exists.intro _ (aq rfl ?_)|exact SubA.lsl ls|fail))
     all_goals first
       | (refine SubA.lsl ?_; focus (simp; omega))
       | (refine rowEq ?_; focus (rw [List.take_succ_eq_append_getElem hk, List.map_append]; rfl))
   · trivial
 · intro _
   skip
   refine sub_sl ?_
   simp [List.take_of_length_le]
theorem collect_spec (f : FuncId) (caps : List PV) (xs : List (List UInt8)) (hl : xs.length ≤ 1000000) (h : ISpec Try.prog f caps (xs.map fun b => [encB b])) : PSpec Try.prog 32 [.fn f caps] (encS xs) := by
 refine PSpec.of_vc (fun Γ => more2 false Γ.P Γ.fx) (fun Γ => more2_ok) Try.func32 rfl Try.call32 (by simp) ?_
 rintro ⟨P, N, w0, X, β0, fx, y, hy, pk, df⟩ rfl rfl rfl hoff rfl; change y.on = false at hoff
 skip
 refine .inl ⟨_, appendSeq_spec f caps xs hl h, ?_⟩
 repeat' ((try conv => whnf); first|refine aq rfl ?_|fail)
 exact PSub.refl _
theorem recordsF_spec (d : Disk) : PSpec Try.prog 33 [encD d] (.fn 53 [.ptr [encS d.sectors, encWs d.pending, .int d.left, .bool d.stopped]]) := by
 refine PSpec.of_vc (fun Γ => more2 false Γ.P Γ.fx) (fun Γ => more2_ok) Try.func33 rfl Try.call33 (by simp) ?_
 rintro ⟨P, N, w0, X, β0, fx, y, hy, pk, df⟩ rfl rfl rfl hoff rfl; change y.on = false at hoff
 skip
 exact PSub.refl _
structure Jour where
 records : List (List UInt8)
 many : Int
 synced : Int
 deriving DecidableEq
def encJ (j : Jour) : PV := .agg [encS j.records, .int j.many, .int j.synced]
def zeroJ : Jour := ⟨[], 0, 0⟩
def openJ (d : Disk) : Jour × Int := if d.check = 0 then (if d.stopped = true then (zeroJ, 470) else if 0 < d.pending.length then (zeroJ, 1) else (⟨recs d.sectors, d.sectors.length, (recs d.sectors).length⟩, 0)) else (zeroJ, d.check)
def encJE (r : Jour × Int) : PV := .tup [encJ r.1, .int r.2]
theorem recsL_len : ∀ (f gen k : Nat) (l : List (List UInt8)), (recsL f gen k l).length ≤ f
 | 0, gen, k, l => by simp [recsL]
 | f + 1, gen, k, [] => by simp [recsL]
 | f + 1, gen, k, s :: rest => by
   rw [recsL]
   split
   · split
     · simp
     · rename_i b k' rest' _
       rw [List.length_cons]; have := recsL_len f (four s 0) (k' + 1) rest'; omega
   · simp
theorem recs_len (ss : List (List UInt8)) : (recs ss).length ≤ ss.length := recsL_len _ _ _ _
theorem sub_je {x : PV} {e : Int} {r : Jour × Int} (h1 : PSub x (encJ r.1)) (h2 : e = r.2) : PSub (.tup [x, .val (.int .i64 e)]) (encJE r) := by
 subst h2; exact PSub.tup ⟨h1, PSub.refl _, trivial⟩
theorem sub_jz {e : Int} {r : Jour × Int} (h : r = (zeroJ, e)) : PSub (.tup [.agg [.val (.slice none 0 0), .val (.int .i64 0), .val (.int .i64 0)], .val (.int .i64 e)]) (encJE r) := by
 subst h; exact PSub.tup ⟨PSub.agg ⟨PSub.nil 1, PSub.refl _, PSub.refl _, trivial⟩, PSub.refl _, trivial⟩
theorem open_spec (d : Disk) : PSpec Try.prog 12 [encD d] (encJE (openJ d)) := by
 refine PSpec.of_vc (fun Γ => more2 false Γ.P Γ.fx) (fun Γ => more2_ok) Try.func12 rfl Try.call12 (by simp) ?_
 rintro ⟨P, N, w0, X, β0, fx, y, hy, pk, df⟩ rfl rfl rfl hoff rfl; change y.on = false at hoff
 skip
 refine .inl ⟨_, check_spec d, ?_⟩
 obtain ⟨C, hC⟩ : ∃ C, C = d.check := ⟨_, rfl⟩
 rw [← hC]
 by_cases hc : C = 0
 rotate_left
 · repeat' ((try conv => whnf); first|(first|refine k3 ?_ ?_|refine k4 ?_ ?_) <;> intro hb <;> (try rw [lM] at hb) <;> try (exfalso; omega)|refine aq rfl ?_|fail)
   exact sub_jz (by unfold openJ; rw [if_neg (by omega), hC])
 have hgood := good_of (hC.symm.trans hc)
 have hrl := recs_len d.sectors
 have hdl : d.sectors.length ≤ 4096 := by have := hgood.2.1; omega
 obtain ⟨RR, hRR⟩ : ∃ RR, RR = recs d.sectors := ⟨_, rfl⟩
 have hit := records1_spec d hdl hgood.2.2.2.2.2.1
 have hod : openJ d = (if d.stopped = true then (zeroJ, 470) else if 0 < d.pending.length then (zeroJ, 1) else (⟨RR, d.sectors.length, RR.length⟩, 0)) := by unfold openJ; rw [if_pos (by omega), hRR]
 rw [← hRR] at hit hrl
 rw [hod]
 repeat' ((try conv => whnf); first|(first|refine k3 ?_ ?_|refine k4 ?_ ?_) <;> intro hb <;> (try rw [lM] at hb) <;> try (exfalso; omega)|refine k6 (fun hb => ?_) fun hb => ?_|refine aq rfl ?_|fail)
 · exact sub_jz (by rw [if_pos (by assumption)])
 · exact sub_jz (by rw [if_neg (by simp_all), if_pos (by omega)])
 refine .inl ⟨_, recordsF_spec d, ?_⟩
 repeat' ((try conv => whnf); first|refine aq rfl ?_|fail)
 refine .inl ⟨_, collect_spec _ _ RR (by omega) hit, ?_⟩
 repeat' ((try conv => whnf); first|refine aq rfl ?_|fail)
 rw [if_neg (by simp_all), if_neg (by omega)]
 exact sub_je (PSub.agg ⟨PSub.refl _, PSub.of_eq (by simp), PSub.of_eq (by simp), trivial⟩) rfl
end Go.Proofs.Ytcgpikmaapallaa
