/- Journals: the reference's numbers and checksums. Conditions: none. -/
import Derived.Test.YtcgpikmaapallaaWd
import Derived.Test.YtcgpikmaapallaaWj
set_option linter.unusedSimpArgs false
set_option linter.unusedVariables false
set_option maxRecDepth 20000
set_option maxHeartbeats 4000000
namespace Go.Proofs.Ytcgpikmaapallaa
open Go.Avc
def numB (l : List UInt8) : Nat := l.foldl (fun n b => 256 * n + b.toNat) 0
theorem numB_take (l : List UInt8) {k : Nat} (h : k < l.length) : numB (l.take (k + 1)) = 256 * numB (l.take k) + l[k].toNat := by
 unfold numB
 rw [List.take_succ_eq_append_getElem h, List.foldl_append]
 rfl
theorem numB_lt (l : List UInt8) : ∀ k, k ≤ l.length → numB (l.take k) < 256 ^ k
 | 0, _ => by simp [numB]
 | k + 1, h => by
   rw [numB_take l (by omega), Nat.pow_succ]
   have := numB_lt l k (by omega)
   have := UInt8.toNat_lt (l[k]'(by omega))
   omega
attribute [local irreducible] PSub Wp PSpec Le Need Both
attribute [local irreducible] numB
theorem number_spec (l : List UInt8) (h : l.length ≤ 4) : PSpec Try.prog 59 [encB l] (.val (.int .u64 (numB l))) := by
 refine PSpec.of_vc (fun Γ => more2 false Γ.P Γ.fx) (fun Γ => more2_ok) Try.func59 rfl Try.call59 (by simp) ?_
 rintro ⟨P, N, w0, X, β0, fx, y, hy, pk, df⟩ rfl rfl rfl hoff rfl; change y.on = false at hoff
 skip
 refine Wp.loop (fun k : Nat => ⟨[(0, .pure (encB l)), (3, .pure (.val (.int .u64 (numB (l.take k))))), (4, .int k)], [], []⟩) (fun k => k ≤ l.length) (fun k => l.length - k) 0 (Le.of ?_ ?_ rfl rfl rfl) (by omega) ?_
 · (repeat' (first|exact trivial|refine aq ?_ ?_|exact oq|fail))
   all_goals (refine SubA.int ?_; unfold numB; rfl)
 · (repeat' (first|exact trivial|fail))
 intro k hk
 by_cases hk2 : k < l.length
 · have hn := numB_take l hk2
   have hb8 := UInt8.toNat_lt l[k]
   have hlt : numB (l.take k) < 16777216 := by
     have h1 := numB_lt l k (by omega)
     have h2 : 256 ^ k ≤ 256 ^ 3 := Nat.pow_le_pow_right (by decide) (by omega)
     omega
   refine code_sound (more := more2 false _ _) more2_ok FOK.wide _ ?_
   repeat' ((try conv => whnf); first|(first|refine k3 ?_ ?_|refine k4 ?_ ?_) <;> intro hb <;> (try rw [lM] at hb) <;> try (exfalso; omega)|fail)
   refine ⟨((256 * numB (l.take k) : Nat) : Int), by rw [wrap_u64]; omega, ?_⟩
   repeat' ((try conv => whnf); first|refine s3 ?_|refine s5 nm nm ?_|fail)
   refine ⟨((numB (l.take (k + 1)) : Nat) : Int), by rw [wrap_u64, hn]; omega, ?_⟩
   repeat' ((try conv => whnf); first|refine s4 nm ?_|fail)
   exact ⟨k + 1, Le.of (by (repeat' (first|exact trivial|refine aq ?_ ?_|exact oq|fail))) (by (repeat' (first|exact trivial|fail))) rfl rfl rfl, by omega, by omega⟩
 · have ek : k = l.length := by omega
   subst ek
   refine code_sound (more := more2 false _ _) more2_ok FOK.wide _ ?_
   repeat' ((try conv => whnf); first|(first|refine k3 ?_ ?_|refine k4 ?_ ?_) <;> intro hb <;> (try rw [lM] at hb) <;> try (exfalso; omega)|fail)
   exact PSub.of_eq (by rw [List.take_length])
end Go.Proofs.Ytcgpikmaapallaa
/- Journals: the reference's checksum. Conditions: none. -/
namespace Go.Proofs.Ytcgpikmaapallaa
open Go.Avc
theorem tm2 (x : Nat) : (x : Int).tmod 2 = ((x % 2 : Nat) : Int) := by
 rw [Int.tmod_eq_emod_of_nonneg (by omega)]; omega
attribute [local irreducible] PSub Wp PSpec Le Need Both
attribute [local irreducible] crcIt crcB crcN crc1
theorem rchecksum_spec (L : List UInt8) (hL : L.length ≤ 1000000) : PSpec Try.prog 63 [encB L] (.val (.int .u32 (crc L))) := by
 refine PSpec.of_vc (fun Γ => more2 false Γ.P Γ.fx) (fun Γ => more2_ok) Try.func63 rfl Try.call63 (by simp) ?_
 rintro ⟨P, N, w0, X, β0, fx, y, hy, pk, df⟩ rfl rfl rfl hoff rfl; change y.on = false at hoff
 skip
 refine Wp.loop (fun k : Nat => ⟨[(3, .pure (.val (.int .u32 (crcN (L.take k))))), (0, .pure (encB L)), (4, .int k)], [], []⟩) (fun k => k ≤ L.length) (fun k => L.length - k) 0 (Le.of ?_ ?_ rfl rfl rfl) (by omega) ?_
 · (repeat' (first|exact trivial|refine aq ?_ ?_|exact oq|fail))
   all_goals first
     | (refine SubA.sl ?_; simp [cut, body, List.map_take, List.map_drop]; done)
     | (refine SubA.int ?_; simp [cut, hs]; done)
     | (refine SubA.int ?_; simp [crcN]; done)
 · (repeat' (first|exact trivial|fail))
 intro k hk
 have hm := crcN_lt (L.take k)
 by_cases hk2 : k < L.length
 · have hx : crcN (L.take k) ^^^ (L[k]'(by omega)).toNat < 4294967296 := Nat.xor_lt_two_pow (n := 32) hm (by have := UInt8.toNat_lt (L[k]'(by omega)); omega)
   have hb8 := UInt8.toNat_lt (L[k]'(by omega))
   have hnext := crcN_take L (k := k) (by omega)
   refine code_sound (more := more2 false _ _) more2_ok FOK.wide _ ?_
   repeat' ((try conv => whnf); first|(first|refine k3 ?_ ?_|refine k4 ?_ ?_) <;> intro hb <;> (try rw [lM] at hb) <;> try (exfalso; omega)|refine s2 ?_|refine s5 nm nm ?_|fail)
   refine ⟨_, xor_u32 hm (by omega), ?_⟩
   skip
   refine Wp.loop (fun j : Nat => ⟨[(3, .pure (.val (.int .u32 (crcIt j (crcN (L.take k) ^^^ (L[k]'(by omega)).toNat))))), (0, .pure (encB L)), (4, .int k), (5, .int j)], [], []⟩) (fun j => j ≤ 8) (fun j => 8 - j) 0 (Le.of ?_ ?_ rfl rfl rfl) (by omega) ?_
   · (repeat' (first|exact trivial|refine aq ?_ ?_|exact oq|fail))
     all_goals (refine SubA.int ?_; simp [crcIt]; done)
   · (repeat' (first|exact trivial|fail))
   intro j hj
   have hj2 := crcIt_lt hx j
   by_cases hj3 : j < 8
   · refine code_sound (more := more2 false _ _) more2_ok FOK.wide _ ?_
     repeat' ((try conv => whnf); first|(first|refine k3 ?_ ?_|refine k4 ?_ ?_) <;> intro hb <;> (try rw [lM] at hb) <;> try (exfalso; omega)|refine aq bd ?_|fail)
     refine ⟨_, tm2 _, ?_⟩
     repeat' ((try conv => whnf); first|(first|refine k3 ?_ ?_|refine k4 ?_ ?_) <;> intro hb <;> (try rw [lM] at hb) <;> try (exfalso; omega)|refine aq bd ?_|fail)
     · have hb2 : crcIt j (crcN (L.take k) ^^^ (L[k]'(by omega)).toNat) % 2 = 1 := by omega
       refine ⟨_, shr1_u32 _, ?_⟩
       skip
       refine ⟨_, xor_u32 (by omega) (by decide), ?_⟩
       repeat' ((try conv => whnf); first|refine s4 nm ?_|fail)
       refine ⟨j + 1, Le.of ?_ (by (repeat' (first|exact trivial|fail))) rfl rfl rfl, by omega, by omega⟩
       (repeat' (first|exact trivial|refine aq ?_ ?_|exact oq|fail))
       all_goals (refine SubA.int ?_; rw [crcIt, crc1, if_pos hb2]; done)
     · have hb2 : ¬ crcIt j (crcN (L.take k) ^^^ (L[k]'(by omega)).toNat) % 2 = 1 := by omega
       refine ⟨_, shr1_u32 _, ?_⟩
       repeat' ((try conv => whnf); first|refine s4 nm ?_|fail)
       refine ⟨j + 1, Le.of ?_ (by (repeat' (first|exact trivial|fail))) rfl rfl rfl, by omega, by omega⟩
       (repeat' (first|exact trivial|refine aq ?_ ?_|exact oq|fail))
       all_goals (refine SubA.int ?_; rw [crcIt, crc1, if_neg hb2]; done)
   · have ej : j = 8 := by omega
     subst ej
     refine code_sound (more := more2 false _ _) more2_ok FOK.wide _ ?_
     repeat' ((try conv => whnf); first|refine s4 nm ?_|fail)
     refine ⟨k + 1, Le.of ?_ (by (repeat' (first|exact trivial|fail))) rfl rfl rfl, by omega, by omega⟩
     (repeat' (first|exact trivial|refine aq ?_ ?_|exact oq|fail))
     all_goals (refine SubA.int ?_; rw [hnext, crcB]; done)
 · have ek : k = L.length := by omega
   subst ek
   refine code_sound (more := more2 false _ _) more2_ok FOK.wide _ ?_
   repeat' ((try conv => whnf); first|(first|refine k3 ?_ ?_|refine k4 ?_ ?_) <;> intro hb <;> (try rw [lM] at hb) <;> try (exfalso; omega)|fail)
   refine ⟨_, xor_u32 hm (b := 4294967295) (by decide), ?_⟩
   skip
   refine PSub.of_eq ?_
   rw [List.take_of_length_le (by omega), Nat.xor_comm]
   rfl
end Go.Proofs.Ytcgpikmaapallaa
/- Journals: the reference's good. Conditions: none. -/
namespace Go.Proofs.Ytcgpikmaapallaa
open Go.Avc
theorem take4e (s : List UInt8) (a : Nat) (h : a + 4 ≤ s.length) : (s.drop a).take 4 = [s.getD a 0, s.getD (a + 1) 0, s.getD (a + 2) 0, s.getD (a + 3) 0] := by
 apply List.ext_getElem?
 intro i
 by_cases hi : i < 4
 · rw [List.getElem?_take, if_pos hi, List.getElem?_drop, List.getElem?_eq_getElem (by omega)]
   match i, hi with
   | 0, _ => simp [List.getD, show a < s.length by omega]
   | 1, _ => simp [List.getD, show a + 1 < s.length by omega]
   | 2, _ => simp [List.getD, show a + 2 < s.length by omega]
   | 3, _ => simp [List.getD, show a + 3 < s.length by omega]
 · rw [List.getElem?_eq_none (by simp; omega), List.getElem?_eq_none (by simp; omega)]
theorem numB_four (s : List UInt8) (a : Nat) (h : a + 4 ≤ s.length) : numB ((s.drop a).take 4) = four s a := by
 rw [take4e s a h]
 simp only [numB, List.foldl_cons, List.foldl_nil, four]
 omega
theorem numB_two (s : List UInt8) (a : Nat) (h : a + 2 ≤ s.length) : numB ((s.drop a).take 2) = (s.getD a 0).toNat * 256 + (s.getD (a + 1) 0).toNat := by
 have e : (s.drop a).take 2 = [s.getD a 0, s.getD (a + 1) 0] := by
   apply List.ext_getElem?
   intro i
   by_cases hi : i < 2
   · rw [List.getElem?_take, if_pos hi, List.getElem?_drop, List.getElem?_eq_getElem (by omega)]
     match i, hi with
     | 0, _ => simp [List.getD, show a < s.length by omega]
     | 1, _ => simp [List.getD, show a + 1 < s.length by omega]
   · rw [List.getElem?_eq_none (by simp; omega), List.getElem?_eq_none (by simp; omega)]
 rw [e]
 simp only [numB, List.foldl_cons, List.foldl_nil]
 omega
end Go.Proofs.Ytcgpikmaapallaa
/- Journals: the reference's good is walked. Conditions: none. -/
namespace Go.Proofs.Ytcgpikmaapallaa
open Go.Avc
theorem crc_lt2 (l : List UInt8) : crc l < 4294967296 := by unfold crc; exact Nat.xor_lt_two_pow (n := 32) (by decide) (crcN_lt _)
theorem tm2u (b : UInt8) : ((b.toNat : Int)).tmod 2 = ((b.toNat % 2 : Nat) : Int) := tm2 _
theorem u8_cases {b : UInt8} (h : b.toNat ≤ 3) : b = 0 ∨ b = 1 ∨ b = 2 ∨ b = 3 := by
 have h4 : b.toNat = 0 ∨ b.toNat = 1 ∨ b.toNat = 2 ∨ b.toNat = 3 := by omega
 rcases h4 with h | h | h | h
 · exact .inl (UInt8.toNat_inj.1 h)
 · exact .inr (.inl (UInt8.toNat_inj.1 h))
 · exact .inr (.inr (.inl (UInt8.toNat_inj.1 h)))
 · exact .inr (.inr (.inr (UInt8.toNat_inj.1 h)))
theorem has1_iff {s : List UInt8} (h : (s.getD 10 0).toNat ≤ 3) : (hasF s 1 = true ↔ (s.getD 10 0).toNat % 2 = 1) := by
 unfold hasF
 rcases u8_cases h with h | h | h | h <;> rw [h] <;> decide
theorem has2_iff {s : List UInt8} (h : (s.getD 10 0).toNat ≤ 3) : (hasF s 2 = true ↔ 2 ≤ (s.getD 10 0).toNat) := by
 unfold hasF
 rcases u8_cases h with h | h | h | h <;> rw [h] <;> decide
attribute [local irreducible] PSub Wp PSpec Le Need Both
attribute [local irreducible] four numB crc body
theorem numAt_spec (s : List UInt8) (a : Nat) (h : a + 4 ≤ s.length) {x : List (List PV)} (hx : x = ((s.drop a).take 4).map fun b => [PV.val (.int .u8 b.toNat)]) : PSpec Try.prog 59 [.sl 1 x] (.val (.int .u64 (four s a))) := by
 subst hx; rw [← numB_four s a h]; exact number_spec _ (by simp; omega)
theorem numTwo_spec (s : List UInt8) (h : 10 ≤ s.length) {x : List (List PV)} (hx : x = ((s.drop 8).take 2).map fun b => [PV.val (.int .u8 b.toNat)]) : PSpec Try.prog 59 [.sl 1 x] (.val (.int .u64 (numF s))) := by
 subst hx; unfold numF; rw [← numB_two s 8 (by omega)]; exact number_spec _ (by simp; omega)
theorem sumAt_spec (s : List UInt8) (h : s.length = 128) {x : List (List PV)} (hx : x = (body s).map fun b => [PV.val (.int .u8 b.toNat)]) : PSpec Try.prog 63 [.sl 1 x] (.val (.int .u32 (crc (body s)))) := by
 subst hx; exact rchecksum_spec _ (by rw [body_len h]; omega)
theorem rgood_spec (s : List UInt8) (hs : s.length = 128) (k : Nat) (hk : k ≤ 1000000) : PSpec Try.prog 64 [encB s, .int k] (.bool (decide (GoodP s k))) := by
 obtain ⟨G, hG⟩ : ∃ G : Bool, G = decide (GoodP s k) := ⟨_, rfl⟩
 rw [← hG]
 have hG : G = true ↔ GoodP s k := by rw [hG]; exact decide_eq_true_iff
 have z11 := UInt8.toNat_lt (s.getD 11 0)
 have z10 := UInt8.toNat_lt (s.getD 10 0)
 have e10 : s[Int.toNat 10]'(by simp; omega) = s.getD 10 0 := get_at s _
 have e11 : s[Int.toNat 11]'(by simp; omega) = s.getD 11 0 := get_at s _
 have h1 := has1_iff (s := s)
 have h2 := has2_iff (s := s)
 have hsz : sizeF s = (s.getD 11 0).toNat := rfl
 have q0 := fun x hx => numAt_spec s 0 (by omega) (x := x) hx
 have q4 := fun x hx => numAt_spec s 4 (by omega) (x := x) hx
 have q124 := fun x hx => numAt_spec s 124 (by omega) (x := x) hx
 have q8 := fun x hx => numTwo_spec s (by omega) (x := x) hx
 have qc := fun x hx => sumAt_spec s hs (x := x) hx
 have c0 : cut (s.map fun b => [PV.val (.int .u8 b.toNat)]) 0 (Int.toNat 4) = ((s.drop 0).take 4).map fun b => [PV.val (.int .u8 b.toNat)] := by simp [cut, List.map_take]
 have c124 : cut (s.map fun b => [PV.val (.int .u8 b.toNat)]) (Int.toNat 124) s.length = ((s.drop 124).take 4).map fun b => [PV.val (.int .u8 b.toNat)] := by simp [cut, List.map_take, List.map_drop, hs]
 have c4 : cut (s.map fun b => [PV.val (.int .u8 b.toNat)]) (Int.toNat 4) (Int.toNat 8) = ((s.drop 4).take 4).map fun b => [PV.val (.int .u8 b.toNat)] := by simp [cut, List.map_take, List.map_drop]
 have c8 : cut (s.map fun b => [PV.val (.int .u8 b.toNat)]) (Int.toNat 8) (Int.toNat 10) = ((s.drop 8).take 2).map fun b => [PV.val (.int .u8 b.toNat)] := by simp [cut, List.map_take, List.map_drop]
 have cb : cut (s.map fun b => [PV.val (.int .u8 b.toNat)]) (Int.toNat 8) (Int.toNat 124) = (body s).map fun b => [PV.val (.int .u8 b.toNat)] := by unfold body; simp [cut, List.map_take, List.map_drop]
 have l0 := four_lt s 0
 have l4 := four_lt s 4
 have lc := crc_lt2 (body s)
 unfold GoodP at hG
 obtain ⟨n0, hn0⟩ : ∃ n, n = four s 0 := ⟨_, rfl⟩
 obtain ⟨n4, hn4⟩ : ∃ n, n = four s 4 := ⟨_, rfl⟩
 obtain ⟨n124, hn124⟩ : ∃ n, n = four s 124 := ⟨_, rfl⟩
 obtain ⟨nc, hnc⟩ : ∃ n, n = crc (body s) := ⟨_, rfl⟩
 obtain ⟨nf, hnf⟩ : ∃ n, n = numF s := ⟨_, rfl⟩
 obtain ⟨b1, hb1⟩ : ∃ n, n = hasF s 1 := ⟨_, rfl⟩
 obtain ⟨b2, hb2⟩ : ∃ n, n = hasF s 2 := ⟨_, rfl⟩
 simp only [← hn0, ← hn4, ← hn124, ← hnc, ← hnf, ← hb1, ← hb2] at q0 q4 q124 q8 qc hG l0 l4 lc h1 h2
 clear hn0 hn4 hn124 hnc hb1 hb2
 have hcF : (s.getD 10 0).toNat ≤ 3 → ((s.getD 10 0).toNat < 2 → (s.getD 11 0).toNat = 112) → ((s.getD 10 0).toNat % 2 = 0 → (s.getD 11 0).toNat ≠ 0) → (b2 = false → sizeF s = 112) ∧ (b1 = false → 1 ≤ sizeF s) := fun a1 a2 a3 => by
   have h10 := h1 a1
   have h20 := h2 a1
   rw [hsz]
   refine ⟨fun h => ?_, fun h => ?_⟩
   · have : ¬ b2 = true := by rw [h]; simp
     exact a2 (by rcases Nat.lt_or_ge (s.getD 10 0).toNat 2 with h' | h'; exact h'; exact absurd (h20.2 h') this)
   · have : ¬ b1 = true := by rw [h]; simp
     have := a3 (by rcases Nat.mod_two_eq_zero_or_one (s.getD 10 0).toNat with h' | h'; exact h'; exact absurd (h10.2 h') this)
     omega
 have bad : ¬ (n0 ≠ 0 ∧ n0 = n124 ∧ (nf : Int) = k ∧ (s.getD 10 0).toNat ≤ 3 ∧ sizeF s ≤ 112 ∧ (b2 = false → sizeF s = 112) ∧ (b1 = false → 1 ≤ sizeF s) ∧
     (∀ b ∈ (s.drop (12 + sizeF s)).take (112 - sizeF s), b = 0) ∧ n4 = nc) → PSub (PV.val (Value.bool false)) (PV.bool G) := fun h => PSub.val_bool (by cases hGG : G with | false => rfl | true => exact absurd (hG.1 hGG) h)
 refine PSpec.of_vc (fun Γ => more2 false Γ.P Γ.fx) (fun Γ => more2_ok) Try.func64 rfl Try.call64 (by simp) ?_
 rintro ⟨P, N, w0, X, β0, fx, y, hy, pk, df⟩ rfl rfl rfl hoff rfl; change y.on = false at hoff
 repeat' ((try conv => whnf); first|refine s1 ?_|refine s5 nm nm ?_|fail)
 refine Wp.draw (more := more2 true _ _) more2_det more2_ok FOK.wide rfl (by decide +kernel) (by conv => lhs; reduce) ?_
 repeat' ((try conv => whnf); first|refine aq bd ?_|fail)
 refine ⟨_, q0 _ c0, ?_⟩
 repeat' ((try conv => whnf); first|(first|refine k3 ?_ ?_|refine k4 ?_ ?_) <;> intro hb <;> (try rw [lM] at hb) <;> try (exfalso; omega)|refine aq bd ?_|fail)
 · exact bad fun h => h.1 (by omega)
 refine ⟨_, q0 _ c0, ?_⟩
 repeat' ((try conv => whnf); first|refine aq bd ?_|fail)
 refine ⟨_, q124 _ (by rw [List.length_map]; exact c124), ?_⟩
 repeat' ((try conv => whnf); first|(first|refine k3 ?_ ?_|refine k4 ?_ ?_) <;> intro hb <;> (try rw [lM] at hb) <;> try (exfalso; omega)|refine aq bd ?_|fail)
 rotate_left
 · exact bad fun h => by omega
 refine ⟨_, q4 _ c4, ?_⟩
 skip
 refine ⟨(n4 : Int), by rw [IntKind.wrap_u32]; omega, ?_⟩
 repeat' ((try conv => whnf); first|refine aq bd ?_|fail)
 refine ⟨_, qc _ cb, ?_⟩
 repeat' ((try conv => whnf); first|(first|refine k3 ?_ ?_|refine k4 ?_ ?_) <;> intro hb <;> (try rw [lM] at hb) <;> try (exfalso; omega)|refine aq bd ?_|fail)
 rotate_left
 · exact bad fun h => by omega
 refine ⟨_, q8 _ c8, ?_⟩
 skip
 refine ⟨(k : Int), by rw [wrap_u64]; omega, ?_⟩
 repeat' ((try conv => whnf); first|(first|refine k3 ?_ ?_|refine k4 ?_ ?_) <;> intro hb <;> (try rw [lM] at hb) <;> try (exfalso; omega)|refine s5 nm nm ?_|refine aq bd ?_|fail)
 · exact bad fun h => by have h3 := h.2.2.2.1; rw [get_at] at hb; have hb' : (3 : Int) < ((s.getD 10 0).toNat : Int) := hb; omega
 · exact bad fun h => by have h3 := h.2.2.2.2.1; rw [get_at] at hb; have hb' : (112 : Int) < ((s.getD 11 0).toNat : Int) := hb; omega
 · refine ⟨_, tm2u _, ?_⟩
   repeat' ((try conv => whnf); first|(first|refine k3 ?_ ?_|refine k4 ?_ ?_) <;> intro hb <;> (try rw [lM] at hb) <;> try (exfalso; omega)|refine s4 nm ?_|fail)
   · have hc := hcF (by simp only [get_at] at *; omega) (fun _ => by simp only [get_at] at *; omega) (fun _ => by simp only [get_at] at *; omega)
     have hz11 : (s.getD 11 0).toNat = sizeF s := rfl
     refine Wp.loop (fun i : Nat => ⟨[(0, .pure (encB s)), (6, .int (12 + sizeF s + i : Nat))], [], []⟩)
       (fun i => i ≤ 112 - sizeF s ∧ ∀ b ∈ ((s.drop (12 + sizeF s)).take (112 - sizeF s)).take i, b = 0) (fun i => 112 - sizeF s - i) 0 (Le.of ?_ ?_ rfl rfl rfl) ⟨by omega, by simp⟩ ?_
     · (repeat' (first|exact trivial|refine aq ?_ ?_|exact oq|fail))
       all_goals simp only [get_at]
       all_goals (refine SubA.int ?_; omega)
     · (repeat' (first|exact trivial|fail))
     rintro i ⟨hi, hz⟩
     have hsz2 : sizeF s ≤ 112 := by simp only [get_at] at *; rw [hsz]; omega
     have hZ : ((s.drop (12 + sizeF s)).take (112 - sizeF s)).length = 112 - sizeF s := by simp [hs]; omega
     by_cases hi2 : i < 112 - sizeF s
     · have hget : s[12 + sizeF s + i]'(by omega) = ((s.drop (12 + sizeF s)).take (112 - sizeF s))[i]'(by omega) := by simp
       refine code_sound (more := more2 false _ _) more2_ok FOK.wide _ ?_
       repeat' ((try conv => whnf); first|(first|refine k3 ?_ ?_|refine k4 ?_ ?_) <;> intro hb <;> (try rw [lM] at hb) <;> try (exfalso; omega)|refine s4 nm ?_|refine s5 nm nm ?_|fail)
       · refine ⟨i + 1, Le.of (by (repeat' (first|exact trivial|refine aq ?_ ?_|exact oq|fail))) (by (repeat' (first|exact trivial|fail))) rfl rfl rfl, ⟨by omega, take_all hz (by omega) (UInt8.toNat_inj.1 ?_)⟩, by omega⟩
         rw [← hget]
         have hb0 := hb
         try simp only [Int.toNat_natCast] at hb0
         simp only [UInt8.toNat_zero]
         omega
       · refine bad fun h => hb ?_
         have := h.2.2.2.2.2.2.2.1 _ (List.getElem_mem (show i < ((s.drop (12 + sizeF s)).take (112 - sizeF s)).length by omega))
         try simp only [Int.toNat_natCast]
         rw [hget, this]; rfl
     · have ei : i = 112 - sizeF s := by omega
       subst ei
       rw [List.take_of_length_le (by omega)] at hz
       refine code_sound (more := more2 false _ _) more2_ok FOK.wide _ ?_
       repeat' ((try conv => whnf); first|(first|refine k3 ?_ ?_|refine k4 ?_ ?_) <;> intro hb <;> (try rw [lM] at hb) <;> try (exfalso; omega)|fail)
       refine PSub.val_bool (hG.2 ⟨by omega, by omega, by omega, ?_, hsz2, hc.1, hc.2, hz, by omega⟩).symm
       simp only [get_at] at *
       omega
   · have hc := hcF (by simp only [get_at] at *; omega) (fun _ => by simp only [get_at] at *; omega) (fun _ => by simp only [get_at] at *; omega)
     have hz11 : (s.getD 11 0).toNat = sizeF s := rfl
     refine Wp.loop (fun i : Nat => ⟨[(0, .pure (encB s)), (6, .int (12 + sizeF s + i : Nat))], [], []⟩)
       (fun i => i ≤ 112 - sizeF s ∧ ∀ b ∈ ((s.drop (12 + sizeF s)).take (112 - sizeF s)).take i, b = 0) (fun i => 112 - sizeF s - i) 0 (Le.of ?_ ?_ rfl rfl rfl) ⟨by omega, by simp⟩ ?_
     · (repeat' (first|exact trivial|refine aq ?_ ?_|exact oq|fail))
       all_goals simp only [get_at]
       all_goals (refine SubA.int ?_; omega)
     · (repeat' (first|exact trivial|fail))
     rintro i ⟨hi, hz⟩
     have hsz2 : sizeF s ≤ 112 := by simp only [get_at] at *; rw [hsz]; omega
     have hZ : ((s.drop (12 + sizeF s)).take (112 - sizeF s)).length = 112 - sizeF s := by simp [hs]; omega
     by_cases hi2 : i < 112 - sizeF s
     · have hget : s[12 + sizeF s + i]'(by omega) = ((s.drop (12 + sizeF s)).take (112 - sizeF s))[i]'(by omega) := by simp
       refine code_sound (more := more2 false _ _) more2_ok FOK.wide _ ?_
       repeat' ((try conv => whnf); first|(first|refine k3 ?_ ?_|refine k4 ?_ ?_) <;> intro hb <;> (try rw [lM] at hb) <;> try (exfalso; omega)|refine s4 nm ?_|refine s5 nm nm ?_|fail)
       · refine ⟨i + 1, Le.of (by (repeat' (first|exact trivial|refine aq ?_ ?_|exact oq|fail))) (by (repeat' (first|exact trivial|fail))) rfl rfl rfl, ⟨by omega, take_all hz (by omega) (UInt8.toNat_inj.1 ?_)⟩, by omega⟩
         rw [← hget]
         have hb0 := hb
         try simp only [Int.toNat_natCast] at hb0
         simp only [UInt8.toNat_zero]
         omega
       · refine bad fun h => hb ?_
         have := h.2.2.2.2.2.2.2.1 _ (List.getElem_mem (show i < ((s.drop (12 + sizeF s)).take (112 - sizeF s)).length by omega))
         try simp only [Int.toNat_natCast]
         rw [hget, this]; rfl
     · have ei : i = 112 - sizeF s := by omega
       subst ei
       rw [List.take_of_length_le (by omega)] at hz
       refine code_sound (more := more2 false _ _) more2_ok FOK.wide _ ?_
       repeat' ((try conv => whnf); first|(first|refine k3 ?_ ?_|refine k4 ?_ ?_) <;> intro hb <;> (try rw [lM] at hb) <;> try (exfalso; omega)|fail)
       refine PSub.val_bool (hG.2 ⟨by omega, by omega, by omega, ?_, hsz2, hc.1, hc.2, hz, by omega⟩).symm
       simp only [get_at] at *
       omega
 · exact bad fun h => by
     have h10 := h.2.2.2.1
     have h6 := h.2.2.2.2.2.1
     have h22 := h2 h10
     simp only [get_at] at *
     cases hb2 : b2 with
     | false => have := h6 hb2; rw [hsz] at this; omega
     | true => have := h22.1 hb2; omega
 · refine ⟨_, tm2u _, ?_⟩
   repeat' ((try conv => whnf); first|(first|refine k3 ?_ ?_|refine k4 ?_ ?_) <;> intro hb <;> (try rw [lM] at hb) <;> try (exfalso; omega)|refine s4 nm ?_|fail)
   · exact bad fun h => by
       have h10 := h.2.2.2.1
       have h7 := h.2.2.2.2.2.2.1
       have h11 := h1 h10
       simp only [get_at] at *
       cases hb1 : b1 with
       | false => have := h7 hb1; rw [hsz] at this; omega
       | true => have := h11.1 hb1; omega
   · have hc := hcF (by simp only [get_at] at *; omega) (fun _ => by simp only [get_at] at *; omega) (fun _ => by simp only [get_at] at *; omega)
     have hz11 : (s.getD 11 0).toNat = sizeF s := rfl
     refine Wp.loop (fun i : Nat => ⟨[(0, .pure (encB s)), (6, .int (12 + sizeF s + i : Nat))], [], []⟩)
       (fun i => i ≤ 112 - sizeF s ∧ ∀ b ∈ ((s.drop (12 + sizeF s)).take (112 - sizeF s)).take i, b = 0) (fun i => 112 - sizeF s - i) 0 (Le.of ?_ ?_ rfl rfl rfl) ⟨by omega, by simp⟩ ?_
     · (repeat' (first|exact trivial|refine aq ?_ ?_|exact oq|fail))
       all_goals simp only [get_at]
       all_goals (refine SubA.int ?_; omega)
     · (repeat' (first|exact trivial|fail))
     rintro i ⟨hi, hz⟩
     have hsz2 : sizeF s ≤ 112 := by simp only [get_at] at *; rw [hsz]; omega
     have hZ : ((s.drop (12 + sizeF s)).take (112 - sizeF s)).length = 112 - sizeF s := by simp [hs]; omega
     by_cases hi2 : i < 112 - sizeF s
     · have hget : s[12 + sizeF s + i]'(by omega) = ((s.drop (12 + sizeF s)).take (112 - sizeF s))[i]'(by omega) := by simp
       refine code_sound (more := more2 false _ _) more2_ok FOK.wide _ ?_
       repeat' ((try conv => whnf); first|(first|refine k3 ?_ ?_|refine k4 ?_ ?_) <;> intro hb <;> (try rw [lM] at hb) <;> try (exfalso; omega)|refine s4 nm ?_|refine s5 nm nm ?_|fail)
       · refine ⟨i + 1, Le.of (by (repeat' (first|exact trivial|refine aq ?_ ?_|exact oq|fail))) (by (repeat' (first|exact trivial|fail))) rfl rfl rfl, ⟨by omega, take_all hz (by omega) (UInt8.toNat_inj.1 ?_)⟩, by omega⟩
         rw [← hget]
         have hb0 := hb
         try simp only [Int.toNat_natCast] at hb0
         simp only [UInt8.toNat_zero]
         omega
       · refine bad fun h => hb ?_
         have := h.2.2.2.2.2.2.2.1 _ (List.getElem_mem (show i < ((s.drop (12 + sizeF s)).take (112 - sizeF s)).length by omega))
         try simp only [Int.toNat_natCast]
         rw [hget, this]; rfl
     · have ei : i = 112 - sizeF s := by omega
       subst ei
       rw [List.take_of_length_le (by omega)] at hz
       refine code_sound (more := more2 false _ _) more2_ok FOK.wide _ ?_
       repeat' ((try conv => whnf); first|(first|refine k3 ?_ ?_|refine k4 ?_ ?_) <;> intro hb <;> (try rw [lM] at hb) <;> try (exfalso; omega)|fail)
       refine PSub.val_bool (hG.2 ⟨by omega, by omega, by omega, ?_, hsz2, hc.1, hc.2, hz, by omega⟩).symm
       simp only [get_at] at *
       omega
   · have hc := hcF (by simp only [get_at] at *; omega) (fun _ => by simp only [get_at] at *; omega) (fun _ => by simp only [get_at] at *; omega)
     have hz11 : (s.getD 11 0).toNat = sizeF s := rfl
     refine Wp.loop (fun i : Nat => ⟨[(0, .pure (encB s)), (6, .int (12 + sizeF s + i : Nat))], [], []⟩)
       (fun i => i ≤ 112 - sizeF s ∧ ∀ b ∈ ((s.drop (12 + sizeF s)).take (112 - sizeF s)).take i, b = 0) (fun i => 112 - sizeF s - i) 0 (Le.of ?_ ?_ rfl rfl rfl) ⟨by omega, by simp⟩ ?_
     · (repeat' (first|exact trivial|refine aq ?_ ?_|exact oq|fail))
       all_goals simp only [get_at]
       all_goals (refine SubA.int ?_; omega)
     · (repeat' (first|exact trivial|fail))
     rintro i ⟨hi, hz⟩
     have hsz2 : sizeF s ≤ 112 := by simp only [get_at] at *; rw [hsz]; omega
     have hZ : ((s.drop (12 + sizeF s)).take (112 - sizeF s)).length = 112 - sizeF s := by simp [hs]; omega
     by_cases hi2 : i < 112 - sizeF s
     · have hget : s[12 + sizeF s + i]'(by omega) = ((s.drop (12 + sizeF s)).take (112 - sizeF s))[i]'(by omega) := by simp
       refine code_sound (more := more2 false _ _) more2_ok FOK.wide _ ?_
       repeat' ((try conv => whnf); first|(first|refine k3 ?_ ?_|refine k4 ?_ ?_) <;> intro hb <;> (try rw [lM] at hb) <;> try (exfalso; omega)|refine s4 nm ?_|refine s5 nm nm ?_|fail)
       · refine ⟨i + 1, Le.of (by (repeat' (first|exact trivial|refine aq ?_ ?_|exact oq|fail))) (by (repeat' (first|exact trivial|fail))) rfl rfl rfl, ⟨by omega, take_all hz (by omega) (UInt8.toNat_inj.1 ?_)⟩, by omega⟩
         rw [← hget]
         have hb0 := hb
         try simp only [Int.toNat_natCast] at hb0
         simp only [UInt8.toNat_zero]
         omega
       · refine bad fun h => hb ?_
         have := h.2.2.2.2.2.2.2.1 _ (List.getElem_mem (show i < ((s.drop (12 + sizeF s)).take (112 - sizeF s)).length by omega))
         try simp only [Int.toNat_natCast]
         rw [hget, this]; rfl
     · have ei : i = 112 - sizeF s := by omega
       subst ei
       rw [List.take_of_length_le (by omega)] at hz
       refine code_sound (more := more2 false _ _) more2_ok FOK.wide _ ?_
       repeat' ((try conv => whnf); first|(first|refine k3 ?_ ?_|refine k4 ?_ ?_) <;> intro hb <;> (try rw [lM] at hb) <;> try (exfalso; omega)|fail)
       refine PSub.val_bool (hG.2 ⟨by omega, by omega, by omega, ?_, hsz2, hc.1, hc.2, hz, by omega⟩).symm
       simp only [get_at] at *
       omega
 · exact bad fun h => by have := h.2.2.1; omega
end Go.Proofs.Ytcgpikmaapallaa
/- Journals: the reference's record is walked. Conditions: none. -/
namespace Go.Proofs.Ytcgpikmaapallaa
open Go.Avc
def recR (l : List (List UInt8)) (at_ : Nat) : List UInt8 × Nat := match l.drop at_ with
 | [] => ([], 0)
 | s :: rest => if GoodP s at_ ∧ hasF s 1 = true then (match contL (four s 0) at_ s (dataF s) rest with
   | none => ([], 0)
   | some (b, k, _) => (b, k + 1 - at_)) else ([], 0)
theorem recR_bad {l : List (List UInt8)} {a : Nat} (h : a < l.length) (hb : ¬ (GoodP l[a] a ∧ hasF l[a] 1 = true)) : recR l a = ([], 0) := by
 unfold recR; rw [List.drop_eq_getElem_cons h]; simp only; rw [if_neg hb]
theorem recR_out {l : List (List UInt8)} {a : Nat} (h : l.length ≤ a) : recR l a = ([], 0) := by
 unfold recR; rw [List.drop_eq_nil_of_le h]
theorem recR_none {l : List (List UInt8)} {a : Nat} (h : a < l.length) (hb : GoodP l[a] a ∧ hasF l[a] 1 = true) (hc : contL (four l[a] 0) a l[a] (dataF l[a]) (l.drop (a + 1)) = none) : recR l a = ([], 0) := by
 unfold recR; rw [List.drop_eq_getElem_cons h]; simp only; rw [if_pos hb, hc]
theorem recR_some {l : List (List UInt8)} {a : Nat} (h : a < l.length) (hb : GoodP l[a] a ∧ hasF l[a] 1 = true) {b : List UInt8} {k : Nat} {r : List (List UInt8)} (hc : contL (four l[a] 0) a l[a] (dataF l[a]) (l.drop (a + 1)) = some (b, k, r)) : recR l a = (b, k + 1 - a) := by
 unfold recR; rw [List.drop_eq_getElem_cons h]; simp only; rw [if_pos hb, hc]
theorem contL_lt {gen : Nat} {ss : List (List UInt8)} : ∀ {rest : List (List UInt8)} {k : Nat} {s b : List UInt8} {r : List UInt8 × Nat × List (List UInt8)}, rest = ss.drop (k + 1) → k < ss.length → contL gen k s b rest = some r → r.2.1 < ss.length
 | [], k, s, b, r, hr, hk, h => by
   unfold contL at h
   split at h
   · cases h; exact hk
   · cases h
 | s' :: rest, k, s, b, r, hr, hk, h => by
   unfold contL at h
   split at h
   · cases h; exact hk
   · split at h
     · have hr' : rest = ss.drop (k + 1 + 1) := by
         have := congrArg List.tail hr
         simpa using this
       have hl : k + 1 < ss.length := by
         have := congrArg List.length hr
         simp at this; omega
       exact contL_lt hr' hl h
     · cases h
theorem rsector_specs (s : List UInt8) (hs : s.length = 128) (k : Nat) (hk : k ≤ 1000000) : ∃ (g : Bool) (n0 : Nat), (g = true ↔ GoodP s k) ∧ n0 = four s 0 ∧ n0 < 4294967296 ∧ PSpec Try.prog 64 [encB s, .int k] (.bool g) ∧
   PSpec Try.prog 59 [.sl 1 (cut (s.map fun b => [PV.val (.int .u8 b.toNat)]) 0 (Int.toNat 4))] (.val (.int .u64 n0)) ∧ (GoodP s k → (s.getD 10 0).toNat ≤ 3 ∧ (s.getD 11 0).toNat ≤ 112) :=
 ⟨decide (GoodP s k), _, decide_eq_true_iff, rfl, four_lt s 0, rgood_spec s hs k hk, numAt_spec s 0 (by omega) (by simp [cut, List.map_take]), fun h => ⟨h.2.2.2.1, h.2.2.2.2.1⟩⟩
theorem odd1 {s : List UInt8} (h10 : 10 < s.length) {q : Prop} [Decidable q] (h : decide ((((s[10]'h10).toNat % 2 : Nat) : Int) = 1) = decide q) : ((s.getD 10 0).toNat % 2 = 1 ↔ q) := by
 rw [decide_eq_decide] at h
 rw [← h, get_at]; omega
theorem odd2 {s : List UInt8} (h10 : 10 < s.length) {q : Prop} [Decidable q] (h : ¬ decide ((((s[10]'h10).toNat % 2 : Nat) : Int) = 1) = decide q) : ¬ ((s.getD 10 0).toNat % 2 = 1 ↔ q) := by
 rw [decide_eq_decide] at h
 intro h'; apply h
 rw [← h', get_at]; omega
theorem dataF_eq (s : List UInt8) : dataF s = (s.drop 12).take (s.getD 11 0).toNat := rfl
attribute [local irreducible] PSub Wp PSpec Le Need Both
attribute [local irreducible] four hasF GoodP contL recR dataF numB
theorem record_spec (l : List (List UInt8)) (h128 : ∀ s ∈ l, s.length = 128) (hl : l.length ≤ 4096) (a : Nat) (ha : a ≤ l.length) : PSpec Try.prog 58 [encS l, .int a] (.tup [encB (recR l a).1, .int (recR l a).2]) := by
 obtain ⟨RR, hRR⟩ : ∃ RR, RR = recR l a := ⟨_, rfl⟩
 rw [← hRR]
 have nil : RR = ([], 0) → PSub (.tup [.val (.slice none 0 0), .val (.int .i64 0)]) (.tup [encB RR.1, .int RR.2]) := fun h => by rw [h]; exact PSub.tup ⟨PSub.nil 1, PSub.refl _, trivial⟩
 refine PSpec.of_vc (fun Γ => more3 false Γ.P Γ.fx) (fun Γ => more3_ok) Try.func58 rfl Try.call58 (by simp) ?_
 rintro ⟨P, N, w0, X, β0, fx, y, hy, pk, df⟩ rfl rfl rfl hoff rfl; change y.on = false at hoff
 repeat' ((try conv => whnf); first|refine aq bd ?_|fail)
 refine Wp.loop (fun q : Nat × List UInt8 => ⟨[(0, .pure (encS l)), (1, .int a), (6, .lsl 300 0 q.2.length), (7, .int q.1)], [(300, some (.row 1 (q.2.map fun b => [.val (.int .u8 b.toNat)])))], [300]⟩)
   (fun q => a + q.1 ≤ l.length ∧ (q.1 = 0 → q.2 = []) ∧ (∀ n', q.1 = n' + 1 → ∃ (h2 : a + n' < l.length) (h3 : a < l.length), (GoodP l[a] a ∧ hasF l[a] 1 = true) ∧ hasF l[a + n'] 2 = false ∧
     contL (four l[a] 0) a l[a] (dataF l[a]) (l.drop (a + 1)) = contL (four l[a] 0) (a + n') l[a + n'] q.2 (l.drop (a + n' + 1))) ∧ q.2.length ≤ 112 * q.1)
   (fun q => l.length - q.1) (0, []) (Le.map [(300, 9)] ?_ ?_ rfl rfl rfl rfl) ⟨by simpa using ha, fun _ => rfl, fun n' h => by simp at h, by simp⟩ ?_
 · (repeat' (first|exact trivial|refine aq ?_ ?_|exact oq|fail))
 · (repeat' (first|exact trivial|exact rfl|refine aq ?_ ?_|fail))
 rintro ⟨n, out⟩ ⟨hn, h0, h1, ho⟩
 dsimp only at hn h0 h1 ho ⊢
 by_cases hin : a + n < l.length
 rotate_left
 · have hnil : RR = ([], 0) := by
     rw [hRR]
     cases n with
     | zero => exact recR_out (by omega)
     | succ n' =>
       obtain ⟨h2, h3, h4, h5, h6⟩ := h1 n' rfl
       refine recR_none h3 h4 ?_
       rw [h6, List.drop_eq_nil_of_le (by omega)]
       exact contL_end h5
   refine code_sound (more := more3 false _ _) more3_ok FOK.wide _ ?_
   repeat' ((try conv => whnf); first|(first|refine k3 ?_ ?_|refine k4 ?_ ?_) <;> intro hb <;> (try rw [lM] at hb) <;> try (exfalso; omega)|refine s4 nm ?_|fail)
   exact nil hnil
 have hs := h128 _ (List.getElem_mem hin)
 obtain ⟨g, n0, hg, hn0, hn0l, qg, qn, hgz⟩ := rsector_specs _ hs (a + n) (by omega)
 have hi10 := has1_iff (s := l[a + n])
 have hi20 := has2_iff (s := l[a + n])
 have hd12 := dataF_eq l[a + n]
 by_cases hgood : GoodP l[a + n] (a + n : Nat)
 rotate_left
 · have hgf : g = false := by
     cases g with
     | false => rfl
     | true => exact absurd (hg.1 rfl) hgood
   have hnil : RR = ([], 0) := by
     rw [hRR]
     cases n with
     | zero => exact recR_bad (by omega) fun h => hgood h.1
     | succ n' =>
       obtain ⟨h2, h3, h4, h5, h6⟩ := h1 n' rfl
       refine recR_none h3 h4 ?_
       rw [h6, List.drop_eq_getElem_cons (show a + n' + 1 < l.length by omega)]
       exact contL_bad h5 fun h => hgood h.1
   subst hgf
   refine code_sound (more := more3 false _ _) more3_ok FOK.wide _ ?_
   repeat' ((try conv => whnf); first|(first|refine k3 ?_ ?_|refine k4 ?_ ?_) <;> intro hb <;> (try rw [lM] at hb) <;> try (exfalso; omega)|refine s4 nm ?_|refine s5 nm nm ?_|fail)
   refine Wp.draw (more := more3 true _ _) more3_det more3_ok FOK.wide rfl (by decide +kernel) (by conv => lhs; reduce) ?_
   repeat' ((try conv => whnf); first|refine s4 nm ?_|fail)
   refine ⟨_, qg.args ⟨PSub.refl _, PSub.of_eq (by simp), trivial⟩, ?_⟩
   skip
   exact nil hnil
 have hgt : g = true := hg.2 hgood
 subst hgt
 obtain ⟨z10, z11⟩ := hgz hgood
 have hi1 := hi10 z10
 have hi2 := hi20 z10
 clear hi10 hi20
 have hdl : (dataF l[a + n]).length = (l[a + n].getD 11 0).toNat := by rw [hd12, List.length_take, List.length_drop, hs]; omega
 have z8 : (l[a + n][11]'(by rw [hs]; decide)).toNat ≤ 112 := by rw [get_at]; exact z11
 have hdb : cut (l[a + n].map fun b => [PV.val (.int .u8 b.toNat)]) (Int.toNat 12) (12 + ((l[a + n][11]'(by rw [hs]; decide)).toNat : Int)).toNat = (dataF l[a + n]).map fun b => [PV.val (.int .u8 b.toNat)] := by
   rw [hd12, show (12 + ((l[a + n][11]'(by rw [hs]; decide)).toNat : Int)).toNat = 12 + (l[a + n].getD 11 0).toNat by rw [get_at]; show (12 + ((l[a + n].getD 11 0).toNat : Int)).toNat = _; omega]
   simp [cut, List.map_take, List.map_drop]
 rcases Nat.eq_zero_or_pos n with hnz | hnp
 · subst hnz
   have hout := h0 rfl
   subst hout
   by_cases hb1 : hasF l[a + 0] 1 = true
   rotate_left
   · have hnil : RR = ([], 0) := by rw [hRR]; exact recR_bad (by omega) fun h => hb1 h.2
     have hm : ¬ (l[a + 0].getD 10 0).toNat % 2 = 1 := fun h => hb1 (hi1.2 h)
     refine code_sound (more := more3 false _ _) more3_ok FOK.wide _ ?_
     repeat' ((try conv => whnf); first|(first|refine k3 ?_ ?_|refine k4 ?_ ?_) <;> intro hb <;> (try rw [lM] at hb) <;> try (exfalso; omega)|refine s4 nm ?_|refine s5 nm nm ?_|fail)
     refine Wp.draw (more := more3 true _ _) more3_det more3_ok FOK.wide rfl (by decide +kernel) (by conv => lhs; reduce) ?_
     repeat' ((try conv => whnf); first|refine s4 nm ?_|fail)
     refine ⟨_, qg.args ⟨PSub.refl _, PSub.of_eq (by simp), trivial⟩, ?_⟩
     repeat' ((try conv => whnf); first|refine s5 nm nm ?_|refine aq bd ?_|fail)
     refine ⟨_, tm2u _, ?_⟩
     repeat' ((try conv => whnf); first|refine k1 (fun hb => ?_) fun hb => ?_|(first|refine k3 ?_ ?_|refine k4 ?_ ?_) <;> intro hb <;> (try rw [lM] at hb) <;> try (exfalso; omega)|refine aq rfl ?_|refine s1 ?_|refine s4 nm ?_|refine s5 nm nm ?_|refine aq bd ?_|fail)
     · exact absurd ((odd1 _ ‹decide _ = decide _›).2 (by simp)) hm
     · exact absurd ((odd1 _ ‹decide _ = decide _›).2 (by simp)) hm
     · exact nil hnil
   · have hall : contL (four l[a + 0] 0) a l[a + 0] (dataF l[a + 0]) (l.drop (a + 0 + 1)) = contL (four l[a + 0] 0) (a + 0) l[a + 0] (dataF l[a + 0]) (l.drop (a + 0 + 1)) := rfl
     refine code_sound (more := more3 false _ _) more3_ok FOK.wide _ ?_
     repeat' ((try conv => whnf); first|(first|refine k3 ?_ ?_|refine k4 ?_ ?_) <;> intro hb <;> (try rw [lM] at hb) <;> try (exfalso; omega)|refine s4 nm ?_|refine s5 nm nm ?_|fail)
     refine Wp.draw (more := more3 true _ _) more3_det more3_ok FOK.wide rfl (by decide +kernel) (by conv => lhs; reduce) ?_
     repeat' ((try conv => whnf); first|refine s4 nm ?_|fail)
     refine ⟨_, qg.args ⟨PSub.refl _, PSub.of_eq (by simp), trivial⟩, ?_⟩
     repeat' ((try conv => whnf); first|refine s5 nm nm ?_|refine aq bd ?_|fail)
     refine ⟨_, tm2u _, ?_⟩
     repeat' ((try conv => whnf); first|refine k1 (fun hb => ?_) fun hb => ?_|(first|refine k3 ?_ ?_|refine k4 ?_ ?_) <;> intro hb <;> (try rw [lM] at hb) <;> try (exfalso; omega)|refine aq rfl ?_|refine s1 ?_|refine s4 nm ?_|refine s5 nm nm ?_|refine aq bd ?_|fail)
     · have h2t : hasF l[a + 0] 2 = true := hi2.2 (by rw [get_at] at hb; have hb' : (2 : Int) ≤ ((l[a + 0].getD 10 0).toNat : Int) := hb; omega)
       have hR : RR = (dataF l[a + 0], a + 1 - a) := by rw [hRR]; exact recR_some (l := l) (a := a) hin ⟨hgood, hb1⟩ (contL_has h2t)
       rw [hR]
       exact PSub.tup ⟨sub_sl ((List.take_of_length_le (by simp)).trans hdb), PSub.of_eq (by simp), trivial⟩
     · have h2f : hasF l[a + 0] 2 = false := by
         cases hq : hasF l[a + 0] 2 with
         | false => rfl
         | true => have h22 := hi2.1 hq; rw [get_at] at hb; have hb' : ¬ (2 : Int) ≤ ((l[a + 0].getD 10 0).toNat : Int) := hb; omega
       refine ⟨(0 + 1, [] ++ dataF l[a + 0]), Le.map [(300, 64)] ?_ ?_ rfl rfl rfl rfl, ⟨by dsimp only; omega, fun h => by simp at h, fun n' hn' => ?_, by simp only [List.nil_append, hdl]; omega⟩, by dsimp only; omega⟩
       · (repeat' (first|exact trivial|refine aq ?_ ?_|exact oq|fail))
         all_goals (refine SubA.lsl ?_; exact (congrArg (fun x : List (List PV) => ([] : List (List PV)).length + x.length) hdb).trans (by simp))
       · (repeat' (first|exact trivial|refine aq ?_ ?_|fail))
         all_goals (refine rowEq ?_; rw [List.map_append]; exact congrArg (fun x : List (List PV) => List.map (fun b : UInt8 => [PV.val (.int .u8 (b.toNat : Int))]) [] ++ x) hdb)
       · obtain rfl : n' = 0 := by simp at hn'; omega
         exact ⟨hin, hin, ⟨hgood, hb1⟩, h2f, rfl⟩
     · exact absurd ⟨fun _ => by simp, fun _ => hi1.1 hb1⟩ (odd2 _ ‹¬ decide _ = decide _›)
 · obtain ⟨n', rfl⟩ : ∃ n', n = n' + 1 := ⟨n - 1, by omega⟩
   obtain ⟨h2, h3, h4, h5, h6⟩ := h1 n' rfl
   obtain ⟨g0, n00, _, hn00, hn00l, _, qn0, _⟩ := rsector_specs _ (h128 _ (List.getElem_mem h3)) a (by omega)
   have hdrop : l.drop (a + n' + 1) = l[a + (n' + 1)] :: l.drop (a + (n' + 1) + 1) := List.drop_eq_getElem_cons hin
   rw [hdrop] at h6
   have hsa := h128 _ (List.getElem_mem h3)
   by_cases hb1 : hasF l[a + (n' + 1)] 1 = true
   · have hnil : RR = ([], 0) := by
       rw [hRR]; refine recR_none h3 h4 ?_
       rw [h6]; exact contL_bad h5 fun h => by rw [hb1] at h; exact absurd h.2.1 (by simp)
     refine code_sound (more := more3 false _ _) more3_ok FOK.wide _ ?_
     repeat' ((try conv => whnf); first|(first|refine k3 ?_ ?_|refine k4 ?_ ?_) <;> intro hb <;> (try rw [lM] at hb) <;> try (exfalso; omega)|refine s4 nm ?_|refine s5 nm nm ?_|fail)
     refine Wp.draw (more := more3 true _ _) more3_det more3_ok FOK.wide rfl (by decide +kernel) (by conv => lhs; reduce) ?_
     repeat' ((try conv => whnf); first|refine s4 nm ?_|fail)
     refine ⟨_, qg.args ⟨PSub.refl _, PSub.of_eq (by simp), trivial⟩, ?_⟩
     repeat' ((try conv => whnf); first|refine s5 nm nm ?_|refine aq bd ?_|fail)
     refine ⟨_, tm2u _, ?_⟩
     repeat' ((try conv => whnf); first|refine k1 (fun hb => ?_) fun hb => ?_|(first|refine k3 ?_ ?_|refine k4 ?_ ?_) <;> intro hb <;> (try rw [lM] at hb) <;> try (exfalso; omega)|refine aq bd ?_|fail)
     · exact absurd ((odd1 _ ‹decide _ = decide _›).1 (hi1.1 hb1)) (by omega)
     · exact nil hnil
   · refine code_sound (more := more3 false _ _) more3_ok FOK.wide _ ?_
     repeat' ((try conv => whnf); first|(first|refine k3 ?_ ?_|refine k4 ?_ ?_) <;> intro hb <;> (try rw [lM] at hb) <;> try (exfalso; omega)|refine s4 nm ?_|refine s5 nm nm ?_|fail)
     refine Wp.draw (more := more3 true _ _) more3_det more3_ok FOK.wide rfl (by decide +kernel) (by conv => lhs; reduce) ?_
     repeat' ((try conv => whnf); first|refine s4 nm ?_|fail)
     refine ⟨_, qg.args ⟨PSub.refl _, PSub.of_eq (by simp), trivial⟩, ?_⟩
     repeat' ((try conv => whnf); first|refine s5 nm nm ?_|refine aq bd ?_|fail)
     refine ⟨_, tm2u _, ?_⟩
     repeat' ((try conv => whnf); first|refine k1 (fun hb => ?_) fun hb => ?_|(first|refine k3 ?_ ?_|refine k4 ?_ ?_) <;> intro hb <;> (try rw [lM] at hb) <;> try (exfalso; omega)|refine aq bd ?_|fail)
     rotate_left
     · exact absurd ⟨fun h => absurd (hi1.2 h) hb1, fun h => by omega⟩ (odd2 _ ‹¬ decide _ = decide _›)
     refine ⟨_, qn, ?_⟩
     repeat' ((try conv => whnf); first|refine s5 nm nm ?_|refine aq bd ?_|fail)
     refine ⟨_, qn0, ?_⟩
     repeat' ((try conv => whnf); first|(first|refine k3 ?_ ?_|refine k4 ?_ ?_) <;> intro hb <;> (try rw [lM] at hb) <;> try (exfalso; omega)|refine s1 ?_|refine s4 nm ?_|refine s5 nm nm ?_|refine aq bd ?_|fail)
     rotate_right
     · have hne : ¬ n0 = n00 := by omega
       refine nil ?_
       rw [hRR]; refine recR_none h3 h4 ?_
       rw [h6]; exact contL_bad h5 fun h => hne (by rw [hn0, hn00]; exact h.2.2)
     all_goals have hfe : four l[a + (n' + 1)] 0 = four l[a] 0 := by rw [← hn0, ← hn00]; omega
     all_goals have hb1f : hasF l[a + (n' + 1)] 1 = false := Bool.eq_false_iff.2 hb1
     all_goals have hnext := h6.trans (contL_next (k := a + n') (b := out) (rest := l.drop (a + (n' + 1) + 1)) h5 ⟨hgood, hb1f, hfe⟩)
     · have h2t : hasF l[a + (n' + 1)] 2 = true := hi2.2 (by rw [get_at] at hb; have hb' : (2 : Int) ≤ ((l[a + (n' + 1)].getD 10 0).toNat : Int) := hb; omega)
       have hR : RR = (out ++ dataF l[a + (n' + 1)], a + n' + 1 + 1 - a) := by rw [hRR]; exact recR_some h3 h4 (hnext.trans (contL_has h2t))
       rw [hR]
       exact PSub.tup ⟨sub_sl ((List.take_of_length_le (by simp)).trans ((congrArg (fun x : List (List PV) => List.map (fun b : UInt8 => [PV.val (.int .u8 (b.toNat : Int))]) out ++ x) hdb).trans (by simp))), PSub.of_eq (by congr 2; simp; omega), trivial⟩
     · have h2f : hasF l[a + (n' + 1)] 2 = false := by
         cases hq : hasF l[a + (n' + 1)] 2 with
         | false => rfl
         | true => have h22 := hi2.1 hq; rw [get_at] at hb; have hb' : ¬ (2 : Int) ≤ ((l[a + (n' + 1)].getD 10 0).toNat : Int) := hb; omega
       refine ⟨(n' + 1 + 1, out ++ dataF l[a + (n' + 1)]), Le.map [(300, 64)] ?_ ?_ rfl rfl rfl rfl, ⟨by dsimp only; omega, fun h => by simp at h, fun n'' hn'' => ?_, by simp only [List.length_append, hdl]; omega⟩, by dsimp only; omega⟩
       · (repeat' (first|exact trivial|refine aq ?_ ?_|exact oq|fail))
         all_goals (refine SubA.lsl ?_; exact (congrArg (fun x : List (List PV) => (List.map (fun b : UInt8 => [PV.val (.int .u8 (b.toNat : Int))]) out).length + x.length) hdb).trans (by simp))
       · (repeat' (first|exact trivial|refine aq ?_ ?_|fail))
         all_goals (refine rowEq ?_; rw [List.map_append]; exact congrArg (fun x : List (List PV) => List.map (fun b : UInt8 => [PV.val (.int .u8 (b.toNat : Int))]) out ++ x) hdb)
       · obtain rfl : n'' = n' + 1 := by simp at hn''; omega
         exact ⟨hin, h3, h4, h2f, hnext⟩
end Go.Proofs.Ytcgpikmaapallaa
/- Journals: the reference's Records and Open, the law of Open. Conditions: none. -/
namespace Go.Proofs.Ytcgpikmaapallaa
open Go.Avc
theorem recsL_zero (f k : Nat) (l : List (List UInt8)) : recsL f 0 k l = recsL f 1 k l := by
 cases f with
 | zero => rfl
 | succ f =>
   cases l with
   | nil => rfl
   | cons s rest =>
     rw [recsL, recsL]
     by_cases h : GoodP s k ∧ hasF s 1 = true
     · have h0 := h.1.1
       rw [if_pos ⟨h.1, h.2, Nat.zero_le _⟩, if_pos ⟨h.1, h.2, by omega⟩]
     · rw [if_neg fun h' => h ⟨h'.1, h'.2.1⟩, if_neg fun h' => h ⟨h'.1, h'.2.1⟩]
theorem recR_pos {l : List (List UInt8)} {a : Nat} (h : (recR l a).2 ≠ 0) : ∃ (ha : a < l.length) (b : List UInt8) (k : Nat), (GoodP l[a] a ∧ hasF l[a] 1 = true) ∧ contL (four l[a] 0) a l[a] (dataF l[a]) (l.drop (a + 1)) = some (b, k, l.drop (k + 1)) ∧
   recR l a = (b, k + 1 - a) ∧ a ≤ k ∧ k < l.length := by
 by_cases ha : a < l.length
 · by_cases hg : GoodP l[a] a ∧ hasF l[a] 1 = true
   · cases hc : contL (four l[a] 0) a l[a] (dataF l[a]) (l.drop (a + 1)) with
     | none => exact absurd (by rw [recR_none ha hg hc]) h
     | some r =>
       obtain ⟨b, k, r⟩ := r
       obtain ⟨h1, h2⟩ := contL_rest (ss := l) rfl hc
       have h3 := contL_lt (ss := l) rfl ha hc
       simp only at h1 h2 h3
       subst h2
       exact ⟨ha, b, k, hg, hc, recR_some ha hg hc, h1, h3⟩
   · exact absurd (by rw [recR_bad ha hg]) h
 · exact absurd (by rw [recR_out (by omega)]) h
theorem recsL_stop {l : List (List UInt8)} {a f last : Nat} (h : (recR l a).2 = 0) : recsL f last a (l.drop a) = [] := by
 cases f with
 | zero => cases l.drop a <;> rfl
 | succ f =>
   by_cases ha : a < l.length
   · rw [List.drop_eq_getElem_cons ha, recsL]
     split
     · rename_i hg
       cases hc : contL (four l[a] 0) a l[a] (dataF l[a]) (l.drop (a + 1)) with
       | none => rfl
       | some r =>
         obtain ⟨b, k, r⟩ := r
         obtain ⟨h1, h2⟩ := contL_rest (ss := l) rfl hc
         rw [recR_some ha ⟨hg.1, hg.2.1⟩ hc] at h
         simp only at h h1
         omega
     · rfl
   · rw [List.drop_eq_nil_of_le (by omega)]; rfl
attribute [local irreducible] PSub Wp PSpec Le Need Both
attribute [local irreducible] four hasF GoodP contL recR dataF numB recsL recs
theorem rrecords_spec (l : List (List UInt8)) (h128 : ∀ s ∈ l, s.length = 128) (hl : l.length ≤ 4096) : PSpec Try.prog 35 [encS l] (encS (recs l)) := by
 have hstart : recs l = [] ++ recsL l.length 0 0 (l.drop 0) := by rw [recsL_zero]; unfold recs; rfl
 obtain ⟨RS, hRS⟩ : ∃ RS, RS = recs l := ⟨_, rfl⟩
 rw [← hRS] at hstart ⊢
 clear hRS
 refine PSpec.of_vc (fun Γ => more3 false Γ.P Γ.fx) (fun Γ => more3_ok) Try.func35 rfl Try.call35 (by simp) ?_
 rintro ⟨P, N, w0, X, β0, fx, y, hy, pk, df⟩ rfl rfl rfl hoff rfl; change y.on = false at hoff
 repeat' ((try conv => whnf); first|refine aq bd ?_|fail)
 refine Wp.loop (fun q : Nat × Nat × List (List UInt8) × Nat => ⟨[(0, .pure (encS l)), (3, .lsl 300 0 q.2.2.1.length), (4, .int q.1), (5, .pure (.val (.int .u64 q.2.1)))], [(300, some (.row 1 (q.2.2.1.map fun b => [encB b])))], [300]⟩)
   (fun q => q.1 ≤ l.length ∧ RS = q.2.2.1 ++ recsL q.2.2.2 q.2.1 q.1 (l.drop q.1) ∧ l.length ≤ q.1 + q.2.2.2 ∧ q.2.1 < 4294967296 ∧ q.2.2.1.length ≤ q.1)
   (fun q => l.length - q.1) (0, 0, [], l.length) (Le.map [(300, 8)] ?_ ?_ rfl rfl rfl rfl) ⟨by simp, hstart, by simp, by show (0 : Nat) < 4294967296; decide, by simp⟩ ?_
 · (repeat' (first|exact trivial|refine aq ?_ ?_|exact oq|fail))
 · (repeat' (first|exact trivial|exact rfl|refine aq ?_ ?_|fail))
 rintro ⟨a, last, out, f⟩ ⟨ha, hx, hf, hlast, hol⟩
 dsimp only at ha hx hf hlast hol ⊢
 have qr := record_spec l h128 hl a ha
 have hz := recsL_stop (l := l) (a := a) (f := f) (last := last)
 have hp := recR_pos (l := l) (a := a)
 obtain ⟨P, hP⟩ : ∃ P, P = recR l a := ⟨_, rfl⟩
 rw [← hP] at qr hz hp
 obtain ⟨pb, pn⟩ := P
 dsimp only at qr hz hp
 by_cases hpn : pn = 0
 · have hRo : RS = out := by rw [hx, hz hpn, List.append_nil]
   subst hpn
   refine code_sound (more := more3 false _ _) more3_ok FOK.wide _ ?_
   skip
   refine .inl ⟨_, qr, ?_⟩
   repeat' ((try conv => whnf); first|refine aq rfl ?_|fail)
   rw [hRo]
   exact sub_sl (by simp [List.take_of_length_le])
 · obtain ⟨hal, b, k, hg, hc, hr, hak, hkl⟩ := hp hpn
   obtain ⟨hrb, rfl⟩ := Prod.mk.inj hr
   subst hrb
   obtain ⟨b, hbb⟩ : ∃ b, b = pb := ⟨_, rfl⟩
   rw [← hbb] at hc qr
   obtain ⟨f1, hf1⟩ : ∃ f1, f = f1 + 1 := ⟨f - 1, by omega⟩
   have hsa := h128 _ (List.getElem_mem hal)
   obtain ⟨_, n0, _, hn0, hn0l, _, qn, _⟩ := rsector_specs _ hsa a (by omega)
   have hRx : ∀ f', f = f' + 1 → ¬ n0 < last → RS = (out ++ [b]) ++ recsL f' n0 (k + 1) (l.drop (k + 1)) := fun f' hf' hlt => by
     rw [hx, hf', List.drop_eq_getElem_cons hal, recsL, if_pos ⟨hg.1, hg.2, by rw [← hn0]; omega⟩, hc]
     simp [hn0]
   have hRy : n0 < last → RS = out := fun hlt => by
     rw [hx, List.drop_eq_getElem_cons hal]
     cases f with
     | zero => unfold recsL; simp
     | succ f => rw [recsL, if_neg fun h => by have := h.2.2; omega, List.append_nil]
   refine code_sound (more := more3 false _ _) more3_ok FOK.wide _ ?_
   skip
   refine .inl ⟨_, qr, ?_⟩
   repeat' ((try conv => whnf); first|(first|refine k3 ?_ ?_|refine k4 ?_ ?_) <;> intro hb <;> (try rw [lM] at hb) <;> try (exfalso; omega)|refine aq rfl ?_|refine s5 nm nm ?_|refine aq bd ?_|fail)
   refine .inl ⟨_, qn, ?_⟩
   repeat' ((try conv => whnf); first|(first|refine k3 ?_ ?_|refine k4 ?_ ?_) <;> intro hb <;> (try rw [lM] at hb) <;> try (exfalso; omega)|refine s5 nm nm ?_|refine aq bd ?_|fail)
   · rw [hRy (by omega)]
     exact sub_sl (by simp [List.take_of_length_le])
   refine .inl ⟨_, qn, ?_⟩
   repeat' ((try conv => whnf); first|refine s4 nm ?_|refine aq bd ?_|fail)
   refine ⟨(k + 1, n0, out ++ [b], f1), Le.map [(300, 37)] ?_ ?_ rfl rfl rfl rfl, ⟨by dsimp only; omega, hRx f1 hf1 (by omega), by dsimp only; omega, hn0l, by simp only [List.length_append, List.length_cons, List.length_nil]; omega⟩, by dsimp only; omega⟩
   · (repeat' (first|exact trivial|refine aq ?_ ?_|exact oq|exact l1 bd|exact SubA.lsl ls|fail))
   · (repeat' (first|exact trivial|refine aq ?_ ?_|exact rowEq rs|fail))
theorem ropen_spec (d : Disk) : PSpec Try.prog 13 [encD d] (encJE (openJ d)) := by
 refine PSpec.of_vc (fun Γ => more3 false Γ.P Γ.fx) (fun Γ => more3_ok) Try.func13 rfl Try.call13 (by simp) ?_
 rintro ⟨P, N, w0, X, β0, fx, y, hy, pk, df⟩ rfl rfl rfl hoff rfl; change y.on = false at hoff
 skip
 refine .inl ⟨_, refCheck_spec d, ?_⟩
 obtain ⟨C, hC⟩ : ∃ C, C = d.check := ⟨_, rfl⟩
 rw [← hC]
 by_cases hc : C = 0
 rotate_left
 · repeat' ((try conv => whnf); first|(first|refine k3 ?_ ?_|refine k4 ?_ ?_) <;> intro hb <;> (try rw [lM] at hb) <;> try (exfalso; omega)|refine aq rfl ?_|fail)
   exact sub_jz (by unfold openJ; rw [if_neg (by omega), hC])
 have hgood := good_of (hC.symm.trans hc)
 have hrl := recs_len d.sectors
 have hdl : d.sectors.length ≤ 4096 := by have := hgood.2.1; omega
 obtain ⟨RR, hRR⟩ : ∃ RR, RR = recs d.sectors := ⟨_, rfl⟩
 have hit := rrecords_spec d.sectors hgood.2.2.2.2.2.1 hdl
 have hod : openJ d = (if d.stopped = true then (zeroJ, 470) else if 0 < d.pending.length then (zeroJ, 1) else (⟨RR, d.sectors.length, RR.length⟩, 0)) := by unfold openJ; rw [if_pos (by omega), hRR]
 rw [← hRR] at hit hrl
 rw [hod]
 repeat' ((try conv => whnf); first|(first|refine k3 ?_ ?_|refine k4 ?_ ?_) <;> intro hb <;> (try rw [lM] at hb) <;> try (exfalso; omega)|refine k6 (fun hb => ?_) fun hb => ?_|refine aq rfl ?_|fail)
 · exact sub_jz (by rw [if_pos (by assumption)])
 · exact sub_jz (by rw [if_neg (by simp_all), if_pos (by omega)])
 refine .inl ⟨_, hit, ?_⟩
 repeat' ((try conv => whnf); first|refine aq rfl ?_|fail)
 rw [if_neg (by simp_all), if_neg (by omega)]
 exact sub_je (PSub.agg ⟨PSub.refl _, PSub.of_eq (by simp), PSub.of_eq (by simp), trivial⟩) rfl
theorem openLaw_spec (d : Disk) : PSpec Try.prog 3 [encD d] (.bool true) := by
 have pf := (jfew_spec d [] (by simp [lensN])).args (args := [encD d, .val (.slice none 0 0)]) ⟨PSub.refl _, PSub.nil 1, trivial⟩
 have hF : ∀ F, F = (decide (d.sectors.length ≤ 40) && decide (d.pending.length ≤ 40) && decide (lensN ([] : List (List UInt8)) ≤ 4000)) → F = true → d.sectors.length ≤ 40 := fun F h1 h2 => by rw [h1] at h2; simp at h2; omega
 obtain ⟨F, hF2⟩ : ∃ F, F = (decide (d.sectors.length ≤ 40) && decide (d.pending.length ≤ 40) && decide (lensN ([] : List (List UInt8)) ≤ 4000)) := ⟨_, rfl⟩
 have hF := hF F hF2
 rw [← hF2] at pf
 have q1 := open_spec d
 have q2 := ropen_spec d
 have hlen : d.sectors.length ≤ 40 → (openJ d).1.records.length ≤ 1000000 := fun h => by
   have := recs_len d.sectors
   unfold openJ
   split
   · split
     · simp [zeroJ]
     · split
       · simp [zeroJ]
       · simp only; omega
   · simp [zeroJ]
 obtain ⟨A, hA⟩ : ∃ A, A = openJ d := ⟨_, rfl⟩
 rw [← hA] at q1 q2 hlen
 clear hA
 obtain ⟨A1, A2⟩ := A
 dsimp only at hlen
 refine PSpec.of_vc (fun Γ => more3 false Γ.P Γ.fx) (fun Γ => more3_ok) Try.func3 rfl Try.call3 (by simp) ?_
 rintro ⟨P, N, w0, X, β0, fx, y, hy, pk, df⟩ rfl rfl rfl hoff rfl; change y.on = false at hoff
 skip
 refine .inl ⟨_, jsane_spec, ?_⟩
 skip
 refine .inl ⟨_, pf, ?_⟩
 repeat' ((try conv => whnf); first|refine k5 (fun hb => ?_) fun hb => ?_|fail)
 rotate_left
 · exact PSub.refl _
 have qs := jsame_spec A1 A1 (Nat.le_trans (hlen (hF (by assumption))) (by decide))
 rw [show A1.same A1 = true by simp [Jour.same]] at qs
 refine .inl ⟨_, q1, ?_⟩
 repeat' ((try conv => whnf); first|refine aq rfl ?_|fail)
 refine .inl ⟨_, q2, ?_⟩
 repeat' ((try conv => whnf); first|refine aq rfl ?_|fail)
 refine .inl ⟨_, qs, ?_⟩
 skip
 exact PSub.val_bool (by simp)
end Go.Proofs.Ytcgpikmaapallaa
