/- Journals: a sector of a record, byte by byte; it is good. Conditions: none. -/
import Derived.Test.YtcgpikmaapallaaWh
import Derived.Test.YtcgpikmaapallaaWd
set_option linter.unusedSimpArgs false
set_option linter.unusedVariables false
set_option maxRecDepth 20000
set_option maxHeartbeats 4000000
namespace Go.Proofs.Ytcgpikmaapallaa
open Go.Avc
def n4 (n : Nat) : List UInt8 := [UInt8.ofNat (n / 2 ^ 24), UInt8.ofNat (n / 2 ^ 16), UInt8.ofNat (n / 2 ^ 8), UInt8.ofNat (n / 2 ^ 0)]
def kindB (bg en : Bool) : UInt8 := (if bg then 1 else 0) + (if en then 2 else 0)
def bodyOf (k : Nat) (bg en : Bool) (p : List UInt8) : List UInt8 := [UInt8.ofNat (k / 256), UInt8.ofNat k, kindB bg en, UInt8.ofNat p.length] ++ p ++ List.replicate (112 - p.length) 0
theorem bodyOf_len (k : Nat) (bg en : Bool) (p : List UInt8) (h : p.length ≤ 112) : (bodyOf k bg en p).length = 116 := by simp [bodyOf]; omega
theorem sec2_eq (g k : Nat) (bg en : Bool) : sec2 g k bg en = n4 g ++ [0, 0, 0, 0, UInt8.ofNat (k / 256), UInt8.ofNat k, kindB bg en, 0] ++ (List.replicate 112 0 ++ n4 g) := by
 have h0 : sec0 g k = n4 g ++ [0, 0, 0, 0, UInt8.ofNat (k / 256), UInt8.ofNat k, 0, 0] ++ (List.replicate 112 0 ++ n4 g) := rfl
 have ho : ∀ (a b x f : UInt8) (r : List UInt8), orAt (n4 g ++ [0, 0, 0, 0, a, b, x, 0] ++ r) f = n4 g ++ [0, 0, 0, 0, a, b, x ||| f, 0] ++ r := fun a b x f r => rfl
 have e1 : (0 : UInt8) ||| 1 = 1 := by decide
 have e2 : (0 : UInt8) ||| 2 = 2 := by decide
 have e3 : (1 : UInt8) ||| 2 = 3 := by decide
 have f0 : kindB false false = 0 := by decide
 have f1 : kindB true false = 1 := by decide
 have f2 : kindB false true = 2 := by decide
 have f3 : kindB true true = 3 := by decide
 cases bg <;> cases en <;> simp only [sec2, sec1, if_true, if_false, Bool.false_eq_true, h0, ho, e1, e2, e3, f0, f1, f2, f3]
theorem sec3_eq (g k : Nat) (bg en : Bool) (p : List UInt8) (h : p.length ≤ 112) : sec3 g k bg en p = n4 g ++ ([0, 0, 0, 0] ++ (bodyOf k bg en p ++ n4 g)) := by
 unfold sec3
 rw [sec2_eq]
 have e1 : (n4 g ++ [0, 0, 0, 0, UInt8.ofNat (k / 256), UInt8.ofNat k, kindB bg en, 0] ++ (List.replicate 112 0 ++ n4 g)).set 11 (UInt8.ofNat p.length)
     = (n4 g ++ [0, 0, 0, 0, UInt8.ofNat (k / 256), UInt8.ofNat k, kindB bg en, UInt8.ofNat p.length]) ++ (List.replicate 112 0 ++ n4 g) := rfl
 rw [e1]
 unfold ovr
 rw [List.take_left' (by rfl), List.take_of_length_le (Nat.le_refl _), List.drop_append, show List.drop (12 + p.length) (n4 g ++ [0, 0, 0, 0, UInt8.ofNat (k / 256), UInt8.ofNat k, kindB bg en, UInt8.ofNat p.length]) = [] from List.drop_eq_nil_of_le (by show 12 ≤ _; omega),
   show 12 + p.length - (n4 g ++ [0, 0, 0, 0, UInt8.ofNat (k / 256), UInt8.ofNat k, kindB bg en, UInt8.ofNat p.length]).length = p.length by (show 12 + p.length - 12 = _); omega, List.drop_append, List.drop_replicate, List.length_replicate, show p.length - 112 = 0 by omega, List.drop_zero]
 unfold bodyOf
 simp
theorem setB_n4 (a b c d e f g h : UInt8) (l : List UInt8) (n : Nat) : setB (a :: b :: c :: d :: e :: f :: g :: h :: l) 4 n 4 = a :: b :: c :: d :: (n4 n ++ l) := by
 simp [setB, n4]
theorem secOf_eq (g k : Nat) (bg en : Bool) (p : List UInt8) (h : p.length ≤ 112) : secOf g k bg en p = n4 g ++ (n4 (crc (bodyOf k bg en p)) ++ (bodyOf k bg en p ++ n4 g)) := by
 have hb : body (sec3 g k bg en p) = bodyOf k bg en p := by
   rw [sec3_eq g k bg en p h]
   unfold body
   rw [show List.drop 8 (n4 g ++ ([0, 0, 0, 0] ++ (bodyOf k bg en p ++ n4 g))) = bodyOf k bg en p ++ n4 g from rfl]
   exact List.take_left' (bodyOf_len k bg en p h)
 unfold secOf
 rw [hb, sec3_eq g k bg en p h]
 exact setB_n4 _ _ _ _ _ _ _ _ _ _
theorem four_n4 (n : Nat) (hn : n < 4294967296) (l : List UInt8) : four (n4 n ++ l) 0 = n := by
 simp only [four, n4, List.cons_append, List.nil_append, List.getD_cons_zero, List.getD_cons_succ, UInt8.toNat_ofNat', Nat.reducePow, Nat.pow_zero, Nat.div_one]
 omega
theorem four_app (l m : List UInt8) (a : Nat) (h : l.length = a) : four (l ++ m) a = four m 0 := by
 subst h
 simp [four, List.getD, List.getElem?_append_right]
theorem body_secOf (g k : Nat) (bg en : Bool) (p : List UInt8) (h : p.length ≤ 112) : body (secOf g k bg en p) = bodyOf k bg en p := by
 rw [secOf_eq g k bg en p h]
 unfold body
 rw [show List.drop 8 (n4 g ++ (n4 (crc (bodyOf k bg en p)) ++ (bodyOf k bg en p ++ n4 g))) = bodyOf k bg en p ++ n4 g from rfl]
 exact List.take_left' (bodyOf_len k bg en p h)
theorem crc_lt (l : List UInt8) : crc l < 4294967296 := by unfold crc; exact Nat.xor_lt_two_pow (n := 32) (by decide) (crcN_lt _)
theorem secOf_four0 (g k : Nat) (bg en : Bool) (p : List UInt8) (h : p.length ≤ 112) (hg : g < 4294967296) : four (secOf g k bg en p) 0 = g := by
 rw [secOf_eq g k bg en p h]; exact four_n4 g hg _
theorem secOf_four4 (g k : Nat) (bg en : Bool) (p : List UInt8) (h : p.length ≤ 112) : four (secOf g k bg en p) 4 = crc (bodyOf k bg en p) := by
 rw [secOf_eq g k bg en p h, four_app _ _ 4 rfl]; exact four_n4 _ (crc_lt _) _
theorem secOf_four124 (g k : Nat) (bg en : Bool) (p : List UInt8) (h : p.length ≤ 112) (hg : g < 4294967296) : four (secOf g k bg en p) 124 = g := by
 have e : secOf g k bg en p = (n4 g ++ n4 (crc (bodyOf k bg en p)) ++ bodyOf k bg en p) ++ (n4 g ++ []) := by rw [secOf_eq g k bg en p h]; simp
 rw [e, four_app _ _ 124 (by rw [List.length_append, bodyOf_len k bg en p h]; rfl)]
 exact four_n4 g hg _
theorem secOf_get (g k : Nat) (bg en : Bool) (p : List UInt8) (h : p.length ≤ 112) (i : Nat) (hi : i < 4) : (secOf g k bg en p).getD (8 + i) 0 = [UInt8.ofNat (k / 256), UInt8.ofNat k, kindB bg en, UInt8.ofNat p.length].getD i 0 := by
 rw [secOf_eq g k bg en p h]
 unfold bodyOf
 match i, hi with
 | 0, _ => rfl
 | 1, _ => rfl
 | 2, _ => rfl
 | 3, _ => rfl
theorem secOf_size (g k : Nat) (bg en : Bool) (p : List UInt8) (h : p.length ≤ 112) : sizeF (secOf g k bg en p) = p.length := by
 unfold sizeF
 rw [secOf_get g k bg en p h 3 (by omega)]
 simp only [List.getD_cons_zero, List.getD_cons_succ, UInt8.toNat_ofNat']
 omega
theorem secOf_num (g k : Nat) (bg en : Bool) (p : List UInt8) (h : p.length ≤ 112) (hk : k < 65536) : numF (secOf g k bg en p) = k := by
 unfold numF
 rw [secOf_get g k bg en p h 0 (by omega), secOf_get g k bg en p h 1 (by omega)]
 simp only [List.getD_cons_zero, List.getD_cons_succ, UInt8.toNat_ofNat']
 omega
theorem secOf_kind (g k : Nat) (bg en : Bool) (p : List UInt8) (h : p.length ≤ 112) : (secOf g k bg en p).getD 10 0 = kindB bg en := by
 rw [secOf_get g k bg en p h 2 (by omega)]; rfl
theorem secOf_has1 (g k : Nat) (bg en : Bool) (p : List UInt8) (h : p.length ≤ 112) : hasF (secOf g k bg en p) 1 = bg := by
 unfold hasF; rw [secOf_kind g k bg en p h]; cases bg <;> cases en <;> decide
theorem secOf_has2 (g k : Nat) (bg en : Bool) (p : List UInt8) (h : p.length ≤ 112) : hasF (secOf g k bg en p) 2 = en := by
 unfold hasF; rw [secOf_kind g k bg en p h]; cases bg <;> cases en <;> decide
theorem secOf_from12 (g k : Nat) (bg en : Bool) (p : List UInt8) (h : p.length ≤ 112) : (secOf g k bg en p).drop 12 = p ++ (List.replicate (112 - p.length) 0 ++ n4 g) := by
 rw [secOf_eq g k bg en p h]
 unfold bodyOf
 simp only [List.append_assoc]
 rfl
theorem secOf_data (g k : Nat) (bg en : Bool) (p : List UInt8) (h : p.length ≤ 112) : dataF (secOf g k bg en p) = p := by
 unfold dataF
 rw [secOf_size g k bg en p h, secOf_from12 g k bg en p h]
 exact List.take_left' rfl
theorem secOf_good (g k : Nat) (bg en : Bool) (p : List UInt8) (h : p.length ≤ 112) (hg : g < 4294967296) (hg0 : 0 < g) (hk : k < 65536) (he : en = false → p.length = 112) (hb : bg = false → 1 ≤ p.length) : GoodP (secOf g k bg en p) k := by
 refine ⟨by rw [secOf_four0 g k bg en p h hg]; omega, by rw [secOf_four0 g k bg en p h hg, secOf_four124 g k bg en p h hg], by rw [secOf_num g k bg en p h hk], ?_, by rw [secOf_size g k bg en p h]; exact h, ?_, ?_, ?_, ?_⟩
 · rw [secOf_kind g k bg en p h]; cases bg <;> cases en <;> decide
 · rw [secOf_has2 g k bg en p h, secOf_size g k bg en p h]; exact he
 · rw [secOf_has1 g k bg en p h, secOf_size g k bg en p h]; exact hb
 · rw [secOf_size g k bg en p h, ← List.drop_drop, secOf_from12 g k bg en p h, List.drop_left' rfl, List.take_left' (by simp)]
   intro b hb; exact (List.mem_replicate.1 hb).2
 · rw [secOf_four4 g k bg en p h, body_secOf g k bg en p h]
end Go.Proofs.Ytcgpikmaapallaa
/- Journals: greatest, equality of records. Conditions: none. -/
namespace Go.Proofs.Ytcgpikmaapallaa
open Go.Avc
def greatL (ss : List (List UInt8)) : Nat := ss.foldl (fun n s => max (max n (four s 0)) (four s 124)) 0
theorem greatL_take (ss : List (List UInt8)) {k : Nat} (h : k < ss.length) : greatL (ss.take (k + 1)) = max (max (greatL (ss.take k)) (four ss[k] 0)) (four ss[k] 124) := by
 unfold greatL
 rw [List.take_succ_eq_append_getElem h, List.foldl_append]
 rfl
theorem greatL_lt (ss : List (List UInt8)) : greatL ss < 4294967296 := by
 unfold greatL
 suffices h : ∀ n, n < 4294967296 → ss.foldl (fun n s => max (max n (four s 0)) (four s 124)) n < 4294967296 from h 0 (by decide)
 induction ss with
 | nil => exact fun n h => h
 | cons s ss ih => exact fun n h => ih _ (by have := four_lt s 0; have := four_lt s 124; show max (max n (four s 0)) (four s 124) < 4294967296; omega)
attribute [local irreducible] PSub Wp PSpec Le Need Both
attribute [local irreducible] four greatL
theorem greatest_spec (d : Disk) (hl : d.sectors.length ≤ 4096) (h128 : ∀ s ∈ d.sectors, s.length = 128) : PSpec Try.prog 44 [encD d] (.val (.int .u32 (greatL d.sectors))) := by
 refine PSpec.of_vc (fun Γ => more2 false Γ.P Γ.fx) (fun Γ => more2_ok) Try.func44 rfl Try.call44 (by simp) ?_
 rintro ⟨P, N, w0, X, β0, fx, y, hy, pk, df⟩ rfl rfl rfl hoff rfl; change y.on = false at hoff
 skip
 refine Wp.loop (fun k : Nat => ⟨[(2, .pure (.val (.int .u32 (greatL (d.sectors.take k))))), (7, .pure (encS d.sectors)), (8, .int d.sectors.length), (9, .int k)], [], []⟩) (fun k => k ≤ d.sectors.length) (fun k => d.sectors.length - k) 0 (Le.of ?_ ?_ rfl rfl rfl) (by omega) ?_
 · (repeat' (first|exact trivial|refine aq ?_ ?_|exact oq|exact l1 bd|fail))
   all_goals (refine SubA.int ?_; simp [greatL]; done)
 · (repeat' (first|exact trivial|fail))
 intro k hk
 by_cases hk2 : k < d.sectors.length
 · have hs := h128 _ (List.getElem_mem hk2)
   have q0 := four_spec _ hs 0 (by omega)
   have q1 := four_spec _ hs 124 (by omega)
   have hn := greatL_take d.sectors hk2
   obtain ⟨m0, hm0⟩ : ∃ m, m = four d.sectors[k] 0 := ⟨_, rfl⟩
   obtain ⟨m1, hm1⟩ : ∃ m, m = four d.sectors[k] 124 := ⟨_, rfl⟩
   rw [← hm0] at q0 hn
   rw [← hm1] at q1 hn
   refine code_sound (more := more2 false _ _) more2_ok FOK.wide _ ?_
   repeat' ((try conv => whnf); first|(first|refine k3 ?_ ?_|refine k4 ?_ ?_) <;> intro hb <;> (try rw [lM] at hb) <;> try (exfalso; omega)|refine s5 nm nm ?_|refine aq bd ?_|fail)
   refine ⟨congrArg some (by rw [List.length_map, hs]; rfl), ?_⟩
   repeat' ((try conv => whnf); first|refine .inr ⟨rfl, rfl, rfl, ?_⟩|fail)
   refine ⟨(flat_len _ _).trans hs, onesB_flat _ _ (fun _ => rfl), congrArg some ((flat_len _ _).trans hs).symm, _, singles_flat _ _, ?_⟩
   skip
   refine .inl ⟨_, q0, ?_⟩
   skip
   refine .inl ⟨_, q1, ?_⟩
   repeat' ((try conv => whnf); first|refine s4 nm ?_|fail)
   refine ⟨k + 1, Le.of ?_ (by (repeat' (first|exact trivial|fail))) rfl rfl rfl, by omega, by omega⟩
   (repeat' (first|exact trivial|refine aq ?_ ?_|exact oq|exact l1 bd|fail))
   all_goals (refine SubA.int ?_; rw [hn]; omega)
 · have ek : k = d.sectors.length := by omega
   subst ek
   refine code_sound (more := more2 false _ _) more2_ok FOK.wide _ ?_
   repeat' ((try conv => whnf); first|(first|refine k3 ?_ ?_|refine k4 ?_ ?_) <;> intro hb <;> (try rw [lM] at hb) <;> try (exfalso; omega)|fail)
   exact PSub.of_eq (by rw [List.take_length])
theorem equal_spec (a b : List UInt8) : PSpec Try.prog 43 [encB a, encB b] (.bool (a == b)) := by
 refine PSpec.of_vc (fun Γ => more2 false Γ.P Γ.fx) (fun Γ => more2_ok) Try.func43 rfl Try.call43 (by simp) ?_
 rintro ⟨P, N, w0, X, β0, fx, y, hy, pk, df⟩ rfl rfl rfl hoff rfl; change y.on = false at hoff
 repeat' ((try conv => whnf); first|refine s7 ?_|fail)
 refine PSub.val_bool (Bool.eq_iff_iff.2 ?_)
 simp
theorem equalFunc_spec (a b : List (List UInt8)) : PSpec Try.prog 42 [encS a, encS b, .fn 43 []] (.bool (a == b)) := by
 refine PSpec.bd Try.call42 fun hbd => ?_
 have hb1 : a.length ≤ 9223372036854775807 := by have := hbd.1; simp only [encS, PV.bd, List.length_map] at this; exact this.1
 refine PSpec.of_vc (fun Γ => more2 false Γ.P Γ.fx) (fun Γ => more2_ok) Try.func42 rfl Try.call42 (by simp) ?_
 rintro ⟨P, N, w0, X, β0, fx, y, hy, pk, df⟩ rfl rfl rfl hoff rfl; change y.on = false at hoff
 repeat' ((try conv => whnf); first|(first|refine k3 ?_ ?_|refine k4 ?_ ?_) <;> intro hb <;> (try rw [lM] at hb) <;> try (exfalso; omega)|fail)
 rotate_left
 · refine PSub.val_bool (Bool.eq_false_iff.2 ?_).symm
   intro h; have := eq_of_beq h; subst this; exact hb (by rw [List.length_map])
 refine Wp.loop (fun k : Nat => ⟨[(1, .pure (encS b)), (2, .pure (.fn 43 [])), (15, .pure (encS a)), (16, .int a.length), (17, .int k)], [], []⟩) (fun k => k ≤ a.length ∧ a.take k = b.take k) (fun k => a.length - k) 0 (Le.of ?_ ?_ rfl rfl rfl) ⟨by omega, by simp⟩ ?_
 · (repeat' (first|exact trivial|refine aq ?_ ?_|exact oq|exact l1 bd|fail))
 · (repeat' (first|exact trivial|fail))
 rintro k ⟨hk, hs⟩
 have hab : a.length = b.length := by rw [List.length_map] at hb; omega
 by_cases hk2 : k < a.length
 · obtain ⟨E, hE⟩ : ∃ E, E = (a[k] == b[k]'(by omega)) := ⟨_, rfl⟩
   have q := equal_spec a[k] (b[k]'(by omega))
   rw [← hE] at q
   refine code_sound (more := more2 false _ _) more2_ok FOK.wide _ ?_
   repeat' ((try conv => whnf); first|(first|refine k3 ?_ ?_|refine k4 ?_ ?_) <;> intro hb <;> (try rw [lM] at hb) <;> try (exfalso; omega)|refine s5 nm nm ?_|fail)
   refine .inl ⟨_, q, ?_⟩
   repeat' ((try conv => whnf); first|refine k5 (fun hb => ?_) fun hb => ?_|refine s4 nm ?_|fail)
   · have hkk : a[k] = b[k]'(by omega) := eq_of_beq (hE.symm.trans hb)
     exact ⟨k + 1, Le.of (by (repeat' (first|exact trivial|refine aq ?_ ?_|exact oq|fail))) (by (repeat' (first|exact trivial|fail))) rfl rfl rfl, ⟨by omega, by rw [List.take_succ_eq_append_getElem hk2, List.take_succ_eq_append_getElem (show k < b.length by omega), hs, hkk]⟩, by omega⟩
   · refine PSub.val_bool (Bool.eq_false_iff.2 ?_).symm
     have hbE : E = false := by assumption
     intro h; have := eq_of_beq h; subst this
     rw [hbE] at hE; simp at hE
 · have ek : k = a.length := by omega
   subst ek
   refine code_sound (more := more2 false _ _) more2_ok FOK.wide _ ?_
   repeat' ((try conv => whnf); first|(first|refine k3 ?_ ?_|refine k4 ?_ ?_) <;> intro hb <;> (try rw [lM] at hb) <;> try (exfalso; omega)|fail)
   refine PSub.val_bool ?_
   rw [List.take_length, hab, List.take_length] at hs
   rw [hs]; simp
end Go.Proofs.Ytcgpikmaapallaa
/- Journals: Sync. Conditions: none. -/
namespace Go.Proofs.Ytcgpikmaapallaa
open Go.Avc
def putL (g : Nat) : Nat → List (List UInt8) → List (Int × List UInt8)
 | _, [] => []
 | a, b :: l => ((encodeL b a g).zipIdx a).map (fun x => ((x.2 : Int), x.1)) ++ putL g (a + piecesN b.length) l
def wrL (g a : Nat) (b : List UInt8) : List (Int × List UInt8) := ((encodeL b a g).zipIdx a).map (fun x => ((x.2 : Int), x.1))
theorem putL_snoc (g : Nat) (b : List UInt8) : ∀ (l : List (List UInt8)) (a : Nat), putL g a (l ++ [b]) = putL g a l ++ wrL g (a + occN l) b
 | [], a => by simp [putL, wrL, occN]
 | c :: l, a => by
   have := putL_snoc g b l (a + piecesN c.length)
   simp only [List.cons_append, putL, this, List.append_assoc]
   congr 3
   simp [occN]; omega
theorem encodeL_len (b : List UInt8) (a g : Nat) : (encodeL b a g).length = piecesN b.length := by simp [encodeL]
theorem wrL_len (g a : Nat) (b : List UInt8) : (wrL g a b).length = piecesN b.length := by simp [wrL, encodeL_len]
theorem wrL_take (g a : Nat) (b : List UInt8) {m : Nat} (h : m < (encodeL b a g).length) : (wrL g a b).take (m + 1) = (wrL g a b).take m ++ [(((a + m : Nat) : Int), (encodeL b a g)[m])] := by
 rw [List.take_succ_eq_append_getElem (by rw [wrL_len]; rw [encodeL_len] at h; exact h)]
 simp [wrL]
theorem encodeL_128 (b : List UInt8) (a g : Nat) : ∀ s ∈ encodeL b a g, s.length = 128 := fun s hs => by
 obtain ⟨i, _, rfl⟩ := List.mem_map.1 hs
 exact secOf_len _ _ _ _ (partOf_le b i)
theorem putL_len (g : Nat) : ∀ (l : List (List UInt8)) (a : Nat), (putL g a l).length = occN l
 | [], a => by simp [putL, occN]
 | c :: l, a => by simp [putL, putL_len g l, encodeL_len, occN]
def Jour.sync (j : Jour) (d : Disk) : Jour × Disk × Int :=
 if ¬ j.good then (zeroJ, zeroD, 1) else if ¬ d.check = 0 then (zeroJ, zeroD, d.check) else if d.stopped = true then (zeroJ, zeroD, 470)
 else if ¬ j.many = d.sectors.length ∨ 0 < d.pending.length then (zeroJ, zeroD, 1) else if ¬ recs d.sectors = j.records.take j.synced.toNat then (zeroJ, zeroD, 480)
 else if greatL d.sectors = 4294967295 then (zeroJ, zeroD, 480) else if j.synced = j.records.length then (j, d, 0)
 else let y : Disk := { d with pending := putL (greatL d.sectors + 1) (occN (j.records.take j.synced.toNat)) (j.records.drop j.synced.toNat) }
   if y.sync.2 = 0 then ({ j with synced := j.records.length }, y.sync.1, 0) else (zeroJ, y.sync.1, y.sync.2)
def encJDE (r : Jour × Disk × Int) : PV := .tup [encJ r.1, encD r.2.1, .int r.2.2]
theorem sub_jde {x y : PV} {e : Int} {r : Jour × Disk × Int} (h1 : PSub x (encJ r.1)) (h2 : PSub y (encD r.2.1)) (h3 : e = r.2.2) : PSub (.tup [x, y, .val (.int .i64 e)]) (encJDE r) := by
 subst h3; exact PSub.tup ⟨h1, h2, PSub.refl _, trivial⟩
theorem sub_jdz {e : Int} {r : Jour × Disk × Int} (h : r = (zeroJ, zeroD, e)) : PSub (.tup [.agg [.val (.slice none 0 0), .val (.int .i64 0), .val (.int .i64 0)], .agg [.val (.slice none 0 0), .val (.slice none 0 0), .val (.int .i64 0), .val (.bool false)], .val (.int .i64 e)]) (encJDE r) := by
 subst h
 exact sub_jde (PSub.agg ⟨PSub.nil 1, PSub.refl _, PSub.refl _, trivial⟩) (PSub.agg ⟨PSub.nil 1, PSub.nil 2, PSub.refl _, PSub.refl _, trivial⟩) rfl
attribute [local irreducible] PSub Wp PSpec Le Need Both
attribute [local irreducible] greatL recs encodeL occN piecesN putL
theorem jsync_spec (j : Jour) (d : Disk) (h : lensN j.records ≤ 100000) : PSpec Try.prog 21 [encJ j, encD d] (encJDE (j.sync d)) := by
 have qc := jcheck_spec j (by omega)
 have qd := check_spec d
 obtain ⟨S, hS⟩ : ∃ S, S = j.sync d := ⟨_, rfl⟩
 rw [← hS]
 unfold Jour.sync at hS
 obtain ⟨C, hC⟩ : ∃ C, C = j.check := ⟨_, rfl⟩
 obtain ⟨D, hD⟩ : ∃ D, D = d.check := ⟨_, rfl⟩
 rw [← hC] at qc
 rw [← hD] at qd hS
 by_cases hg : j.good
 rotate_left
 · have e : C = 1 := by rw [hC]; unfold Jour.check; rw [if_neg hg]
   rw [if_pos hg] at hS
   refine PSpec.of_vc (fun Γ => more2 false Γ.P Γ.fx) (fun Γ => more2_ok) Try.func21 rfl Try.call21 (by simp) ?_
   rintro ⟨P, N, w0, X, β0, fx, y, hy, pk, df⟩ rfl rfl rfl hoff rfl; change y.on = false at hoff
   skip
   refine .inl ⟨_, qc, ?_⟩
   repeat' ((try conv => whnf); first|(first|refine k3 ?_ ?_|refine k4 ?_ ?_) <;> intro hb <;> (try rw [lM] at hb) <;> try (exfalso; omega)|fail)
   refine Wp.draw (more := more2 true _ _) more2_det more2_ok FOK.wide rfl (by decide +kernel) (by conv => lhs; reduce) ?_
   repeat' ((try conv => whnf); first|refine aq rfl ?_|fail)
   exact sub_jdz (by rw [hS, e])
 have e : C = 0 := by rw [hC]; unfold Jour.check; rw [if_pos hg]
 rw [if_neg (by simpa using hg)] at hS
 by_cases hd0 : D = 0
 rotate_left
 · rw [if_pos hd0] at hS
   refine PSpec.of_vc (fun Γ => more2 false Γ.P Γ.fx) (fun Γ => more2_ok) Try.func21 rfl Try.call21 (by simp) ?_
   rintro ⟨P, N, w0, X, β0, fx, y, hy, pk, df⟩ rfl rfl rfl hoff rfl; change y.on = false at hoff
   skip
   refine .inl ⟨_, qc, ?_⟩
   repeat' ((try conv => whnf); first|(first|refine k3 ?_ ?_|refine k4 ?_ ?_) <;> intro hb <;> (try rw [lM] at hb) <;> try (exfalso; omega)|fail)
   refine .inl ⟨_, qd, ?_⟩
   repeat' ((try conv => whnf); first|(first|refine k3 ?_ ?_|refine k4 ?_ ?_) <;> intro hb <;> (try rw [lM] at hb) <;> try (exfalso; omega)|fail)
   refine Wp.draw (more := more2 true _ _) more2_det more2_ok FOK.wide rfl (by decide +kernel) (by conv => lhs; reduce) ?_
   repeat' ((try conv => whnf); first|refine aq rfl ?_|fail)
   exact sub_jdz (by rw [hS])
 rw [if_neg (by simpa using hd0)] at hS
 have hgood := good_of (hD.symm.trans hd0)
 have hrl := recs_len d.sectors
 have hdl : d.sectors.length ≤ 4096 := by have := hgood.2.1; omega
 have hit := records1_spec d hdl hgood.2.2.2.2.2.1
 have qg := greatest_spec d hdl hgood.2.2.2.2.2.1
 have hgl := greatL_lt d.sectors
 obtain ⟨RR, hRR⟩ : ∃ RR, RR = recs d.sectors := ⟨_, rfl⟩
 obtain ⟨G, hG⟩ : ∃ G, G = greatL d.sectors := ⟨_, rfl⟩
 rw [← hRR] at hit hrl hS
 rw [← hG] at qg hgl hS
 obtain ⟨g1, g2, g3, g4, g5⟩ := hg
 have hq := equalFunc_spec RR (j.records.take j.synced.toNat)
 obtain ⟨E, hE⟩ : ∃ E, E = (RR == j.records.take j.synced.toNat) := ⟨_, rfl⟩
 rw [← hE] at hq
 refine PSpec.of_vc (fun Γ => more2 false Γ.P Γ.fx) (fun Γ => more2_ok) Try.func21 rfl Try.call21 (by simp) ?_
 rintro ⟨P, N, w0, X, β0, fx, y, hy, pk, df⟩ rfl rfl rfl hoff rfl; change y.on = false at hoff
 skip
 refine .inl ⟨_, qc, ?_⟩
 repeat' ((try conv => whnf); first|(first|refine k3 ?_ ?_|refine k4 ?_ ?_) <;> intro hb <;> (try rw [lM] at hb) <;> try (exfalso; omega)|fail)
 refine .inl ⟨_, qd, ?_⟩
 repeat' ((try conv => whnf); first|(first|refine k3 ?_ ?_|refine k4 ?_ ?_) <;> intro hb <;> (try rw [lM] at hb) <;> try (exfalso; omega)|refine k6 (fun hb => ?_) fun hb => ?_|fail)
 all_goals (refine Wp.draw (more := more2 true _ _) more2_det more2_ok FOK.wide rfl (by decide +kernel) (by conv => lhs; reduce) ?_)
 all_goals (repeat' ((try conv => whnf); first|refine aq rfl ?_|fail))
 · exact sub_jdz (by rw [hS, if_pos (by assumption)])
 · exact sub_jdz (by rw [hS, if_neg (by simp_all), if_pos (.inr (by omega))])
 rotate_left
 · exact sub_jdz (by rw [hS, if_neg (by simp_all), if_pos (.inl (by assumption))])
 refine ⟨_, recordsF_spec d, ?_⟩
 repeat' ((try conv => whnf); first|refine aq rfl ?_|fail)
 refine ⟨_, collect_spec _ _ RR (by omega) hit, ?_⟩
 repeat' ((try conv => whnf); first|refine aq rfl ?_|refine aq bd ?_|fail)
 have e1 : cut (List.map (fun s => [encB s]) j.records) 0 j.synced.toNat = (j.records.take j.synced.toNat).map fun s => [encB s] := by simp [cut, List.map_take]
 refine ⟨.bool E, by simp only [e1]; exact hq, ?_⟩
 repeat' ((try conv => whnf); first|refine k5 (fun hb => ?_) fun hb => ?_|fail)
 rotate_left
 · have hER : ¬ RR = j.records.take j.synced.toNat := fun hh => by
     have hbE : E = false := by assumption
     rw [hh] at hE; rw [hbE] at hE; simp at hE
   refine Wp.draw (more := more2 true _ _) more2_det more2_ok FOK.wide rfl (by decide +kernel) (by conv => lhs; reduce) ?_
   repeat' ((try conv => whnf); first|refine aq rfl ?_|fail)
   exact sub_jdz (by rw [hS, if_neg (by simp_all), if_neg (by omega), if_pos hER])
 have hER : RR = j.records.take j.synced.toNat := by
   have hbE : E = true := by assumption
   exact eq_of_beq (hE.symm.trans hbE)
 rw [if_neg (by simp_all), if_neg (by omega), if_neg (by simpa using hER)] at hS
 refine .inl ⟨_, qg, ?_⟩
 repeat' ((try conv => whnf); first|(first|refine k3 ?_ ?_|refine k4 ?_ ?_) <;> intro hb <;> (try rw [lM] at hb) <;> try (exfalso; omega)|refine aq bd ?_|fail)
 · rw [if_pos (show G = 4294967295 by omega)] at hS
   refine Wp.draw (more := more2 true _ _) more2_det more2_ok FOK.wide rfl (by decide +kernel) (by conv => lhs; reduce) ?_
   repeat' ((try conv => whnf); first|refine aq rfl ?_|fail)
   exact sub_jdz hS
 rw [if_neg (show ¬ G = 4294967295 by omega)] at hS
 · rw [if_pos (show j.synced = (j.records.length : Int) by omega)] at hS
   refine Wp.draw (more := more2 true _ _) more2_det more2_ok FOK.wide rfl (by decide +kernel) (by conv => lhs; reduce) ?_
   repeat' ((try conv => whnf); first|refine aq rfl ?_|fail)
   exact sub_jde (PSub.of_eq (by rw [hS]; rfl)) (PSub.of_eq (by rw [hS]; rfl)) (by rw [hS])
 rw [if_neg (show ¬ j.synced = (j.records.length : Int) by omega)] at hS
 have hsn : j.synced.toNat ≤ j.records.length := by omega
 have hlt := lensN_take j.records j.synced.toNat
 have qo := occupied_spec (j.records.take j.synced.toNat) (by omega)
 obtain ⟨R1, hR1⟩ : ∃ R1, R1 = j.records.take j.synced.toNat := ⟨_, rfl⟩
 obtain ⟨R2, hR2⟩ : ∃ R2, R2 = j.records.drop j.synced.toNat := ⟨_, rfl⟩
 have hoc : occN j.records = occN R1 + occN R2 := by
   rw [hR1, hR2]; unfold occN; conv => lhs; rw [← List.take_append_drop j.synced.toNat j.records, List.map_append, List.sum_append]
 have hR2b : R2.length ≤ 100000 := by rw [hR2]; have := lensN_len j.records; simp; omega
 have hR2l : R2.length = j.records.length - j.synced.toNat := by rw [hR2]; simp
 have hl2 : lensN R2 ≤ lensN j.records := by
   rw [hR2]; unfold lensN
   conv => rhs; rw [← List.take_append_drop j.synced.toNat j.records, List.map_append, List.sum_append]
   omega
 rw [← hR1, ← hR2] at hS
 rw [← hR1] at qo
 obtain ⟨a0, ha0⟩ : ∃ a0, a0 = occN R1 := ⟨_, rfl⟩
 rw [← ha0] at qo hoc hS
 have hput0 : putL (G + 1) a0 [] = [] := by unfold putL; rfl
 refine .inl ⟨.int a0, by simp only [e1, ← hR1]; exact qo, ?_⟩
 repeat' ((try conv => whnf); first|refine aq rfl ?_|refine aq bd ?_|fail)
 refine Wp.loop (fun k : Nat => ⟨[(2, .loc 2 0 0), (4, .loc 4 0 0), (5, .loc 5 0 0), (9, .pure (.val (.int .u32 G))), (10, .int (a0 + occN (R2.take k) : Nat)), (88, .pure (encS R2)), (89, .int R2.length), (90, .int k)],
     [(2, some (.box [.pure (encS j.records), .int j.many, .int j.synced])), (4, some (.box [.pure (.val (.slice none 0 0)), .int 0, .int 0])), (5, some (.box [.pure (encS d.sectors), .lsl 300 0 (putL (G + 1) a0 (R2.take k)).length, .int d.left, .bool d.stopped])),
      (300, some (.row 2 ((putL (G + 1) a0 (R2.take k)).map encW)))], [2, 4, 5, 300]⟩)
   (fun k => k ≤ R2.length) (fun k => R2.length - k) 0 (Le.trans (Le.virt (k := 300) (sz := 2) rfl rfl (by omega)) (Le.of ?_ ?_ rfl rfl rfl)) (by omega) ?_
 · exact ⟨Or.inl rfl, Or.inl rfl, Or.inl rfl, Or.inl rfl, SubA.int (by simp [occN]), SubA.sl (by simp [cut, hR2, List.take_of_length_le]), SubA.int (by rw [hR2l]; simp [cut]), Or.inl rfl, trivial⟩
 · simp only [List.take_zero, hput0, List.length_nil, List.map_nil]
   (repeat' (first|exact trivial|exact rfl|refine aq ?_ ?_|refine Exists.intro _ (aq rfl ?_)|exact oq|exact l6 rfl|fail))
 intro k hk
 have hop : occN (R2.take k) ≤ occN R2 := by
   unfold occN
   conv => rhs; rw [← List.take_append_drop k R2, List.map_append, List.sum_append]
   omega
 by_cases hk2 : k < R2.length
 · have hbl := lensN_mem (List.getElem_mem hk2)
   have qe := encode_spec R2[k] (a0 + occN (R2.take k)) (G + 1) (by omega) (by omega) (by omega)
   refine code_sound (more := more2 false _ _) more2_ok FOK.wide _ ?_
   repeat' ((try conv => whnf); first|(first|refine k3 ?_ ?_|refine k4 ?_ ?_) <;> intro hb <;> (try rw [lM] at hb) <;> try (exfalso; omega)|refine s5 nm nm ?_|fail)
   refine ⟨((G + 1 : Nat) : Int), by rw [IntKind.wrap_u32]; omega, ?_⟩
   skip
   refine .inl ⟨_, qe, ?_⟩
   have hA2 : occN (R2.take (k + 1)) = occN (R2.take k) + piecesN R2[k].length := occN_take R2 hk2
   have hP2 : putL (G + 1) a0 (R2.take (k + 1)) = putL (G + 1) a0 (R2.take k) ++ wrL (G + 1) (a0 + occN (R2.take k)) R2[k] := by
     rw [List.take_succ_eq_append_getElem hk2, putL_snoc]
   have hPl : (putL (G + 1) a0 (R2.take k)).length = occN (R2.take k) := putL_len _ _ _
   have hE128 := encodeL_128 R2[k] (a0 + occN (R2.take k)) (G + 1)
   have hWt : ∀ m, (h : m < (encodeL R2[k] (a0 + occN (R2.take k)) (G + 1)).length) → _ := fun m h => wrL_take (G + 1) (a0 + occN (R2.take k)) R2[k] h
   have hEl : (encodeL R2[k] (a0 + occN (R2.take k)) (G + 1)).length = piecesN R2[k].length := encodeL_len _ _ _
   have hWl : (wrL (G + 1) (a0 + occN (R2.take k)) R2[k]).length = piecesN R2[k].length := wrL_len _ _ _
   have hocc2 : occN (R2.take (k + 1)) ≤ occN R2 := by
     unfold occN
     conv => rhs; rw [← List.take_append_drop (k + 1) R2, List.map_append, List.sum_append]
     omega
   obtain ⟨A, hA⟩ : ∃ A, A = a0 + occN (R2.take k) := ⟨_, rfl⟩
   obtain ⟨PL, hPL⟩ : ∃ PL, PL = putL (G + 1) a0 (R2.take k) := ⟨_, rfl⟩
   rw [← hA] at hP2 hE128 hWt hEl hWl
   rw [← hPL] at hP2 hPl
   obtain ⟨EL, hEL⟩ : ∃ EL, EL = encodeL R2[k] A (G + 1) := ⟨_, rfl⟩
   obtain ⟨W, hW⟩ : ∃ W, W = wrL (G + 1) A R2[k] := ⟨_, rfl⟩
   rw [← hEL] at hE128 hEl
   rw [← hW] at hP2 hWl
   simp only [← hEL, ← hW] at hWt
   rw [← hA, ← hPL, ← hEL]
   repeat' ((try conv => whnf); first|refine aq rfl ?_|fail)
   refine Wp.loop (fun m : Nat => ⟨[(2, .loc 2 0 0), (4, .loc 4 0 0), (5, .loc 5 0 0), (9, .pure (.val (.int .u32 G))), (10, .int (A + m : Nat)), (88, .pure (encS R2)), (89, .int R2.length), (90, .int k), (98, .pure (.sl 128 (EL.map encR))), (99, .int EL.length), (100, .int m)],
       [(2, some (.box [.pure (encS j.records), .int j.many, .int j.synced])), (4, some (.box [.pure (.val (.slice none 0 0)), .int 0, .int 0])), (5, some (.box [.pure (encS d.sectors), .lsl 300 0 (PL ++ W.take m).length, .int d.left, .bool d.stopped])),
        (300, some (.row 2 ((PL ++ W.take m).map encW)))], [2, 4, 5, 300]⟩)
     (fun m => m ≤ EL.length) (fun m => EL.length - m) 0 (Le.of ?_ ?_ rfl rfl rfl) (by omega) ?_
   · (repeat' (first|exact trivial|refine aq ?_ ?_|exact oq|exact l1 bd|fail))
   · (repeat' (first|exact trivial|refine aq ?_ ?_|refine Exists.intro _ (aq rfl ?_)|exact oq|exact SubA.lsl ls|exact rowEq rs|fail))
     all_goals first
       | (refine SubA.lsl ?_; focus (simp; done))
       | (refine rowEq ?_; focus (simp; done))
   intro m hm
   by_cases hm2 : m < EL.length
   · have hsm := hE128 _ (List.getElem_mem hm2)
     refine code_sound (more := more2 false _ _) more2_ok FOK.wide _ ?_
     repeat' ((try conv => whnf); first|(first|refine k3 ?_ ?_|refine k4 ?_ ?_) <;> intro hb <;> (try rw [lM] at hb) <;> try (exfalso; omega)|refine s5 nm nm ?_|fail)
     have hrl2 : (encR EL[m]).length = 128 := by unfold encR; rw [flat_len, hsm]
     refine .inl ⟨congrArg some hrl2.symm, rfl, ?_⟩
     repeat' ((try conv => whnf); first|refine aq (by assumption) ?_|refine aq (onesB_flat _ _ fun _ => rfl) ?_|refine .inr ⟨rfl, rfl, rfl, ?_⟩|fail)
     refine ⟨congrArg some hrl2.symm, _, singles_flat _ _, ?_⟩
     skip
     refine Wp.draw (more := more2 true _ _) more2_det more2_ok FOK.wide rfl (by decide +kernel) (by conv => lhs; reduce) ?_
     repeat' ((try conv => whnf); first|refine aq rfl ?_|refine aq bd ?_|fail)
     refine ⟨encB EL[m], (cloneB_spec EL[m] (by omega)).args ⟨sub_sl (List.take_of_length_le (by simp [hsm])), trivial⟩, ?_⟩
     repeat' ((try conv => whnf); first|refine aq rfl ?_|refine s4 nm ?_|refine aq bd ?_|fail)
     have hWm := hWt m hm2
     have hWml : (W.take m).length = m := by simp; omega
     refine ⟨m + 1, Le.map [(300, 111)] ?_ ?_ rfl rfl rfl rfl, by omega, by omega⟩
     · (repeat' (first|exact trivial|refine aq ?_ ?_|exact oq|fail))
     · (repeat' (first|exact trivial|refine aq ?_ ?_|refine Exists.intro _ (aq rfl ?_)|exact oq|exact SubA.lsl ls|fail))
       all_goals first
         | (refine SubA.lsl ?_; focus (simp; omega))
         | (refine rowEq ?_; focus (rw [hWm, ← List.append_assoc]; conv => { rhs; rw [List.map_append] }; rfl))
   · have em : m = EL.length := by omega
     subst em
     have hWf : W.take EL.length = W := List.take_of_length_le (by omega)
     rw [hWf, ← hP2, hEl, hA, Nat.add_assoc, ← hA2]
     refine code_sound (more := more2 false _ _) more2_ok FOK.wide _ ?_
     repeat' ((try conv => whnf); first|(first|refine k3 ?_ ?_|refine k4 ?_ ?_) <;> intro hb <;> (try rw [lM] at hb) <;> try (exfalso; omega)|refine s4 nm ?_|fail)
     exact ⟨k + 1, Le.of (by (repeat' (first|exact trivial|refine aq ?_ ?_|exact oq|fail))) (by (repeat' (first|exact trivial|exact rfl|refine aq ?_ ?_|refine Exists.intro _ (aq rfl ?_)|exact oq|fail))) rfl rfl rfl, by omega, by omega⟩
 · have ek : k = R2.length := by omega
   subst ek
   rw [List.take_length]
   have qs := sync_spec { d with pending := putL (G + 1) a0 R2 }
   obtain ⟨Y, hY⟩ : ∃ Y, Y = ({ d with pending := putL (G + 1) a0 R2 } : Disk).sync := ⟨_, rfl⟩
   rw [← hY] at qs
   have hS2 : S = if Y.2 = 0 then (⟨j.records, j.many, j.records.length⟩, Y.1, 0) else (zeroJ, Y.1, Y.2) := by rw [hS, if_neg (show ¬ G = 4294967295 by omega)]; simp only [hY]
   refine code_sound (more := more2 false _ _) more2_ok FOK.wide _ ?_
   repeat' ((try conv => whnf); first|(first|refine k3 ?_ ?_|refine k4 ?_ ?_) <;> intro hb <;> (try rw [lM] at hb) <;> try (exfalso; omega)|fail)
   refine .inl ⟨_, qs.args ⟨PSub.agg ⟨PSub.refl _, sub_sl (List.take_of_length_le (by simp)), PSub.refl _, PSub.refl _, trivial⟩, trivial⟩, ?_⟩
   repeat' ((try conv => whnf); first|(first|refine k3 ?_ ?_|refine k4 ?_ ?_) <;> intro hb <;> (try rw [lM] at hb) <;> try (exfalso; omega)|refine aq rfl ?_|fail)
   all_goals (refine Wp.draw (more := more2 true _ _) more2_det more2_ok FOK.wide rfl (by decide +kernel) (by conv => lhs; reduce) ?_)
   all_goals (repeat' ((try conv => whnf); first|refine aq rfl ?_|fail))
   · rw [if_pos (show Y.2 = 0 by assumption)] at hS2
     rw [hS2]
     exact sub_jde (PSub.agg ⟨PSub.refl _, PSub.refl _, PSub.of_eq (by simp), trivial⟩) (PSub.refl _) rfl
   · rw [if_neg (show ¬ Y.2 = 0 by assumption)] at hS2
     rw [hS2]
     exact sub_jde (PSub.agg ⟨PSub.nil 1, PSub.refl _, PSub.refl _, trivial⟩) (PSub.refl _) rfl
end Go.Proofs.Ytcgpikmaapallaa
/- Journals: what is read from sectors that were written. Conditions: none. -/
namespace Go.Proofs.Ytcgpikmaapallaa
open Go.Avc
def secE (b : List UInt8) (first g i : Nat) : List UInt8 := secOf g (first + i) (i == 0) (i + 1 == piecesN b.length) (partOf b i)
theorem partOf_full {b : List UInt8} {i : Nat} (h : i + 1 < piecesN b.length) : (partOf b i).length = 112 := by
 unfold piecesN at h; simp only [partOf, List.length_take, List.length_drop]; omega
theorem partOf_pos {b : List UInt8} {i : Nat} (h : i < piecesN b.length) (h0 : 0 < i) : 1 ≤ (partOf b i).length := by
 unfold piecesN at h; simp only [partOf, List.length_take, List.length_drop]; omega
theorem take_part (b : List UInt8) (i : Nat) : b.take (112 * i) ++ partOf b i = b.take (112 * (i + 1)) := by
 unfold partOf; rw [Nat.mul_succ, List.take_add]
theorem pieces_cov (n : Nat) : n ≤ 112 * piecesN n := by unfold piecesN; omega
theorem pieces_pos (n : Nat) : 1 ≤ piecesN n := by unfold piecesN; omega
theorem encodeL_get (b : List UInt8) (first g i : Nat) (h : i < (encodeL b first g).length) : (encodeL b first g)[i] = secE b first g i := by simp [encodeL, secE]
theorem encodeL_drop (b : List UInt8) (first g i : Nat) (h : i < piecesN b.length) : (encodeL b first g).drop i = secE b first g i :: (encodeL b first g).drop (i + 1) := by
 rw [List.drop_eq_getElem_cons (by rw [encodeL_len]; exact h), encodeL_get]
theorem secE_good {b : List UInt8} {first g i : Nat} (hg : g < 4294967296) (hg0 : 0 < g) (hk : first + i < 65536) (h : i < piecesN b.length) : GoodP (secE b first g i) (first + i : Nat) :=
 secOf_good g (first + i) _ _ _ (partOf_le b i) hg hg0 hk (fun he => partOf_full (by have : ¬ i + 1 = piecesN b.length := by simpa using he
                                                                                     omega)) (fun hb => partOf_pos h (by have : ¬ i = 0 := by simpa using hb
                                                                                                                         omega))
theorem secE_has1 (b : List UInt8) (first g i : Nat) : hasF (secE b first g i) 1 = (i == 0) := secOf_has1 _ _ _ _ _ (partOf_le b i)
theorem secE_has2 (b : List UInt8) (first g i : Nat) : hasF (secE b first g i) 2 = (i + 1 == piecesN b.length) := secOf_has2 _ _ _ _ _ (partOf_le b i)
theorem secE_four (b : List UInt8) (first g i : Nat) (hg : g < 4294967296) : four (secE b first g i) 0 = g := secOf_four0 _ _ _ _ _ (partOf_le b i) hg
theorem secE_four124 (b : List UInt8) (first g i : Nat) (hg : g < 4294967296) : four (secE b first g i) 124 = g := secOf_four124 _ _ _ _ _ (partOf_le b i) hg
theorem secE_data (b : List UInt8) (first g i : Nat) : dataF (secE b first g i) = partOf b i := secOf_data _ _ _ _ _ (partOf_le b i)
theorem cont_enc {b : List UInt8} {first g : Nat} (hg : g < 4294967296) (hg0 : 0 < g) (hk : first + piecesN b.length ≤ 65536) (tail : List (List UInt8)) : ∀ (m i : Nat), i + m + 1 = piecesN b.length →
   contL g (first + i) (secE b first g i) (b.take (112 * (i + 1))) ((encodeL b first g).drop (i + 1) ++ tail) = some (b, first + piecesN b.length - 1, tail)
 | 0, i, h => by
   have hp := pieces_cov b.length
   rw [contL_has (by rw [secE_has2]; simpa using h), List.take_of_length_le (by rw [← h] at hp; omega), List.drop_eq_nil_of_le (by rw [encodeL_len]; omega)]
   simp only [List.nil_append]
   congr 3; omega
 | m + 1, i, h => by
   rw [encodeL_drop b first g (i + 1) (by omega), List.cons_append, contL_next (k := first + i) (by rw [secE_has2]; simp; omega) ⟨secE_good (i := i + 1) hg hg0 (by omega) (by omega), by rw [secE_has1]; rfl, secE_four b first g (i + 1) hg⟩, secE_data, take_part]
   exact cont_enc hg hg0 hk tail m (i + 1) (by omega)
theorem recsL_enc {b : List UInt8} {first g gen f : Nat} (hg : g < 4294967296) (hg0 : 0 < g) (hgen : gen ≤ g) (hk : first + piecesN b.length ≤ 65536) (tail : List (List UInt8)) :
   recsL (f + 1) gen first (encodeL b first g ++ tail) = b :: recsL f g (first + piecesN b.length) tail := by
 have hp := pieces_pos b.length
 have e := encodeL_drop b first g 0 hp
 rw [List.drop_zero] at e
 have hc := cont_enc (b := b) hg hg0 hk tail (piecesN b.length - 1) 0 (by omega)
 have e0 : b.take (112 * (0 + 1)) = dataF (secE b first g 0) := by rw [secE_data, ← take_part]; simp
 rw [e0, Nat.add_zero] at hc
 rw [e, List.cons_append, recsL, if_pos ⟨by have := secE_good (b := b) (i := 0) (first := first) hg hg0 (by omega) hp; simpa using this, by rw [secE_has1]; rfl, by rw [secE_four _ _ _ _ hg]; exact hgen⟩, secE_four _ _ _ _ hg, hc]
 simp only
 rw [show first + piecesN b.length - 1 + 1 = first + piecesN b.length by omega]
def lay : Nat → List (List UInt8 × Nat) → List (List UInt8)
 | _, [] => []
 | k, (b, g) :: R => encodeL b k g ++ lay (k + piecesN b.length) R
def occR (R : List (List UInt8 × Nat)) : Nat := occN (R.map (·.1))
def genOK : Nat → List (List UInt8 × Nat) → Prop
 | _, [] => True
 | gen, (_, g) :: R => gen ≤ g ∧ g < 4294967296 ∧ genOK g R
def lastG : Nat → List (List UInt8 × Nat) → Nat
 | gen, [] => gen
 | _, (_, g) :: R => lastG g R
theorem occR_cons (x : List UInt8 × Nat) (R : List (List UInt8 × Nat)) : occR (x :: R) = piecesN x.1.length + occR R := by simp [occR, occN]
theorem occR_append (R R' : List (List UInt8 × Nat)) : occR (R ++ R') = occR R + occR R' := by simp [occR, occN]
theorem lay_len : ∀ (R : List (List UInt8 × Nat)) (k : Nat), (lay k R).length = occR R
 | [], _ => rfl
 | (b, g) :: R, k => by rw [lay, List.length_append, encodeL_len, lay_len R, occR_cons]
theorem lay_append : ∀ (R R' : List (List UInt8 × Nat)) (k : Nat), lay k (R ++ R') = lay k R ++ lay (k + occR R) R'
 | [], R', k => by simp [lay, occR, occN]
 | (b, g) :: R, R', k => by rw [List.cons_append, lay, lay, lay_append R R', occR_cons, List.append_assoc, Nat.add_assoc]
theorem lay_128 : ∀ (R : List (List UInt8 × Nat)) (k : Nat), ∀ s ∈ lay k R, s.length = 128
 | [], _, s, h => by simp [lay] at h
 | (b, g) :: R, k, s, h => by
   rw [lay] at h
   rcases List.mem_append.1 h with h | h
   · exact encodeL_128 b k g s h
   · exact lay_128 R _ s h
theorem genOK_append : ∀ (R R' : List (List UInt8 × Nat)) (gen : Nat), genOK gen R → genOK (lastG gen R) R' → genOK gen (R ++ R')
 | [], _, _, _, h => h
 | (_, _) :: R, R', _, ⟨h1, h2, h3⟩, h => ⟨h1, h2, genOK_append R R' _ h3 h⟩
theorem lastG_append : ∀ (R R' : List (List UInt8 × Nat)) (gen : Nat), lastG gen (R ++ R') = lastG (lastG gen R) R'
 | [], _, _ => rfl
 | (_, _) :: R, R', _ => lastG_append R R' _
theorem recsL_lay : ∀ (R : List (List UInt8 × Nat)) (f gen k : Nat) (tail : List (List UInt8)), 0 < gen → genOK gen R → k + occR R ≤ 65536 →
   recsL (f + R.length) gen k (lay k R ++ tail) = R.map (·.1) ++ recsL f (lastG gen R) (k + occR R) tail
 | [], f, gen, k, tail, _, _, _ => by simp [lay, lastG, occR, occN]
 | (b, g) :: R, f, gen, k, tail, h0, ⟨h1, h2, h3⟩, hk => by
   rw [occR_cons] at hk
   rw [lay, List.append_assoc, List.length_cons, ← Nat.add_assoc, recsL_enc h2 (by omega) h1 (by simp only at hk; omega), recsL_lay R f g _ tail (by omega) h3 (by simp only at hk; omega), lastG, occR_cons, List.map_cons, List.cons_append, Nat.add_assoc]
theorem occR_ge (R : List (List UInt8 × Nat)) : R.length ≤ occR R := by
 induction R with
 | nil => simp
 | cons x R ih => rw [occR_cons, List.length_cons]; have := pieces_pos x.1.length; omega
def Stop (gen k : Nat) (tail : List (List UInt8)) : Prop := ∀ f, recsL f gen k tail = []
theorem recs_lay {R : List (List UInt8 × Nat)} {tail : List (List UInt8)} (hg : genOK 1 R) (hk : occR R ≤ 65536) (hs : Stop (lastG 1 R) (occR R) tail) : recs (lay 0 R ++ tail) = R.map (·.1) := by
 unfold recs
 have hl : (lay 0 R ++ tail).length = ((lay 0 R ++ tail).length - R.length) + R.length := by
   have := occR_ge R
   rw [List.length_append, lay_len]; omega
 rw [hl, recsL_lay R _ 1 0 tail (by omega) hg (by omega), Nat.zero_add, hs, List.append_nil]
theorem stop_nil (gen k : Nat) : Stop gen k [] := fun f => by cases f <;> rfl
theorem stop_bad {gen k : Nat} {s : List UInt8} {tail : List (List UInt8)} (h : ¬ (GoodP s k ∧ hasF s 1 = true ∧ gen ≤ four s 0)) : Stop gen k (s :: tail) := fun f => by
 cases f with
 | zero => rfl
 | succ f => rw [recsL, if_neg h]
theorem stop_old {gen k : Nat} {tail : List (List UInt8)} (h : ∀ s ∈ tail, four s 0 < gen) : Stop gen k tail := by
 cases tail with
 | nil => exact stop_nil gen k
 | cons s l => exact stop_bad fun hh => by have := h s (.head _); have := hh.2.2; omega
theorem cont_torn {b : List UInt8} {first g : Nat} (hg : g < 4294967296) {t : List UInt8} (ht : ∀ k : Int, ¬ GoodP t k) (tail : List (List UInt8)) (m : Nat) (hm : m < piecesN b.length) (hg0 : 0 < g) (hk : first + piecesN b.length ≤ 65536) : ∀ (d i : Nat) (acc : List UInt8), i + d + 1 = m →
   contL g (first + i) (secE b first g i) acc (((encodeL b first g).drop (i + 1)).take (m - (i + 1)) ++ t :: tail) = none
 | 0, i, acc, h => by
   rw [show m - (i + 1) = 0 by omega, List.take_zero, List.nil_append]
   exact contL_bad (by rw [secE_has2]; simp; omega) fun hh => ht _ hh.1
 | d + 1, i, acc, h => by
   rw [encodeL_drop b first g (i + 1) (by omega), show m - (i + 1) = (m - (i + 1 + 1)) + 1 by omega, List.take_succ_cons, List.cons_append,
     contL_next (k := first + i) (by rw [secE_has2]; simp; omega) ⟨secE_good (i := i + 1) hg hg0 (by omega) (by omega), by rw [secE_has1]; rfl, secE_four b first g (i + 1) hg⟩]
   exact cont_torn hg ht tail m hm hg0 hk d (i + 1) _ (by omega)
theorem stop_torn {b : List UInt8} {first g : Nat} (hg : g < 4294967296) (hg0 : 0 < g) (hk : first + piecesN b.length ≤ 65536) {t : List UInt8} (ht : ∀ k : Int, ¬ GoodP t k) (tail : List (List UInt8)) (m : Nat) (hm : m < piecesN b.length) (gen : Nat) :
   Stop gen first ((encodeL b first g).take m ++ t :: tail) := by
 cases m with
 | zero => rw [List.take_zero, List.nil_append]; exact stop_bad fun h => ht _ h.1
 | succ m =>
   have e := encodeL_drop b first g 0 (pieces_pos _)
   rw [List.drop_zero] at e
   intro f
   cases f with
   | zero => rfl
   | succ f =>
     rw [e, List.take_succ_cons, List.cons_append, recsL]
     split
     · rw [secE_four b first g 0 hg]
       have := cont_torn (b := b) (first := first) hg ht tail (m + 1) hm hg0 hk m 0 (dataF (secE b first g 0)) (by omega)
       rw [Nat.add_zero, show m + 1 - (0 + 1) = m by omega] at this
       rw [this]
     · rfl
theorem torn_lay {g : Nat} (hg : g < 4294967296) (hg0 : 0 < g) {t : List UInt8} (ht : ∀ k : Int, ¬ GoodP t k) (tail : List (List UInt8)) : ∀ (l : List (List UInt8)) (a m : Nat), a + occN l ≤ 65536 → m < occN l →
   ∃ j, j < l.length ∧ ∃ tl, (lay a (l.map (·, g))).take m ++ t :: tail = lay a ((l.take j).map (·, g)) ++ tl ∧ ∀ gen, Stop gen (a + occN (l.take j)) tl
 | [], a, m, _, h => by simp [occN] at h
 | b :: l, a, m, ha, h => by
   have e : occN (b :: l) = piecesN b.length + occN l := by simp [occN]
   rw [e] at ha h
   by_cases hm : m < piecesN b.length
   · refine ⟨0, by simp, _, rfl, fun gen => ?_⟩
     simp only [List.take_zero, List.map_cons, lay]
     rw [List.take_append_of_le_length (by rw [encodeL_len]; omega), show a + occN [] = a from rfl]
     exact stop_torn hg hg0 (by omega) ht tail m hm gen
   · obtain ⟨j, hj, tl, h1, h2⟩ := torn_lay hg hg0 ht tail l (a + piecesN b.length) (m - piecesN b.length) (by omega) (by omega)
     refine ⟨j + 1, by simp; omega, tl, ?_, fun gen => ?_⟩
     · rw [List.take_succ_cons, List.map_cons, List.map_cons, lay, lay, List.take_append, List.take_of_length_le (by rw [encodeL_len]; omega), encodeL_len, List.append_assoc, h1, List.append_assoc]
     · have e2 : occN ((b :: l).take (j + 1)) = piecesN b.length + occN (l.take j) := by simp [occN]
       rw [e2, ← Nat.add_assoc]; exact h2 gen
end Go.Proofs.Ytcgpikmaapallaa
/- Journals: what Sync leaves on the disk. Conditions: none. -/
namespace Go.Proofs.Ytcgpikmaapallaa
open Go.Avc
def seqW : Nat → List (List UInt8) → List (Int × List UInt8)
 | _, [] => []
 | a, w :: ws => ((a : Int), w) :: seqW (a + 1) ws
theorem seqW_zip : ∀ (ws : List (List UInt8)) (a : Nat), (ws.zipIdx a).map (fun x => ((x.2 : Int), x.1)) = seqW a ws
 | [], _ => rfl
 | w :: ws, a => by simp only [List.zipIdx_cons, List.map_cons, seqW, seqW_zip ws (a + 1)]
theorem seqW_append : ∀ (ws vs : List (List UInt8)) (a : Nat), seqW a (ws ++ vs) = seqW a ws ++ seqW (a + ws.length) vs
 | [], vs, a => by simp [seqW]
 | w :: ws, vs, a => by simp only [List.cons_append, seqW, seqW_append ws vs (a + 1), List.length_cons]; rw [show a + 1 + ws.length = a + (ws.length + 1) by omega]
theorem seqW_take (ws : List (List UInt8)) (a m : Nat) : (seqW a ws).take m = seqW a (ws.take m) := by
 induction ws generalizing a m with
 | nil => simp [seqW]
 | cons w ws ih => cases m with
   | zero => simp [seqW]
   | succ m => simp only [seqW, List.take_succ_cons, ih]
theorem seqW_get (ws : List (List UInt8)) (a m : Nat) (h : m < ws.length) : (seqW a ws).getD m (0, []) = (((a + m : Nat) : Int), ws[m]) := by
 induction ws generalizing a m with
 | nil => simp at h
 | cons w ws ih => cases m with
   | zero => simp [seqW]
   | succ m =>
     simp only [seqW, List.getD_cons_succ, List.getElem_cons_succ]
     rw [ih (a + 1) m (by simpa using h), show a + 1 + m = a + (m + 1) by omega]
theorem seqW_mem {ws : List (List UInt8)} {a : Nat} {x : Int × List UInt8} (h : x ∈ seqW a ws) : (a : Int) ≤ x.1 ∧ x.1 < a + ws.length ∧ x.2 ∈ ws := by
 induction ws generalizing a with
 | nil => simp [seqW] at h
 | cons w ws ih =>
   rcases List.mem_cons.1 h with rfl | h
   · simp; omega
   · obtain ⟨h1, h2, h3⟩ := ih h
     simp only [List.length_cons]
     exact ⟨by omega, by omega, List.mem_cons_of_mem _ h3⟩
theorem putL_seq (g : Nat) : ∀ (l : List (List UInt8)) (a : Nat), putL g a l = seqW a (lay a (l.map (·, g)))
 | [], a => rfl
 | b :: l, a => by rw [putL, seqW_zip, putL_seq g l, List.map_cons, lay, seqW_append, encodeL_len]
theorem perform_seq : ∀ (ws : List (List UInt8)) (a : Nat) (ss : List (List UInt8)), a + ws.length ≤ ss.length → perform ss (seqW a ws) = ss.take a ++ (ws ++ ss.drop (a + ws.length))
 | [], a, ss, _ => by simp [perform, seqW]
 | w :: ws, a, ss, h => by
   simp only [List.length_cons] at h
   have e : perform ss (seqW a (w :: ws)) = perform (ss.set a w) (seqW (a + 1) ws) := by simp [perform, seqW]
   rw [e, perform_seq ws (a + 1) _ (by simp; omega), List.drop_set_of_lt (by omega), List.take_succ_eq_append_getElem (by simp; omega), List.take_set_of_le (by omega)]
   simp only [List.getElem_set_self, List.append_assoc, List.cons_append, List.nil_append, List.length_cons]
   rw [show a + 1 + ws.length = a + (ws.length + 1) by omega]
theorem greatL_ge {ss : List (List UInt8)} {s : List UInt8} (h : s ∈ ss) : four s 0 ≤ greatL ss ∧ four s 124 ≤ greatL ss := by
 have mono : ∀ (l : List (List UInt8)) (n : Nat), n ≤ l.foldl (fun n s => max (max n (four s 0)) (four s 124)) n := fun l => by
   induction l with
   | nil => intro n; exact Nat.le_refl _
   | cons s l ih => intro n; rw [List.foldl_cons]; exact Nat.le_trans (by omega) (ih _)
 have gen : ∀ (l : List (List UInt8)) (n : Nat), s ∈ l → four s 0 ≤ l.foldl (fun n s => max (max n (four s 0)) (four s 124)) n ∧ four s 124 ≤ l.foldl (fun n s => max (max n (four s 0)) (four s 124)) n := fun l => by
   induction l with
   | nil => intro n h; cases h
   | cons t l ih =>
     intro n h
     rw [List.foldl_cons]
     rcases List.mem_cons.1 h with rfl | h
     · have := mono l (max (max n (four s 0)) (four s 124)); omega
     · exact ih _ h
 exact gen ss 0 h
theorem greatL_le {ss : List (List UInt8)} {g : Nat} (h : ∀ s ∈ ss, four s 0 ≤ g ∧ four s 124 ≤ g) : greatL ss ≤ g := by
 unfold greatL
 suffices H : ∀ n, n ≤ g → ss.foldl (fun n s => max (max n (four s 0)) (four s 124)) n ≤ g from H 0 (by omega)
 induction ss with
 | nil => exact fun n h => h
 | cons s ss ih =>
   intro n hn
   have := h s (.head _)
   exact ih (fun t ht => h t (List.mem_cons_of_mem _ ht)) _ (by show max (max n (four s 0)) (four s 124) ≤ g; omega)
theorem lay_four {g : Nat} (hg : g < 4294967296) : ∀ (l : List (List UInt8)) (a : Nat), ∀ s ∈ lay a (l.map (·, g)), four s 0 = g ∧ four s 124 = g
 | [], _, s, h => by simp [lay] at h
 | b :: l, a, s, h => by
   rw [List.map_cons, lay] at h
   rcases List.mem_append.1 h with h | h
   · obtain ⟨i, hi, rfl⟩ := List.getElem_of_mem h
     rw [encodeL_get]
     exact ⟨secE_four b a g i hg, secE_four124 b a g i hg⟩
   · exact lay_four hg l _ s h
structure Inv (ss : List (List UInt8)) (R : List (List UInt8 × Nat)) (G : Nat) : Prop where
 s128 : ∀ s ∈ ss, s.length = 128
 gen : genOK 1 R
 last : lastG 1 R ≤ G + 1
 great : greatL ss = G
 fits : occR R ≤ 65536
 form : ∃ tail, ss = lay 0 R ++ tail ∧ Stop (lastG 1 R) (occR R) tail
theorem Inv.recs {ss : List (List UInt8)} {R : List (List UInt8 × Nat)} {G : Nat} (h : Inv ss R G) : recs ss = R.map (·.1) := by
 obtain ⟨tail, h1, h2⟩ := h.form
 rw [h1]; exact recs_lay h.gen h.fits h2
theorem genOK_map {g : Nat} (hg : g < 4294967296) : ∀ (l : List (List UInt8)) (gen : Nat), gen ≤ g → genOK gen (l.map (·, g))
 | [], _, _ => trivial
 | _ :: l, _, h => ⟨h, hg, genOK_map hg l g (Nat.le_refl _)⟩
theorem lastG_map {g : Nat} : ∀ (l : List (List UInt8)) (gen : Nat), gen ≤ g → lastG gen (l.map (·, g)) ≤ g
 | [], _, h => h
 | _ :: l, _, _ => lastG_map l g (Nat.le_refl _)
theorem lastG_map' {g : Nat} : ∀ (l : List (List UInt8)) (gen : Nat), l ≠ [] → lastG gen (l.map (·, g)) = g
 | [], _, h => absurd rfl h
 | [_], _, _ => rfl
 | _ :: b :: l, _, _ => lastG_map' (b :: l) g (by simp)
theorem occR_map (l : List (List UInt8)) (g : Nat) : occR (l.map (·, g)) = occN l := by simp [occR, Function.comp_def]
theorem torn_bad {w s : List UInt8} (hw : w.length = 128) (h : four w 0 ≠ four s 124) : ∀ k : Int, ¬ GoodP (w.take 64 ++ s.drop 64) k := by
 intro k hk
 have e1 : four (w.take 64 ++ s.drop 64) 0 = four w 0 := by
   have : ∀ i, i < 64 → (w.take 64 ++ s.drop 64).getD i 0 = w.getD i 0 := fun i hi => by
     simp only [List.getD]
     rw [List.getElem?_append_left (by simp; omega), List.getElem?_take, if_pos hi]
   simp only [four, this 0 (by omega), this (0 + 1) (by omega), this (0 + 2) (by omega), this (0 + 3) (by omega)]
 have e2 : four (w.take 64 ++ s.drop 64) 124 = four s 124 := by
   have : ∀ i, 64 ≤ i → (w.take 64 ++ s.drop 64).getD i 0 = s.getD i 0 := fun i hi => by
     simp only [List.getD]
     rw [List.getElem?_append_right (by simp; omega), List.getElem?_drop]
     congr 2; simp; omega
   simp only [four, this 124 (by omega), this (124 + 1) (by omega), this (124 + 2) (by omega), this (124 + 3) (by omega)]
 exact h (e1.symm.trans (hk.2.1.trans e2))
theorem torn_four {w s : List UInt8} (hw : w.length = 128) : four (w.take 64 ++ s.drop 64) 0 = four w 0 ∧ four (w.take 64 ++ s.drop 64) 124 = four s 124 := by
 refine ⟨?_, ?_⟩
 · have : ∀ i, i < 64 → (w.take 64 ++ s.drop 64).getD i 0 = w.getD i 0 := fun i hi => by
     simp only [List.getD]
     rw [List.getElem?_append_left (by simp; omega), List.getElem?_take, if_pos hi]
   simp only [four, this 0 (by omega), this (0 + 1) (by omega), this (0 + 2) (by omega), this (0 + 3) (by omega)]
 · have : ∀ i, 64 ≤ i → (w.take 64 ++ s.drop 64).getD i 0 = s.getD i 0 := fun i hi => by
     simp only [List.getD]
     rw [List.getElem?_append_right (by simp; omega), List.getElem?_drop]
     congr 2; simp; omega
   simp only [four, this 124 (by omega), this (124 + 1) (by omega), this (124 + 2) (by omega), this (124 + 3) (by omega)]
theorem Inv.whole {ss : List (List UInt8)} {R : List (List UInt8 × Nat)} {G : Nat} (h : Inv ss R G) {new : List (List UInt8)} (hocc : occR R + occN new ≤ ss.length) (hl : ss.length ≤ 4096) (hne : new ≠ []) (hG : G < 4294967295) :
   Inv (perform ss (putL (G + 1) (occR R) new)) (R ++ new.map (·, G + 1)) (G + 1) := by
 obtain ⟨tail, h1, h2⟩ := h.form
 have hpe : perform ss (putL (G + 1) (occR R) new) = lay 0 (R ++ new.map (·, G + 1)) ++ ss.drop (occR R + occN new) := by
   rw [putL_seq, perform_seq _ _ _ (by rw [lay_len, occR_map]; exact hocc), lay_len, occR_map, lay_append, Nat.zero_add]
   rw [show ss.take (occR R) = lay 0 R by rw [h1]; exact List.take_left' (lay_len R 0)]
   simp
 have hold : ∀ s ∈ ss, four s 0 ≤ G ∧ four s 124 ≤ G := fun s hs => by rw [← h.great]; exact greatL_ge hs
 have hR0 : ∀ s ∈ lay 0 R, four s 0 ≤ G ∧ four s 124 ≤ G := fun s hs => hold s (by rw [h1]; exact List.mem_append_left _ hs)
 have hlay : ∀ s ∈ lay (0 + occR R) (new.map (·, G + 1)), four s 0 = G + 1 ∧ four s 124 = G + 1 := lay_four (by omega) new _
 have hlast : lastG 1 (R ++ new.map (·, G + 1)) = G + 1 := by rw [lastG_append]; exact lastG_map' new _ hne
 refine ⟨?_, genOK_append _ _ _ h.gen (genOK_map (by omega) new _ h.last), by omega, ?_, by rw [occR_append, occR_map]; omega, _, hpe, ?_⟩
 · rw [hpe]
   intro s hs
   rcases List.mem_append.1 hs with hs | hs
   · exact lay_128 _ _ s hs
   · exact h.s128 s (List.mem_of_mem_drop hs)
 · rw [hpe]
   apply Nat.le_antisymm
   · refine greatL_le fun s hs => ?_
     rcases List.mem_append.1 hs with hs | hs
     · rw [lay_append] at hs
       rcases List.mem_append.1 hs with hs | hs
       · have := hR0 s hs; omega
       · have := hlay s hs; omega
     · have := hold s (List.mem_of_mem_drop hs); omega
   · cases new with
     | nil => exact absurd rfl hne
     | cons b l =>
       have e := encodeL_drop b (0 + occR R) (G + 1) 0 (pieces_pos _)
       rw [List.drop_zero] at e
       have hm : secE b (0 + occR R) (G + 1) 0 ∈ lay (0 + occR R) ((b :: l).map (·, G + 1)) := by
         rw [List.map_cons, lay, e]; exact List.mem_append_left _ (.head _)
       have hg := (hlay _ hm).1
       have := (greatL_ge (ss := lay 0 (R ++ (b :: l).map (·, G + 1)) ++ ss.drop (occR R + occN (b :: l))) (s := secE b (0 + occR R) (G + 1) 0) (List.mem_append_left _ (by rw [lay_append]; exact List.mem_append_right _ hm))).1
       omega
 · rw [hlast]
   exact stop_old fun s hs => by have := (hold s (List.mem_of_mem_drop hs)).1; omega
theorem Inv.torn {ss : List (List UInt8)} {R : List (List UInt8 × Nat)} {G : Nat} (h : Inv ss R G) {new : List (List UInt8)} (hocc : occR R + occN new ≤ ss.length) (hl : ss.length ≤ 4096) (hG : G < 4294967295) {m : Nat} (hm : m < occN new) :
   ∃ j, j < new.length ∧ Inv (tear (perform ss ((putL (G + 1) (occR R) new).take m)) ((putL (G + 1) (occR R) new).getD m (0, []))) (R ++ (new.take j).map (·, G + 1)) (G + 1) := by
 obtain ⟨tail, h1, h2⟩ := h.form
 obtain ⟨W, hW⟩ : ∃ W, W = lay (occR R) (new.map (·, G + 1)) := ⟨_, rfl⟩
 have hWl : W.length = occN new := by rw [hW, lay_len, occR_map]
 have hWm := List.getElem_mem (show m < W.length by omega)
 have hW128 : W[m].length = 128 := lay_128 _ _ _ (by rw [← hW]; exact hWm)
 have hlay : ∀ s ∈ W, four s 0 = G + 1 ∧ four s 124 = G + 1 := by rw [hW]; exact lay_four (by omega) new _
 have hold : ∀ s ∈ ss, four s 0 ≤ G ∧ four s 124 ≤ G := fun s hs => by rw [← h.great]; exact greatL_ge hs
 have hlt : occR R + m < ss.length := by omega
 have hpe : perform ss ((putL (G + 1) (occR R) new).take m) = ss.take (occR R) ++ (W.take m ++ ss.drop (occR R + m)) := by
   rw [putL_seq, seqW_take, ← hW, perform_seq _ _ _ (by rw [List.length_take]; omega), List.length_take, Nat.min_eq_left (by omega)]
 have hdr : ss.drop (occR R + m) = ss[occR R + m] :: ss.drop (occR R + m + 1) := List.drop_eq_getElem_cons hlt
 have hte : tear (perform ss ((putL (G + 1) (occR R) new).take m)) ((putL (G + 1) (occR R) new).getD m (0, [])) = lay 0 R ++ (W.take m ++ (W[m].take 64 ++ ss[occR R + m].drop 64) :: ss.drop (occR R + m + 1)) := by
   rw [hpe, putL_seq, ← hW, seqW_get W _ m (by omega), show ss.take (occR R) = lay 0 R by rw [h1]; exact List.take_left' (lay_len R 0), hdr]
   unfold tear
   simp only [Int.toNat_natCast]
   have hl1 : (lay 0 R ++ W.take m).length = occR R + m := by rw [List.length_append, lay_len, List.length_take]; omega
   have e1 : lay 0 R ++ (W.take m ++ ss[occR R + m] :: ss.drop (occR R + m + 1)) = (lay 0 R ++ W.take m) ++ ss[occR R + m] :: ss.drop (occR R + m + 1) := by simp
   rw [e1]
   have e2 : ((lay 0 R ++ W.take m) ++ ss[occR R + m] :: ss.drop (occR R + m + 1)).getD (occR R + m) [] = ss[occR R + m] := by
     simp only [List.getD]
     rw [List.getElem?_append_right (by omega), hl1, Nat.sub_self, List.getElem?_cons_zero, Option.getD_some]
   rw [e2, List.set_append_right _ _ (by omega), hl1, Nat.sub_self, List.set_cons_zero]
   simp
 have hos := hold _ (List.getElem_mem hlt)
 have hwm := hlay _ hWm
 have htb := torn_bad (w := W[m]) (s := ss[occR R + m]) hW128 (by omega)
 have htf := torn_four (w := W[m]) (s := ss[occR R + m]) hW128
 obtain ⟨j, hj, tl, e1, e2⟩ := torn_lay (g := G + 1) (by omega) (by omega) htb (ss.drop (occR R + m + 1)) new (occR R) m (by omega) hm
 rw [← hW] at e1
 have hform : tear (perform ss ((putL (G + 1) (occR R) new).take m)) ((putL (G + 1) (occR R) new).getD m (0, [])) = lay 0 (R ++ (new.take j).map (·, G + 1)) ++ tl := by
   rw [hte, e1, lay_append, Nat.zero_add]; simp
 have hoj : occN (new.take j) ≤ occN new := by
   unfold occN
   conv => rhs; rw [← List.take_append_drop j new, List.map_append, List.sum_append]
   omega
 have hl : lastG 1 (R ++ (new.take j).map (·, G + 1)) ≤ G + 1 := by rw [lastG_append]; exact lastG_map _ _ h.last
 have hall : ∀ s ∈ tear (perform ss ((putL (G + 1) (occR R) new).take m)) ((putL (G + 1) (occR R) new).getD m (0, [])), s.length = 128 ∧ four s 0 ≤ G + 1 ∧ four s 124 ≤ G + 1 := by
   rw [hte]
   intro s hs
   rcases List.mem_append.1 hs with hs | hs
   · have hs' : s ∈ ss := by rw [h1]; exact List.mem_append_left _ hs
     have := hold s hs'
     exact ⟨h.s128 s hs', by omega, by omega⟩
   rcases List.mem_append.1 hs with hs | hs
   · have hs' := List.mem_of_mem_take hs
     have := hlay s hs'
     exact ⟨lay_128 _ _ _ (by rw [← hW]; exact hs'), by omega, by omega⟩
   rcases List.mem_cons.1 hs with rfl | hs
   · have h8 := h.s128 _ (List.getElem_mem hlt)
     exact ⟨by simp; omega, by omega, by omega⟩
   · have hs' := List.mem_of_mem_drop hs
     have := hold s hs'
     exact ⟨h.s128 s hs', by omega, by omega⟩
 refine ⟨j, hj, fun s hs => (hall s hs).1, genOK_append _ _ _ h.gen (genOK_map (by omega) _ _ h.last), by omega, ?_, by rw [occR_append, occR_map]; omega, tl, hform, ?_⟩
 · apply Nat.le_antisymm (greatL_le fun s hs => (hall s hs).2)
   have := (greatL_ge (ss := lay 0 R ++ (W.take m ++ (W[m].take 64 ++ ss[occR R + m].drop 64) :: ss.drop (occR R + m + 1))) (s := W[m].take 64 ++ ss[occR R + m].drop 64) (List.mem_append_right _ (List.mem_append_right _ (.head _)))).1
   rw [← hte] at this
   omega
 · rw [occR_append, occR_map]; exact e2 _
end Go.Proofs.Ytcgpikmaapallaa
/- Journals: Open, Append and Sync of a disk whose records are known. Conditions: none. -/
namespace Go.Proofs.Ytcgpikmaapallaa
open Go.Avc
structure InvD (d : Disk) (R : List (List UInt8 × Nat)) (G : Nat) : Prop where
 pend : d.pending = []
 run : d.stopped = false
 left : -1 ≤ d.left ∧ d.left ≤ 65536
 len : 1 ≤ d.sectors.length ∧ d.sectors.length ≤ 4096
 inv : Inv d.sectors R G
theorem InvD.good {d : Disk} {R : List (List UInt8 × Nat)} {G : Nat} (h : InvD d R G) : d.good := by
 have h1 := h.len
 have h2 := h.left
 exact ⟨by omega, by omega, by rw [h.pend]; simp, by omega, by omega, h.inv.s128, by rw [h.pend]; simp⟩
theorem InvD.open {d : Disk} {R : List (List UInt8 × Nat)} {G : Nat} (h : InvD d R G) : openJ d = (⟨R.map (·.1), d.sectors.length, R.length⟩, 0) := by
 unfold openJ
 rw [if_pos (check_good h.good), if_neg (by rw [h.run]; simp), if_neg (by rw [h.pend]; simp), h.inv.recs, List.length_map]
theorem occN_append (l m : List (List UInt8)) : occN (l ++ m) = occN l + occN m := by simp [occN]
theorem occN_pos {l : List (List UInt8)} (h : l ≠ []) : 1 ≤ occN l := by
 cases l with
 | nil => exact absurd rfl h
 | cons b l => simp only [occN, List.map_cons, List.sum_cons]; have := pieces_pos b.length; omega
theorem InvD.syncW {d : Disk} {R : List (List UInt8 × Nat)} {G : Nat} (h : InvD d R G) (hG : G < 4294967295) {j : Jour} {new : List (List UInt8)} (hr : j.records = R.map (·.1) ++ new) (hm : j.many = d.sectors.length) (hs : j.synced = R.length)
   (hocc : occN j.records ≤ d.sectors.length) :
   (∃ d' G', j.sync d = (⟨j.records, j.many, j.records.length⟩, d', 0) ∧ d'.sectors.length = d.sectors.length ∧ InvD d' (R ++ new.map (·, G + 1)) G' ∧ G' ≤ G + 1 ∧ (d.left = -1 → d'.left = -1) ∧ (new ≠ [] → d.left = -1 ∨ 1 ≤ d.left)) ∨
   (d.left ≠ -1 ∧ ∃ d' n G', j.sync d = (zeroJ, d', 470) ∧ d'.sectors.length = d.sectors.length ∧ n < new.length ∧ InvD ⟨d'.sectors, [], -1, false⟩ (R ++ (new.take n).map (·, G + 1)) G' ∧ G' ≤ G + 1 ∧ d' = ⟨d'.sectors, [], 0, true⟩) := by
 have hl := h.len
 have hleft := h.left
 have hgood : j.good := ⟨by omega, by omega, by omega, by rw [hr, hs]; simp; omega, by omega⟩
 have htake : j.records.take j.synced.toNat = R.map (·.1) := by
   rw [hr, hs, Int.toNat_natCast]; exact List.take_left' (by simp)
 have hdrop : j.records.drop j.synced.toNat = new := by
   rw [hr, hs, Int.toNat_natCast]; exact List.drop_left' (by simp)
 have hoR : occN (R.map (·.1)) = occR R := rfl
 have hsum : occN j.records = occR R + occN new := by rw [hr, occN_append, hoR]
 have hsync : j.sync d = if j.synced = j.records.length then (j, d, 0) else
     if ({ d with pending := putL (G + 1) (occR R) new } : Disk).sync.2 = 0 then ({ j with synced := j.records.length }, ({ d with pending := putL (G + 1) (occR R) new } : Disk).sync.1, 0)
     else (zeroJ, ({ d with pending := putL (G + 1) (occR R) new } : Disk).sync.1, ({ d with pending := putL (G + 1) (occR R) new } : Disk).sync.2) := by
   unfold Jour.sync
   rw [if_neg (by simpa using hgood), if_neg (by simpa using check_good h.good), if_neg (by rw [h.run]; simp), if_neg (by rw [h.pend]; simp; omega), htake, if_neg (by rw [h.inv.recs]; simp), hdrop, h.inv.great, if_neg (by omega), hoR]
 rw [hsync]
 by_cases hne : new = []
 · subst hne
   rw [if_pos (by rw [hr, hs]; simp)]
   refine .inl ⟨d, G, ?_, rfl, by simpa using h, by omega, fun h => h, fun h => absurd rfl h⟩
   have : (j.records.length : Int) = j.synced := by rw [hr, hs]; simp
   rw [this]
 · have hnl : 0 < new.length := List.length_pos_iff.2 hne
   rw [if_neg (by rw [hr, hs]; simp; omega)]
   have hpl : (putL (G + 1) (occR R) new).length = occN new := putL_len _ _ _
   have hready : ({ d with pending := putL (G + 1) (occR R) new } : Disk).ready = 0 := by
     refine ready_ok (check_good ⟨(show ¬ d.sectors.length < 1 by omega), (show ¬ 4096 < d.sectors.length by omega), by simp only [hpl]; omega, (show ¬ d.left < -1 by omega), (show ¬ 65536 < d.left by omega), h.inv.s128, ?_⟩) h.run
     intro p hp
     simp only [putL_seq] at hp
     obtain ⟨p1, p2, p3⟩ := seqW_mem hp
     rw [lay_len, occR_map] at p2
     exact ⟨by omega, by simp only; omega, lay_128 _ _ _ p3⟩
   unfold Disk.sync
   rw [if_pos hready]
   simp only [hpl]
   by_cases hw : d.left = -1 ∨ (occN new : Int) ≤ d.left
   · rw [if_pos hw]
     simp only [if_true]
     refine .inl ⟨_, G + 1, rfl, by rw [perform_len], ⟨rfl, rfl, ?_, by rw [perform_len]; exact hl, h.inv.whole (by omega) hl.2 hne hG⟩, by omega, fun h => by simp [h], fun _ => by have := occN_pos hne; omega⟩
     simp only
     split <;> omega
   · rw [if_neg hw]
     rw [if_neg (by simp)]
     have hm : d.left.toNat < occN new := by omega
     obtain ⟨n, hn, hi⟩ := h.inv.torn (new := new) (by omega) hl.2 hG hm
     exact .inr ⟨by omega, _, n, G + 1, rfl, by simp [tear, perform_len], hn, ⟨rfl, rfl, by simp, by simp only [tear, List.length_set, perform_len]; exact hl, hi⟩, by omega, rfl⟩
theorem InvD.sync {d : Disk} {R : List (List UInt8 × Nat)} {G : Nat} (h : InvD d R G) (hG : G < 4294967295) {j : Jour} {new : List (List UInt8)} (hr : j.records = R.map (·.1) ++ new) (hm : j.many = d.sectors.length) (hs : j.synced = R.length)
   (hocc : occN j.records ≤ d.sectors.length) :
   (∃ d' G', j.sync d = (⟨j.records, j.many, j.records.length⟩, d', 0) ∧ d'.sectors.length = d.sectors.length ∧ InvD d' (R ++ new.map (·, G + 1)) G' ∧ G' ≤ G + 1 ∧ (d.left = -1 → d'.left = -1)) ∨
   (d.left ≠ -1 ∧ ∃ d' n G', j.sync d = (zeroJ, d', 470) ∧ d'.sectors.length = d.sectors.length ∧ n ≤ new.length ∧ InvD ⟨d'.sectors, [], -1, false⟩ (R ++ (new.take n).map (·, G + 1)) G' ∧ G' ≤ G + 1) := by
 rcases h.syncW hG hr hm hs hocc with ⟨d', G', h1, h2, h3, h4, h5, _⟩ | ⟨h1, d', n, G', h2, h3, h4, h5, h6, _⟩
 · exact .inl ⟨d', G', h1, h2, h3, h4, h5⟩
 · exact .inr ⟨h1, d', n, G', h2, h3, Nat.le_of_lt h4, h5, h6⟩
theorem new_inv {n : Nat} (h1 : 1 ≤ n) (h2 : n ≤ 4096) : InvD ⟨List.replicate n zeroS, [], -1, false⟩ [] 0 := by
 have hz : four zeroS 0 = 0 ∧ four zeroS 124 = 0 := by decide
 have hm : ∀ s ∈ List.replicate n zeroS, s = zeroS := fun s hs => (List.mem_replicate.1 hs).2
 refine ⟨rfl, rfl, by simp, by simp; omega, fun s hs => by rw [hm s hs]; rfl, trivial, by simp [lastG], ?_, by simp [occR, occN], _, rfl, stop_old fun s hs => by rw [hm s hs, hz.1]; simp [lastG]⟩
 exact Nat.le_zero.1 (greatL_le fun s hs => by rw [hm s hs]; omega)
def Jour.add (j : Jour) : List (List UInt8) → Jour
 | [] => j
 | b :: l => (if (j.append b).2 = 0 then (j.append b).1 else j).add l
theorem Jour.add_append (j : Jour) (l m : List (List UInt8)) : j.add (l ++ m) = (j.add l).add m := by
 induction l generalizing j with
 | nil => rfl
 | cons b l ih => rw [List.cons_append, Jour.add, ih, Jour.add]
theorem append_cases (j : Jour) (b : List UInt8) : ((j.append b).2 = 0 ∧ (j.append b).1 = ⟨j.records ++ [b], j.many, j.synced⟩ ∧ j.good ∧ occN j.records + piecesN b.length ≤ j.many) ∨ ((j.append b).2 ≠ 0 ∧ (j.append b).1 = zeroJ ∧ ¬ (j.good ∧ occN j.records + piecesN b.length ≤ j.many)) := by
 unfold Jour.append
 split
 · rename_i hg
   split
   · exact .inr ⟨by simp, rfl, fun h => by have := h.2; omega⟩
   · exact .inl ⟨rfl, rfl, hg, by omega⟩
 · rename_i hg; exact .inr ⟨by simp, rfl, fun h => hg h.1⟩
theorem Jour.add_spec (l : List (List UInt8)) : ∀ (j : Jour), j.good → ∃ new, (j.add l).records = j.records ++ new ∧ (j.add l).many = j.many ∧ (j.add l).synced = j.synced ∧ (j.add l).good ∧ lensN (j.add l).records ≤ lensN j.records + lensN l ∧
   ∀ j' : Jour, j'.good → j'.records = j.records → j'.many = j.many → (j'.add l).records = (j.add l).records := by
 induction l with
 | nil => intro j hg; exact ⟨[], by simp [Jour.add], rfl, rfl, hg, by simp [Jour.add], fun j' _ h _ => h⟩
 | cons b l ih =>
   intro j hg
   have hlen : lensN (b :: l) = b.length + 1 + lensN l := by simp [lensN]
   rcases append_cases j b with ⟨h1, h2, _, h4⟩ | ⟨h1, h2, h3⟩
   · have hg2 : (⟨j.records ++ [b], j.many, j.synced⟩ : Jour).good := by
       obtain ⟨g1, g2, g3, g4, g5⟩ := hg
       exact ⟨g1, g2, g3, by simp; omega, by simp only [occN_append]; simp only [occN, List.map_cons, List.map_nil, List.sum_cons, List.sum_nil] at h4 ⊢; omega⟩
     obtain ⟨new, e1, e2, e3, e4, e5, e6⟩ := ih _ hg2
     rw [Jour.add, if_pos h1, h2]
     refine ⟨b :: new, by rw [e1]; simp, e2, e3, e4, ?_, fun j' hg' hr hm => ?_⟩
     · rw [hlen]
       have : lensN (j.records ++ [b]) = lensN j.records + (b.length + 1) := by simp [lensN]
       simp only [this] at e5; omega
     · rcases append_cases j' b with ⟨k1, k2, _, _⟩ | ⟨k1, k2, k3⟩
       · rw [Jour.add, if_pos k1, k2]
         refine e6 _ ?_ (by simp only; rw [hr]) hm
         obtain ⟨g1, g2, g3, g4, g5⟩ := hg'
         obtain ⟨_, _, _, _, q5⟩ := hg2
         exact ⟨g1, g2, g3, by simp; omega, by simp only [hr, hm] at q5 ⊢; exact q5⟩
       · exact absurd ⟨hg', by rw [hr, hm]; exact h4⟩ k3
   · rw [Jour.add, if_neg h1]
     obtain ⟨new, e1, e2, e3, e4, e5, e6⟩ := ih j hg
     refine ⟨new, e1, e2, e3, e4, by rw [hlen]; omega, fun j' hg' hr hm => ?_⟩
     rcases append_cases j' b with ⟨k1, k2, _, k4⟩ | ⟨k1, k2, k3⟩
     · exact absurd ⟨hg, by rw [← hr, ← hm]; exact k4⟩ h3
     · rw [Jour.add, if_neg k1]; exact e6 j' hg' hr hm
end Go.Proofs.Ytcgpikmaapallaa
