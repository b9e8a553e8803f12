/- Journals: pieces, occupied, Check, Room, Append. Conditions: none. -/
import Derived.Test.YtcgpikmaapallaaWd
import Derived.Test.YtcgpikmaapallaaWg
import Derived.Test.YtcgpikmaapallaaWf
set_option linter.unusedSimpArgs false
set_option linter.unusedVariables false
set_option maxRecDepth 20000
set_option maxHeartbeats 4000000
namespace Go.Proofs.Ytcgpikmaapallaa
open Go.Avc
def piecesN (n : Nat) : Nat := max ((n + 111) / 112) 1
def occN (l : List (List UInt8)) : Nat := (l.map fun b => piecesN b.length).sum
def lensN (l : List (List UInt8)) : Nat := (l.map fun b => b.length + 1).sum
theorem occN_take (l : List (List UInt8)) {k : Nat} (h : k < l.length) : occN (l.take (k + 1)) = occN (l.take k) + piecesN l[k].length := by
 unfold occN
 rw [List.take_succ_eq_append_getElem h, List.map_append, List.sum_append]
 simp
theorem piecesN_le (n : Nat) : piecesN n ≤ n + 1 := by unfold piecesN; omega
theorem occN_le (l : List (List UInt8)) : occN l ≤ lensN l := by
 induction l with
 | nil => simp [occN, lensN]
 | cons b l ih => simp only [occN, lensN, List.map_cons, List.sum_cons] at ih ⊢; have := piecesN_le b.length; omega
theorem lensN_take (l : List (List UInt8)) (k : Nat) : lensN (l.take k) ≤ lensN l := by
 unfold lensN
 conv => rhs; rw [← List.take_append_drop k l, List.map_append, List.sum_append]
 omega
theorem lensN_mem {l : List (List UInt8)} {b : List UInt8} (h : b ∈ l) : b.length + 1 ≤ lensN l := by
 unfold lensN
 induction l with
 | nil => cases h
 | cons c l ih =>
   simp only [List.map_cons, List.sum_cons]
   rcases List.mem_cons.1 h with rfl | h
   · omega
   · have := ih h; omega
theorem lensN_len (l : List (List UInt8)) : l.length ≤ lensN l := by
 induction l with
 | nil => simp
 | cons b l ih => simp only [lensN, List.map_cons, List.sum_cons, List.length_cons] at ih ⊢; omega
def Jour.good (j : Jour) : Prop := ¬ j.many < 1 ∧ ¬ 4096 < j.many ∧ ¬ j.synced < 0 ∧ ¬ (j.records.length : Int) < j.synced ∧ ¬ j.many < (occN j.records : Int)
instance (j : Jour) : Decidable j.good := by unfold Jour.good; infer_instance
def Jour.check (j : Jour) : Int := if j.good then 0 else 1
def Jour.room (j : Jour) : Int := if j.good then 112 * (j.many - occN j.records) else 0
def Jour.append (j : Jour) (b : List UInt8) : Jour × Int := if j.good then (if j.many - (occN j.records : Int) < (piecesN b.length : Int) then (zeroJ, 2) else (⟨j.records ++ [b], j.many, j.synced⟩, 0)) else (zeroJ, 1)
attribute [local irreducible] PSub Wp PSpec Le Need Both
theorem pieces_spec (n : Nat) (h : n ≤ 140737488355328) : PSpec Try.prog 36 [.int n] (.int (piecesN n)) := by
 refine PSpec.of_vc (fun Γ => more2 false Γ.P Γ.fx) (fun Γ => more2_ok) Try.func36 rfl Try.call36 (by simp) ?_
 rintro ⟨P, N, w0, X, β0, fx, y, hy, pk, df⟩ rfl rfl rfl hoff rfl; change y.on = false at hoff
 repeat' ((try conv => whnf); first|refine s4 nm ?_|refine aq bd ?_|fail)
 refine ⟨(((n + 111) / 112 : Nat) : Int), ?_, ?_⟩
 · rw [Int.tdiv_eq_ediv_of_nonneg (by omega), IntKind.wrap_i64]; omega
 skip
 exact PSub.of_eq (by unfold piecesN; rw [show (max (((n + 111) / 112 : Nat) : Int) 1) = ((max ((n + 111) / 112) 1 : Nat) : Int) by omega])
theorem occupied_spec (l : List (List UInt8)) (h : lensN l ≤ 4000000) : PSpec Try.prog 37 [encS l] (.int (occN l)) := by
 have hlen := lensN_len l
 refine PSpec.of_vc (fun Γ => more2 false Γ.P Γ.fx) (fun Γ => more2_ok) Try.func37 rfl Try.call37 (by simp) ?_
 rintro ⟨P, N, w0, X, β0, fx, y, hy, pk, df⟩ rfl rfl rfl hoff rfl; change y.on = false at hoff
 skip
 refine Wp.loop (fun k : Nat => ⟨[(2, .int (occN (l.take k))), (5, .pure (encS l)), (6, .int l.length), (7, .int k)], [], []⟩) (fun k => k ≤ l.length) (fun k => l.length - k) 0 (Le.of ?_ ?_ rfl rfl rfl) (by omega) ?_
 · (repeat' (first|exact trivial|refine aq ?_ ?_|exact oq|exact l1 bd|fail))
 · (repeat' (first|exact trivial|fail))
 intro k hk
 have ho := Nat.le_trans (occN_le (l.take k)) (lensN_take l k)
 by_cases hk2 : k < l.length
 · have hb := lensN_mem (List.getElem_mem hk2)
   have hn := occN_take l hk2
   have hp := piecesN_le l[k].length
   have q := pieces_spec l[k].length (by omega)
   obtain ⟨pn, hpn⟩ : ∃ pn, pn = piecesN l[k].length := ⟨_, rfl⟩
   rw [← hpn] at q hn hp
   refine code_sound (more := more2 false _ _) more2_ok FOK.wide _ ?_
   repeat' ((try conv => whnf); first|(first|refine k3 ?_ ?_|refine k4 ?_ ?_) <;> intro hb <;> (try rw [lM] at hb) <;> try (exfalso; omega)|refine s5 nm nm ?_|fail)
   refine .inl ⟨.int pn, by simp only [List.length_map]; exact q, ?_⟩
   repeat' ((try conv => whnf); first|refine s4 nm ?_|fail)
   refine ⟨k + 1, Le.of ?_ (by (repeat' (first|exact trivial|fail))) rfl rfl rfl, by omega, by omega⟩
   (repeat' (first|exact trivial|refine aq ?_ ?_|exact oq|exact l1 bd|fail))
 · have ek : k = l.length := by omega
   subst ek
   refine code_sound (more := more2 false _ _) more2_ok FOK.wide _ ?_
   repeat' ((try conv => whnf); first|(first|refine k3 ?_ ?_|refine k4 ?_ ?_) <;> intro hb <;> (try rw [lM] at hb) <;> try (exfalso; omega)|fail)
   exact PSub.of_eq (by rw [List.take_length])
theorem jcheck_spec (j : Jour) (h : lensN j.records ≤ 4000000) : PSpec Try.prog 17 [encJ j] (.int j.check) := by
 have q := occupied_spec j.records h
 have bad : ¬ j.good → PSub (.val (.int .i64 1)) (.int j.check) := fun h => PSub.val_int (by unfold Jour.check; rw [if_neg h])
 obtain ⟨oc, hoc⟩ : ∃ oc, oc = occN j.records := ⟨_, rfl⟩
 have hg : j.good ↔ ¬ j.many < 1 ∧ ¬ 4096 < j.many ∧ ¬ j.synced < 0 ∧ ¬ (j.records.length : Int) < j.synced ∧ ¬ j.many < (oc : Int) := by rw [hoc]; exact Iff.rfl
 rw [← hoc] at q
 refine PSpec.of_vc (fun Γ => more2 false Γ.P Γ.fx) (fun Γ => more2_ok) Try.func17 rfl Try.call17 (by simp) ?_
 rintro ⟨P, N, w0, X, β0, fx, y, hy, pk, df⟩ rfl rfl rfl hoff rfl; change y.on = false at hoff
 skip
 refine Wp.draw (more := more2 true _ _) more2_det more2_ok FOK.wide rfl (by decide +kernel) (by conv => lhs; reduce) ?_
 repeat' ((try conv => whnf); first|(first|refine k3 ?_ ?_|refine k4 ?_ ?_) <;> intro hb <;> (try rw [lM] at hb) <;> try (exfalso; omega)|fail)
 · exact bad fun h => (hg.1 h).1 (by omega)
 · exact bad fun h => (hg.1 h).2.1 (by omega)
 · exact bad fun h => (hg.1 h).2.2.1 (by omega)
 · exact bad fun h => (hg.1 h).2.2.2.1 (by omega)
 refine ⟨_, q, ?_⟩
 repeat' ((try conv => whnf); first|(first|refine k3 ?_ ?_|refine k4 ?_ ?_) <;> intro hb <;> (try rw [lM] at hb) <;> try (exfalso; omega)|fail)
 · exact bad fun h => (hg.1 h).2.2.2.2 (by omega)
 · exact PSub.val_int (by unfold Jour.check; rw [if_pos (hg.2 ⟨by omega, by omega, by omega, by omega, by omega⟩)])
theorem room_spec (j : Jour) (h : lensN j.records ≤ 4000000) : PSpec Try.prog 19 [encJ j] (.int j.room) := by
 have q := occupied_spec j.records h
 have qc := jcheck_spec j h
 have hol := Nat.le_trans (occN_le j.records) h
 by_cases hg : j.good
 · obtain ⟨g1, g2, g3, g4, g5⟩ := hg
   have e : j.check = 0 := by unfold Jour.check; rw [if_pos ⟨g1, g2, g3, g4, g5⟩]
   have e2 : j.room = 112 * (j.many - occN j.records) := by unfold Jour.room; rw [if_pos ⟨g1, g2, g3, g4, g5⟩]
   obtain ⟨oc, hoc⟩ : ∃ oc, oc = occN j.records := ⟨_, rfl⟩
   obtain ⟨C, hC⟩ : ∃ C, C = j.check := ⟨_, rfl⟩
   rw [e2]
   rw [← hoc] at q hol g5 ⊢
   rw [← hC] at qc e
   refine PSpec.of_vc (fun Γ => more2 false Γ.P Γ.fx) (fun Γ => more2_ok) Try.func19 rfl Try.call19 (by simp) ?_
   rintro ⟨P, N, w0, X, β0, fx, y, hy, pk, df⟩ rfl rfl rfl hoff rfl; change y.on = false at hoff
   skip
   refine .inl ⟨_, qc, ?_⟩
   repeat' ((try conv => whnf); first|(first|refine k3 ?_ ?_|refine k4 ?_ ?_) <;> intro hb <;> (try rw [lM] at hb) <;> try (exfalso; omega)|fail)
   refine Wp.draw (more := more2 true _ _) more2_det more2_ok FOK.wide rfl (by decide +kernel) (by conv => lhs; reduce) ?_
   skip
   refine ⟨_, q, ?_⟩
   repeat' ((try conv => whnf); first|refine s4 nm ?_|fail)
   exact PSub.refl _
 · have e : j.check = 1 := by unfold Jour.check; rw [if_neg hg]
   have e2 : j.room = 0 := by unfold Jour.room; rw [if_neg hg]
   obtain ⟨C, hC⟩ : ∃ C, C = j.check := ⟨_, rfl⟩
   rw [e2]
   rw [← hC] at qc e
   refine PSpec.of_vc (fun Γ => more2 false Γ.P Γ.fx) (fun Γ => more2_ok) Try.func19 rfl Try.call19 (by simp) ?_
   rintro ⟨P, N, w0, X, β0, fx, y, hy, pk, df⟩ rfl rfl rfl hoff rfl; change y.on = false at hoff
   skip
   refine .inl ⟨_, qc, ?_⟩
   repeat' ((try conv => whnf); first|(first|refine k3 ?_ ?_|refine k4 ?_ ?_) <;> intro hb <;> (try rw [lM] at hb) <;> try (exfalso; omega)|fail)
   exact PSub.refl _
theorem append_spec (j : Jour) (b : List UInt8) (h : lensN j.records ≤ 1000000) (hb1 : b.length ≤ 140737488355328) : PSpec Try.prog 15 [encJ j, encB b] (encJE (j.append b)) := by
 have q := occupied_spec j.records (by omega)
 have qc := jcheck_spec j (by omega)
 have qp := pieces_spec b.length (by omega)
 have hol := Nat.le_trans (occN_le j.records) h
 have hpl := piecesN_le b.length
 have hcov : b.length ≤ 112 * piecesN b.length := by unfold piecesN; omega
 have hll := lensN_len j.records
 obtain ⟨pn, hpn⟩ : ∃ pn, pn = piecesN b.length := ⟨_, rfl⟩
 obtain ⟨oc, hoc⟩ : ∃ oc, oc = occN j.records := ⟨_, rfl⟩
 obtain ⟨C, hC⟩ : ∃ C, C = j.check := ⟨_, rfl⟩
 have happ : j.append b = if j.good then (if j.many - (oc : Int) < (pn : Int) then (zeroJ, 2) else (⟨j.records ++ [b], j.many, j.synced⟩, 0)) else (zeroJ, 1) := by rw [hpn, hoc]; rfl
 rw [happ]
 by_cases hg : j.good
 · obtain ⟨g1, g2, g3, g4, g5⟩ := hg
   have e : j.check = 0 := by unfold Jour.check; rw [if_pos ⟨g1, g2, g3, g4, g5⟩]
   rw [if_pos ⟨g1, g2, g3, g4, g5⟩]
   rw [← hpn] at qp hpl hcov
   rw [← hoc] at q hol g5
   rw [← hC] at qc e
   refine PSpec.of_vc (fun Γ => more2 false Γ.P Γ.fx) (fun Γ => more2_ok) Try.func15 rfl Try.call15 (by simp) ?_
   rintro ⟨P, N, w0, X, β0, fx, y, hy, pk, df⟩ rfl rfl rfl hoff rfl; change y.on = false at hoff
   skip
   refine .inl ⟨_, qc, ?_⟩
   repeat' ((try conv => whnf); first|(first|refine k3 ?_ ?_|refine k4 ?_ ?_) <;> intro hb <;> (try rw [lM] at hb) <;> try (exfalso; omega)|fail)
   refine Wp.draw (more := more2 true _ _) more2_det more2_ok FOK.wide rfl (by decide +kernel) (by conv => lhs; reduce) ?_
   skip
   refine ⟨.int pn, by simp only [List.length_map]; exact qp, ?_⟩
   skip
   refine ⟨_, q, ?_⟩
   repeat' ((try conv => whnf); first|(first|refine k3 ?_ ?_|refine k4 ?_ ?_) <;> intro hb <;> (try rw [lM] at hb) <;> try (exfalso; omega)|refine aq rfl ?_|refine s4 nm ?_|fail)
   · exact sub_jz (by rw [if_pos (by assumption)])
   rw [if_neg (by assumption)]
   refine .inr ⟨[(7, 27)], [.pure (encS j.records)], [], [], [], 1, _, cloneS_own j.records (by omega), ⟨Or.inl rfl, trivial⟩, trivial, ?_⟩
   skip
   refine .inl ⟨_, cloneB_spec b (by omega), ?_⟩
   repeat' ((try conv => whnf); first|refine aq rfl ?_|refine aq bd ?_|fail)
   refine sub_je (PSub.agg ⟨sub_sl ?_, PSub.refl _, PSub.refl _, trivial⟩) rfl
   rw [List.map_append]
   exact List.take_of_length_le (by simp)
 · have e : j.check = 1 := by unfold Jour.check; rw [if_neg hg]
   rw [if_neg hg]
   rw [← hC] at qc e
   refine PSpec.of_vc (fun Γ => more2 false Γ.P Γ.fx) (fun Γ => more2_ok) Try.func15 rfl Try.call15 (by simp) ?_
   rintro ⟨P, N, w0, X, β0, fx, y, hy, pk, df⟩ rfl rfl rfl hoff rfl; change y.on = false at hoff
   skip
   refine .inl ⟨_, qc, ?_⟩
   repeat' ((try conv => whnf); first|(first|refine k3 ?_ ?_|refine k4 ?_ ?_) <;> intro hb <;> (try rw [lM] at hb) <;> try (exfalso; omega)|refine aq rfl ?_|fail)
   exact sub_jz (by rw [e])
end Go.Proofs.Ytcgpikmaapallaa
/- Journals: the sectors of a record. Conditions: none. -/
namespace Go.Proofs.Ytcgpikmaapallaa
open Go.Avc
def sec0 (g k : Nat) : List UInt8 := ((setB (setB zeroS 0 g 4) 124 g 4).set 8 (UInt8.ofNat (k / 256))).set 9 (UInt8.ofNat k)
def orAt (s : List UInt8) (f : UInt8) : List UInt8 := s.set 10 (s.getD 10 0 ||| f)
def sec1 (g k : Nat) (bg : Bool) : List UInt8 := if bg then orAt (sec0 g k) 1 else sec0 g k
def sec2 (g k : Nat) (bg en : Bool) : List UInt8 := if en then orAt (sec1 g k bg) 2 else sec1 g k bg
def sec3 (g k : Nat) (bg en : Bool) (part : List UInt8) : List UInt8 := ovr ((sec2 g k bg en).set 11 (UInt8.ofNat part.length)) 12 part.length part
def secOf (g k : Nat) (bg en : Bool) (part : List UInt8) : List UInt8 := setB (sec3 g k bg en part) 4 (crc (body (sec3 g k bg en part))) 4
def partOf (b : List UInt8) (i : Nat) : List UInt8 := (b.drop (112 * i)).take 112
def encodeL (b : List UInt8) (first g : Nat) : List (List UInt8) := (List.range (piecesN b.length)).map fun i => secOf g (first + i) (i == 0) (i + 1 == piecesN b.length) (partOf b i)
def encR (s : List UInt8) : List PV := (s.map fun b => [PV.val (.int .u8 b.toNat)]).flatten
theorem sec0_len (g k : Nat) : (sec0 g k).length = 128 := by simp [sec0, setB_len, zeroS]
theorem orAt_len (s : List UInt8) (f : UInt8) : (orAt s f).length = s.length := by simp [orAt]
theorem sec1_len (g k : Nat) (bg : Bool) : (sec1 g k bg).length = 128 := by unfold sec1; split <;> simp [orAt_len, sec0_len]
theorem sec2_len (g k : Nat) (bg en : Bool) : (sec2 g k bg en).length = 128 := by unfold sec2; split <;> simp [orAt_len, sec1_len]
theorem sec3_len (g k : Nat) (bg en : Bool) {part : List UInt8} (h : part.length ≤ 112) : (sec3 g k bg en part).length = 128 := by
 simp [sec3, ovr, sec2_len]; omega
theorem secOf_len (g k : Nat) (bg en : Bool) {part : List UInt8} (h : part.length ≤ 112) : (secOf g k bg en part).length = 128 := by
 unfold secOf; rw [setB_len]; exact sec3_len g k bg en h
theorem partOf_le (b : List UInt8) (i : Nat) : (partOf b i).length ≤ 112 := by simp [partOf]; omega
attribute [local irreducible] PSub Wp PSpec Le Need Both
attribute [local irreducible] crc body setB sec0 sec1 sec2 sec3 secOf partOf orAt ovr
theorem encode_spec (b : List UInt8) (first g : Nat) (hb1 : b.length ≤ 1000000) (hf : first ≤ 1000000) (hg : g < 4294967296) : PSpec Try.prog 45 [encB b, .int first, .val (.int .u32 g)] (.sl 128 ((encodeL b first g).map encR)) := by
 have qp := pieces_spec b.length (by omega)
 have hple := piecesN_le b.length
 have hp1 : 1 ≤ piecesN b.length := by unfold piecesN; omega
 have hcov : b.length ≤ 112 * piecesN b.length := by unfold piecesN; omega
 have hmost : 112 * (piecesN b.length - 1) ≤ b.length := by unfold piecesN; omega
 obtain ⟨pn, hpn⟩ : ∃ pn, pn = piecesN b.length := ⟨_, rfl⟩
 have hL : encodeL b first g = (List.range pn).map fun i => secOf g (first + i) (i == 0) (i + 1 == pn) (partOf b i) := by rw [hpn]; rfl
 rw [hL]
 rw [← hpn] at qp hple hp1 hcov hmost
 clear hL
 refine PSpec.of_vc (fun Γ => more2 false Γ.P Γ.fx) (fun Γ => more2_ok) Try.func45 rfl Try.call45 (by simp) ?_
 rintro ⟨P, N, w0, X, β0, fx, y, hy, pk, df⟩ rfl rfl rfl hoff rfl; change y.on = false at hoff
 skip
 refine .inl ⟨.int pn, by simp only [List.length_map]; exact qp, ?_⟩
 skip
 refine Wp.loop (fun i : Nat => ⟨[(0, .pure (encB b)), (1, .int first), (2, .pure (.val (.int .u32 g))), (6, .lsl 300 0 i), (7, .int pn), (14, .int pn), (15, .int i)], [(300, some (.row 128 (((List.range i).map fun i => secOf g (first + i) (i == 0) (i + 1 == pn) (partOf b i)).map encR)))], [300]⟩)
   (fun i => i ≤ pn) (fun i => pn - i) 0 (Le.trans (Le.virt (k := 300) (sz := 128) rfl rfl (by omega)) (Le.of ?_ ?_ rfl rfl rfl)) (by omega) ?_
 · (repeat' (first|exact trivial|refine aq ?_ ?_|exact oq|exact l6 rfl|fail))
 · (repeat' (first|exact trivial|exact rfl|refine aq ?_ ?_|fail))
 intro i hi
 by_cases hi2 : i < pn
 rotate_left
 · have ei : i = pn := by omega
   subst ei
   refine code_sound (more := more2 false _ _) more2_ok FOK.wide _ ?_
   repeat' ((try conv => whnf); first|(first|refine k3 ?_ ?_|refine k4 ?_ ?_) <;> intro hb <;> (try rw [lM] at hb) <;> try (exfalso; omega)|fail)
   refine sub_sl ?_
   exact List.take_of_length_le (by simp)
 refine code_sound (more := more2 false _ _) more2_ok FOK.wide _ ?_
 repeat' ((try conv => whnf); first|(first|refine k3 ?_ ?_|refine k4 ?_ ?_) <;> intro hb <;> (try rw [lM] at hb) <;> try (exfalso; omega)|fail)
 refine .inr ⟨[(1, 9)], [.loc 1 0 0, .int (0 : Nat), .pure (.val (.int .u32 g))], _, _, _, 0, _, setFour_spec zeroS rfl 0 g (by omega) hg, ⟨Or.inl rfl, Or.inl rfl, Or.inl rfl, trivial⟩, ⟨rfl, trivial⟩, ?_⟩
 skip
 refine .inr ⟨[(1, 9)], [.loc 1 0 0, .int (124 : Nat), .pure (.val (.int .u32 g))], _, _, _, 0, _, setFour_spec (setB zeroS 0 g 4) (by rw [setB_len]; rfl) 124 g (by omega) hg, ⟨Or.inl rfl, Or.inl rfl, Or.inl rfl, trivial⟩, ⟨rfl, trivial⟩, ?_⟩
 have efi : ((first : Int) + (i : Int)) = ((first + i : Nat) : Int) := by simp
 repeat' ((try conv => whnf); first|refine s4 nm ?_|refine aq bd ?_|fail)
 refine ⟨(((first + i) / 256 : Nat) : Int), by rw [efi]; exact shr8_i64 _, ?_⟩
 skip
 refine ⟨_, byte_wrap _, ?_⟩
 repeat' ((try conv => whnf); first|refine s4 nm ?_|fail)
 refine ⟨((UInt8.ofNat (first + i)).toNat : Int), by rw [efi]; exact byte_wrap _, ?_⟩
 have hl0 : (setB (setB zeroS 0 g 4) 124 g 4).length = 128 := by rw [setB_len, setB_len]; rfl
 have h0 : ((setB (setB zeroS 0 g 4) 124 g 4).set (Int.toNat 8) (UInt8.ofNat ((first + i) / 256))).set (Int.toNat 9) (UInt8.ofNat (first + i)) = sec0 g (first + i) := by unfold sec0; rfl
 have hs0 := sec0_len g (first + i)
 have h1 : (sec0 g (first + i)).set (Int.toNat 10) ((sec0 g (first + i)).getD (Int.toNat 10) 0 ||| 1) = orAt (sec0 g (first + i)) 1 := by unfold orAt; rfl
 have h2 : (sec0 g (first + i)).set (Int.toNat 10) ((sec0 g (first + i)).getD (Int.toNat 10) 0 ||| 2) = orAt (sec0 g (first + i)) 2 := by unfold orAt; rfl
 have h3 : (orAt (sec0 g (first + i)) 1).set (Int.toNat 10) ((orAt (sec0 g (first + i)) 1).getD (Int.toNat 10) 0 ||| 2) = orAt (orAt (sec0 g (first + i)) 1) 2 := by unfold orAt; rfl
 have hs1 := (orAt_len (sec0 g (first + i)) 1).trans hs0
 have hs2 := (orAt_len (sec0 g (first + i)) 2).trans hs0
 have hs3 := (orAt_len (orAt (sec0 g (first + i)) 1) 2).trans hs1
 have hpart : cut (b.map fun b => [PV.val (.int .u8 b.toNat)]) (112 * (i : Int)).toNat (min (112 * ((i : Int) + 1)) (b.length : Int)).toNat = (partOf b i).map fun b => [PV.val (.int .u8 b.toNat)] := by
   rw [show (112 * (i : Int)).toNat = 112 * i by omega, show (min (112 * ((i : Int) + 1)) (b.length : Int)).toNat = min (112 * (i + 1)) b.length by omega]
   unfold cut partOf
   rw [← List.map_drop, ← List.map_take]
   congr 1
   by_cases hc : 112 * (i + 1) ≤ b.length
   · rw [Nat.min_eq_left hc]; congr 1; omega
   · rw [Nat.min_eq_right (by omega), List.take_of_length_le (by simp), List.take_of_length_le (by simp; omega)]
 have hpl := partOf_le b i
 repeat' ((try conv => whnf); first|(first|refine k3 ?_ ?_|refine k4 ?_ ?_) <;> intro hb <;> (try rw [lM] at hb) <;> try (exfalso; omega)|refine aq rfl ?_|refine s4 nm ?_|refine aq bd ?_|refine ⟨_, _, getMapN nm, rfl, ?_⟩|refine ⟨_, set_map _ _ _, ?_⟩|fail)
 · simp only [h0, get_at]
   refine ⟨_, or_u8 _ 1, ?_⟩
   repeat' ((try conv => whnf); first|(first|refine k3 ?_ ?_|refine k4 ?_ ?_) <;> intro hb <;> (try rw [lM] at hb) <;> try (exfalso; omega)|refine aq rfl ?_|refine s4 nm ?_|refine aq bd ?_|refine ⟨_, _, getMapN nm, rfl, ?_⟩|refine ⟨_, set_map _ _ _, ?_⟩|fail)
   · conv => whnf
     simp only [h1, get_at]
     refine ⟨_, or_u8 _ 2, ?_⟩
     repeat' ((try conv => whnf); first|refine aq rfl ?_|refine s4 nm ?_|refine aq bd ?_|refine ⟨_, set_map _ _ _, ?_⟩|fail)
     conv => whnf
     simp only [h3]
     have hT : ovr ((orAt (orAt (sec0 g (first + i)) 1) 2).set (Int.toNat 11) (UInt8.ofNat (partOf b i).length)) (Int.toNat 12) (partOf b i).length (partOf b i) = sec3 g (first + i) true true (partOf b i) := by
       unfold sec3 sec2 sec1; rfl
     have hTl := sec3_len g (first + i) true true hpl
     simp only [List.length_map, hpart]
     refine ⟨((UInt8.ofNat (partOf b i).length).toNat : Int), by rw [← byte_wrap] <;> simp, ?_⟩
     have hmin : min (partOf b i).length (128 - Int.toNat 12) = (partOf b i).length := by simp; omega
     repeat' ((try conv => whnf); first|refine aq rfl ?_|refine aq bd ?_|refine ⟨_, set_map _ _ _, ?_⟩|fail)
     have hO : ovr (List.map (fun b : UInt8 => [PV.val (.int .u8 b.toNat)]) ((orAt (orAt (sec0 g (first + i)) 1) 2).set (Int.toNat 11) (UInt8.ofNat (partOf b i).length))) (Int.toNat 12) (min (List.map (fun b : UInt8 => [PV.val (.int .u8 b.toNat)]) (partOf b i)).length (128 - Int.toNat 12)) (List.map (fun b : UInt8 => [PV.val (.int .u8 b.toNat)]) (partOf b i)) = (sec3 g (first + i) true true (partOf b i)).map fun b => [PV.val (.int .u8 b.toNat)] := by
       rw [List.length_map, hmin, ovr_map, hT]
     conv => whnf
     simp only [hO]
     obtain ⟨CR, hCR⟩ : ∃ CR, CR = crc (body (sec3 g (first + i) true true (partOf b i))) := ⟨_, rfl⟩
     have hcl : CR < 4294967296 := by rw [hCR]; unfold crc; exact Nat.xor_lt_two_pow (n := 32) (by decide) (crcN_lt _)
     have qcs := checksum_spec _ hTl
     rw [← hCR] at qcs
     refine .inl ⟨_, qcs, ?_⟩
     skip
     refine .inr ⟨[(1, 9)], [.loc 1 0 0, .int (4 : Nat), .pure (.val (.int .u32 CR))], _, _, _, 0, _, setFour_spec _ hTl 4 CR (by omega) hcl, ⟨Or.inl rfl, Or.inl rfl, Or.inl rfl, trivial⟩, ⟨rfl, trivial⟩, ?_⟩
     skip
     refine .inr ⟨rfl, rfl, congrArg some (by rw [List.length_map, setB_len, hTl]; rfl), ?_⟩
     skip
     refine ⟨⟨⟨onesB_flat _ _ (fun _ => rfl), by rw [flat_len, setB_len, hTl]⟩, trivial⟩, ?_⟩
     repeat' ((try conv => whnf); first|refine s4 nm ?_|refine aq bd ?_|fail)
     have hlast : secOf g (first + i) (i == 0) (i + 1 == pn) (partOf b i) = setB (sec3 g (first + i) true true (partOf b i)) 4 CR 4 := by
       rw [show (i == 0) = true by (first | (simp; done) | (simp; omega)), show (i + 1 == pn) = true by (first | (simp; done) | (simp; omega)), hCR]
       unfold secOf; rfl
     refine ⟨i + 1, Le.map [(300, 69)] ?_ ?_ rfl rfl rfl rfl, by omega, by omega⟩
     · (repeat' (first|exact trivial|refine aq ?_ ?_|exact oq|exact SubA.lsl ls|fail))
     · (repeat' (first|exact trivial|refine aq ?_ ?_|fail))
       all_goals (refine rowEq ?_; rw [List.range_succ, List.map_append, List.map_append]; simp only [List.map_cons, List.map_nil, hlast]; rfl)
   · conv => whnf
     simp only [h1]
     have hT : ovr ((orAt (sec0 g (first + i)) 1).set (Int.toNat 11) (UInt8.ofNat (partOf b i).length)) (Int.toNat 12) (partOf b i).length (partOf b i) = sec3 g (first + i) true false (partOf b i) := by
       unfold sec3 sec2 sec1; rfl
     have hTl := sec3_len g (first + i) true false hpl
     simp only [List.length_map, hpart]
     refine ⟨((UInt8.ofNat (partOf b i).length).toNat : Int), by rw [← byte_wrap] <;> simp, ?_⟩
     have hmin : min (partOf b i).length (128 - Int.toNat 12) = (partOf b i).length := by simp; omega
     repeat' ((try conv => whnf); first|refine aq rfl ?_|refine aq bd ?_|refine ⟨_, set_map _ _ _, ?_⟩|fail)
     have hO : ovr (List.map (fun b : UInt8 => [PV.val (.int .u8 b.toNat)]) ((orAt (sec0 g (first + i)) 1).set (Int.toNat 11) (UInt8.ofNat (partOf b i).length))) (Int.toNat 12) (min (List.map (fun b : UInt8 => [PV.val (.int .u8 b.toNat)]) (partOf b i)).length (128 - Int.toNat 12)) (List.map (fun b : UInt8 => [PV.val (.int .u8 b.toNat)]) (partOf b i)) = (sec3 g (first + i) true false (partOf b i)).map fun b => [PV.val (.int .u8 b.toNat)] := by
       rw [List.length_map, hmin, ovr_map, hT]
     conv => whnf
     simp only [hO]
     obtain ⟨CR, hCR⟩ : ∃ CR, CR = crc (body (sec3 g (first + i) true false (partOf b i))) := ⟨_, rfl⟩
     have hcl : CR < 4294967296 := by rw [hCR]; unfold crc; exact Nat.xor_lt_two_pow (n := 32) (by decide) (crcN_lt _)
     have qcs := checksum_spec _ hTl
     rw [← hCR] at qcs
     refine .inl ⟨_, qcs, ?_⟩
     skip
     refine .inr ⟨[(1, 9)], [.loc 1 0 0, .int (4 : Nat), .pure (.val (.int .u32 CR))], _, _, _, 0, _, setFour_spec _ hTl 4 CR (by omega) hcl, ⟨Or.inl rfl, Or.inl rfl, Or.inl rfl, trivial⟩, ⟨rfl, trivial⟩, ?_⟩
     skip
     refine .inr ⟨rfl, rfl, congrArg some (by rw [List.length_map, setB_len, hTl]; rfl), ?_⟩
     skip
     refine ⟨⟨⟨onesB_flat _ _ (fun _ => rfl), by rw [flat_len, setB_len, hTl]⟩, trivial⟩, ?_⟩
     repeat' ((try conv => whnf); first|refine s4 nm ?_|refine aq bd ?_|fail)
     have hlast : secOf g (first + i) (i == 0) (i + 1 == pn) (partOf b i) = setB (sec3 g (first + i) true false (partOf b i)) 4 CR 4 := by
       rw [show (i == 0) = true by (first | (simp; done) | (simp; omega)), show (i + 1 == pn) = false by (first | (simp; done) | (simp; omega)), hCR]
       unfold secOf; rfl
     refine ⟨i + 1, Le.map [(300, 69)] ?_ ?_ rfl rfl rfl rfl, by omega, by omega⟩
     · (repeat' (first|exact trivial|refine aq ?_ ?_|exact oq|exact SubA.lsl ls|fail))
     · (repeat' (first|exact trivial|refine aq ?_ ?_|fail))
       all_goals (refine rowEq ?_; rw [List.range_succ, List.map_append, List.map_append]; simp only [List.map_cons, List.map_nil, hlast]; rfl)
 · simp only [h0, get_at]
   refine ⟨_, or_u8 _ 2, ?_⟩
   repeat' ((try conv => whnf); first|refine aq rfl ?_|refine s4 nm ?_|refine aq bd ?_|refine ⟨_, set_map _ _ _, ?_⟩|fail)
   conv => whnf
   simp only [h2]
   have hT : ovr ((orAt (sec0 g (first + i)) 2).set (Int.toNat 11) (UInt8.ofNat (partOf b i).length)) (Int.toNat 12) (partOf b i).length (partOf b i) = sec3 g (first + i) false true (partOf b i) := by
     unfold sec3 sec2 sec1; rfl
   have hTl := sec3_len g (first + i) false true hpl
   simp only [List.length_map, hpart]
   refine ⟨((UInt8.ofNat (partOf b i).length).toNat : Int), by rw [← byte_wrap] <;> simp, ?_⟩
   have hmin : min (partOf b i).length (128 - Int.toNat 12) = (partOf b i).length := by simp; omega
   repeat' ((try conv => whnf); first|refine aq rfl ?_|refine aq bd ?_|refine ⟨_, set_map _ _ _, ?_⟩|fail)
   have hO : ovr (List.map (fun b : UInt8 => [PV.val (.int .u8 b.toNat)]) ((orAt (sec0 g (first + i)) 2).set (Int.toNat 11) (UInt8.ofNat (partOf b i).length))) (Int.toNat 12) (min (List.map (fun b : UInt8 => [PV.val (.int .u8 b.toNat)]) (partOf b i)).length (128 - Int.toNat 12)) (List.map (fun b : UInt8 => [PV.val (.int .u8 b.toNat)]) (partOf b i)) = (sec3 g (first + i) false true (partOf b i)).map fun b => [PV.val (.int .u8 b.toNat)] := by
     rw [List.length_map, hmin, ovr_map, hT]
   conv => whnf
   simp only [hO]
   obtain ⟨CR, hCR⟩ : ∃ CR, CR = crc (body (sec3 g (first + i) false true (partOf b i))) := ⟨_, rfl⟩
   have hcl : CR < 4294967296 := by rw [hCR]; unfold crc; exact Nat.xor_lt_two_pow (n := 32) (by decide) (crcN_lt _)
   have qcs := checksum_spec _ hTl
   rw [← hCR] at qcs
   refine .inl ⟨_, qcs, ?_⟩
   skip
   refine .inr ⟨[(1, 9)], [.loc 1 0 0, .int (4 : Nat), .pure (.val (.int .u32 CR))], _, _, _, 0, _, setFour_spec _ hTl 4 CR (by omega) hcl, ⟨Or.inl rfl, Or.inl rfl, Or.inl rfl, trivial⟩, ⟨rfl, trivial⟩, ?_⟩
   skip
   refine .inr ⟨rfl, rfl, congrArg some (by rw [List.length_map, setB_len, hTl]; rfl), ?_⟩
   skip
   refine ⟨⟨⟨onesB_flat _ _ (fun _ => rfl), by rw [flat_len, setB_len, hTl]⟩, trivial⟩, ?_⟩
   repeat' ((try conv => whnf); first|refine s4 nm ?_|refine aq bd ?_|fail)
   have hlast : secOf g (first + i) (i == 0) (i + 1 == pn) (partOf b i) = setB (sec3 g (first + i) false true (partOf b i)) 4 CR 4 := by
     rw [show (i == 0) = false by (first | (simp; done) | (simp; omega)), show (i + 1 == pn) = true by (first | (simp; done) | (simp; omega)), hCR]
     unfold secOf; rfl
   refine ⟨i + 1, Le.map [(300, 69)] ?_ ?_ rfl rfl rfl rfl, by omega, by omega⟩
   · (repeat' (first|exact trivial|refine aq ?_ ?_|exact oq|exact SubA.lsl ls|fail))
   · (repeat' (first|exact trivial|refine aq ?_ ?_|fail))
     all_goals (refine rowEq ?_; rw [List.range_succ, List.map_append, List.map_append]; simp only [List.map_cons, List.map_nil, hlast]; rfl)
 · simp only [h0]
   have hT : ovr ((sec0 g (first + i)).set (Int.toNat 11) (UInt8.ofNat (partOf b i).length)) (Int.toNat 12) (partOf b i).length (partOf b i) = sec3 g (first + i) false false (partOf b i) := by
     unfold sec3 sec2 sec1; rfl
   have hTl := sec3_len g (first + i) false false hpl
   simp only [List.length_map, hpart]
   refine ⟨((UInt8.ofNat (partOf b i).length).toNat : Int), by rw [← byte_wrap] <;> simp, ?_⟩
   have hmin : min (partOf b i).length (128 - Int.toNat 12) = (partOf b i).length := by simp; omega
   repeat' ((try conv => whnf); first|refine aq rfl ?_|refine aq bd ?_|refine ⟨_, set_map _ _ _, ?_⟩|fail)
   have hO : ovr (List.map (fun b : UInt8 => [PV.val (.int .u8 b.toNat)]) ((sec0 g (first + i)).set (Int.toNat 11) (UInt8.ofNat (partOf b i).length))) (Int.toNat 12) (min (List.map (fun b : UInt8 => [PV.val (.int .u8 b.toNat)]) (partOf b i)).length (128 - Int.toNat 12)) (List.map (fun b : UInt8 => [PV.val (.int .u8 b.toNat)]) (partOf b i)) = (sec3 g (first + i) false false (partOf b i)).map fun b => [PV.val (.int .u8 b.toNat)] := by
     rw [List.length_map, hmin, ovr_map, hT]
   conv => whnf
   simp only [hO]
   obtain ⟨CR, hCR⟩ : ∃ CR, CR = crc (body (sec3 g (first + i) false false (partOf b i))) := ⟨_, rfl⟩
   have hcl : CR < 4294967296 := by rw [hCR]; unfold crc; exact Nat.xor_lt_two_pow (n := 32) (by decide) (crcN_lt _)
   have qcs := checksum_spec _ hTl
   rw [← hCR] at qcs
   refine .inl ⟨_, qcs, ?_⟩
   skip
   refine .inr ⟨[(1, 9)], [.loc 1 0 0, .int (4 : Nat), .pure (.val (.int .u32 CR))], _, _, _, 0, _, setFour_spec _ hTl 4 CR (by omega) hcl, ⟨Or.inl rfl, Or.inl rfl, Or.inl rfl, trivial⟩, ⟨rfl, trivial⟩, ?_⟩
   skip
   refine .inr ⟨rfl, rfl, congrArg some (by rw [List.length_map, setB_len, hTl]; rfl), ?_⟩
   skip
   refine ⟨⟨⟨onesB_flat _ _ (fun _ => rfl), by rw [flat_len, setB_len, hTl]⟩, trivial⟩, ?_⟩
   repeat' ((try conv => whnf); first|refine s4 nm ?_|refine aq bd ?_|fail)
   have hlast : secOf g (first + i) (i == 0) (i + 1 == pn) (partOf b i) = setB (sec3 g (first + i) false false (partOf b i)) 4 CR 4 := by
     rw [show (i == 0) = false by (first | (simp; done) | (simp; omega)), show (i + 1 == pn) = false by (first | (simp; done) | (simp; omega)), hCR]
     unfold secOf; rfl
   refine ⟨i + 1, Le.map [(300, 69)] ?_ ?_ rfl rfl rfl rfl, by omega, by omega⟩
   · (repeat' (first|exact trivial|refine aq ?_ ?_|exact oq|exact SubA.lsl ls|fail))
   · (repeat' (first|exact trivial|refine aq ?_ ?_|fail))
     all_goals (refine rowEq ?_; rw [List.range_succ, List.map_append, List.map_append]; simp only [List.map_cons, List.map_nil, hlast]; rfl)
end Go.Proofs.Ytcgpikmaapallaa
