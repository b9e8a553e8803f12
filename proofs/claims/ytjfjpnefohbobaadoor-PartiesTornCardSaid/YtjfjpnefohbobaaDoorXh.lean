/- Parties: plain law of what is interrupted. Conditions: none. -/
import Derived.Test.YtjfjpnefohbobaaDoorXe
import Derived.Test.YtjfjpnefohbobaaDoorWd
import Derived.Test.YtjfjpnefohbobaaDoorXg
set_option linter.unusedSimpArgs false
set_option linter.unusedVariables false
namespace Go.Proofs.YtjfjpnefohbobaaDoor
open Go.Avc
theorem noteE_of {p q : Party} {kind day : Int} {body : List UInt8} (h : p.noteE kind day body = 0) (h1 : q.log = p.log) (h2 : q.id = p.id) (h3 : q.jour = p.jour) : q.noteE kind day body = 0 ∨ q.noteE kind day body = 480 := by
  unfold Party.noteE at h ⊢
  rw [h1, h2, h3]
  split at h
  · rename_i hn; exact absurd h hn
  · split at h
    · rename_i hn; exact absurd h hn
    · rename_i a b
      rw [if_neg a, if_neg b]
      split
      · exact .inr rfl
      · exact .inl rfl
def Party.withDisk (p : Party) (d : K.Disk) : Party := ⟨p.kind, p.id, p.seed, d, p.jour, p.log⟩
theorem stop_valid {q : Party} (hv : q.valid) (hs : q.disk.stopped = false) {l : Int} (h0 : 0 ≤ l) (h1 : l ≤ 65536) : (q.withDisk { q.disk with left := l }).valid ∧ q.crash l = (q.withDisk { q.disk with left := l }, 0) := by
  have hg := good_of hv.formed.2.2
  have hg2 : ({ q.disk with left := l } : K.Disk).good := ⟨hg.1, hg.2.1, hg.2.2.1, (show ¬ l < -1 by omega), (show ¬ 65536 < l by omega), hg.2.2.2.2.2.1, hg.2.2.2.2.2.2⟩
  refine ⟨valid_of ⟨hv.formed.1, hv.formed.2.1, K.check_good hg2⟩ hv.owned (by show q.jour = _; rw [hv.jr]; rfl) hv.written (.inr (show q.disk.pending = [] from running hv hs)), ?_⟩
  have hrd : q.disk.ready = 0 := by
    unfold K.Disk.ready
    exact if_pos ⟨hg, hs⟩
  have hst : q.disk.stop l = ({ q.disk with left := l }, 0) := by
    unfold K.Disk.stop
    rw [if_pos hrd, if_neg (by omega)]
  unfold Party.crash
  rw [if_pos hv.formed, hst, if_pos rfl]
  rfl
theorem plus_with (p : Party) (d e : K.Disk) (r : Rec) : (p.withDisk d).plus e r = p.plus e r := rfl
/-- What happens when the disk stops while something is noted. -/
inductive TornIs (q S : Party) (kind day : Int) (body : List UInt8) : Prop
  | err (e : Int) (h0 : e ≠ 0) (h1 : e ≠ 470) (hw : q.note kind day body = (zeroP, e)) (hx : S.note kind day body = (zeroP, e))
  | ok (dw dx : K.Disk) (m : Rec) (hf : Fits q.log m) (hm : m = mkR q.log q.id kind day body) (hw : q.note kind day body = (q.plus dw m, 0)) (hx : S.note kind day body = (q.plus dx m, 0)) (hv : (q.plus dx m).valid)
  | torn (dw d2 : K.Disk) (m : Rec) (hf : Fits q.log m) (hm : m = mkR q.log q.id kind day body) (hw : q.note kind day body = (q.plus dw m, 0)) (hx : S.note kind day body = (q.withDisk d2, 470)) (hv : (q.withDisk d2).valid)
      (ha : (q.withDisk (rst d2)).note kind day body = (zeroP, 480) ∨ ∃ d3, (q.withDisk (rst d2)).note kind day body = (q.plus d3 m, 0))
theorem torn_is {q : Party} (hv : q.valid) (hs : q.disk.stopped = false) (hl : q.disk.left = -1) {l : Int} (h0 : 0 ≤ l) (h1 : l ≤ 65536) (kind day : Int) (body : List UInt8) : TornIs q (q.withDisk { q.disk with left := l }) kind day body := by
  obtain ⟨hSv, _⟩ := stop_valid hv hs h0 h1
  obtain ⟨S, hS⟩ : ∃ S, S = q.withDisk { q.disk with left := l } := ⟨_, rfl⟩
  rw [← hS] at hSv ⊢
  have hSs : S.disk.stopped = false := by rw [hS]; exact hs
  have hE : S.noteE kind day body = q.noteE kind day body := by rw [hS]; rfl
  have hSk : mkR S.log S.id kind day body = mkR q.log q.id kind day body := by rw [hS]; rfl
  rcases note_run hv hs kind day body with ⟨a1, a2, a3⟩ | ⟨a1, a2, ⟨dw, a3, a4, _⟩ | ⟨a3, _⟩⟩
  · rcases note_run hSv hSs kind day body with ⟨b1, b2, b3⟩ | ⟨b1, _⟩
    · exact .err _ a1 a2 a3 (by rw [b3, hE])
    · rw [hE] at b1; exact absurd b1 a1
  rotate_left
  · exact absurd hl a3
  rcases note_run hSv hSs kind day body with ⟨b1, _⟩ | ⟨_, _, ⟨dx, b3, b4, _⟩ | ⟨_, d2, b3, b4, b5, _⟩⟩
  · rw [hE] at b1; exact absurd a1 b1
  · rw [hSk] at b3 b4
    rw [hS, plus_with] at b4
    refine .ok dw dx _ a2 rfl a3 ?_ b4
    rw [b3, hS, plus_with]
  · have e1 : ({ S with disk := d2 } : Party) = q.withDisk d2 := by rw [hS]; rfl
    rw [e1] at b3 b4
    refine .torn dw d2 _ a2 rfl a3 b3 b4 ?_
    have hR : (q.withDisk (rst d2)).valid := valid_of ⟨b4.formed.1, b4.formed.2.1, rst_check b4.formed.2.2⟩ b4.owned (by show q.jour = _; rw [show q.jour = (q.withDisk d2).jour from rfl, b4.jr]; rfl) b4.written (.inr rfl)
    rcases note_run hR rfl kind day body with ⟨c1, c2, c3⟩ | ⟨_, _, ⟨d3, c3, _⟩ | ⟨c3, _⟩⟩
    · left
      rw [c3]
      rcases noteE_of (q := q.withDisk (rst d2)) a1 rfl rfl rfl with h | h
      · exact absurd h c1
      · rw [h]
    · right
      exact ⟨d3, by rw [c3, plus_with]; rfl⟩
    · exact absurd rfl c3
theorem lens_occ : ∀ l : List (List UInt8), K.lensN l ≤ 113 * K.occN l
  | [] => by simp [K.lensN]
  | b :: l => by
    have := lens_occ l
    have h1 := K.pieces_cov b.length
    have h2 := K.pieces_pos b.length
    simp only [K.lensN, K.occN, List.map_cons, List.sum_cons] at this ⊢
    omega
theorem len_occ : ∀ l : List (List UInt8), l.length ≤ K.occN l
  | [] => Nat.zero_le _
  | b :: l => by
    have := len_occ l
    have h2 := K.pieces_pos b.length
    simp only [K.occN, List.map_cons, List.sum_cons, List.length_cons] at this ⊢
    omega
/-- What has restarted from a small disk. -/
theorem rest_can {p q : Party} (h : RestIs p q 0) (hs : p.disk.sectors.length ≤ 60) (hd : p.seed.length = 32) : q.valid ∧ q.can ∧ q.log.length ≤ 60 ∧ K.lensN q.jour.records ≤ 6780 ∧ q.disk = rst p.disk := by
  have hf : p.formed := by
    generalize he : (0 : Int) = e at h
    cases h with
    | form => exact absurd he (by decide)
    | dec h => exact h
    | own h => exact h
    | ok h => exact h
  have hlen := recs_len hf.2.2
  obtain ⟨hv, hdk⟩ := restart_ok h (fun b hb => by have := hlen b hb; omega)
  have hocc := occ_le hf.2.2
  have hq : q.jour = jr p.disk ∧ q.seed = p.seed ∧ q.log = (jr p.disk).records.map (fun b => (decF b).1) ∧ ∀ b ∈ (jr p.disk).records, (decF b).2 = 0 := by
    generalize he : (0 : Int) = e at h
    cases h with
    | form => exact absurd he (by decide)
    | dec _ _ _ _ hne => exact absurd he.symm hne
    | own => exact absurd he (by decide)
    | ok _ ha _ => exact ⟨rfl, rfl, rfl, ha⟩
  obtain ⟨hj, hsd, hlog, hdec⟩ := hq
  have hrl : (jr p.disk).records.length ≤ 60 := by have := len_occ (jr p.disk).records; simp only [jr] at this ⊢; omega
  have hln : K.lensN q.jour.records ≤ 6780 := by rw [hj]; have := lens_occ (jr p.disk).records; simp only [jr] at this ⊢; omega
  have hll : q.log.length ≤ 60 := by rw [hlog, List.length_map]; exact hrl
  refine ⟨hv, ⟨fun x hx => ?_, by omega, by omega, by rw [hsd]; exact hd⟩, hll, hln, hdk⟩
  rw [hlog] at hx
  obtain ⟨b, hb, rfl⟩ := List.mem_map.1 hx
  have hbl := hlen b hb
  rcases dec_ok (decF_is (b := b) (by omega)) with ⟨_, h2, h3⟩ | ⟨h1, _⟩
  · refine ⟨h2, ?_⟩
    have := body_le (r := (decF b).1)
    rw [h3] at this
    omega
  · exact absurd (hdec b hb) h1
end Go.Proofs.YtjfjpnefohbobaaDoor
/- Parties: the law PartiesTorn. Conditions: none. -/
namespace Go.Proofs.YtjfjpnefohbobaaDoor
open Go.Avc
theorem few_sectors {p : Party} (h : fewP p = true) : p.disk.sectors.length ≤ 60 := by
  simp only [fewP, Bool.and_eq_true, decide_eq_true_eq] at h
  omega
theorem rem6 (n : UInt8) : ∃ l : Int, (n.toNat : Int).tmod 6 = l ∧ 0 ≤ l ∧ l ≤ 5 := by
  refine ⟨_, rfl, ?_, ?_⟩ <;> rw [Int.tmod_eq_emod_of_nonneg (by omega)] <;> omega
set_option maxRecDepth 20000
set_option maxHeartbeats 4000000
set_option linter.unusedSimpArgs false
attribute [local irreducible] PSub Wp PSpec Le Need Both
attribute [local irreducible] recE recD tagged sha headOf decF decode addR
theorem torn_law (p : Party) (kind day : Int) (body : List UInt8) (left : UInt8) (hp : p.arg) (hb0 : body.length ≤ 140737488355328) : PSpec Tryd.prog 3 [.agg (encP p), .int kind, .int day, encB body, .val (.int .u8 (left.toNat : Int))] (.bool true) := by
  have q1 := rfewP_spec p
  have hfs := few_sectors (p := p)
  obtain ⟨f, hf⟩ : ∃ f, f = fewP p := ⟨_, rfl⟩
  rw [← hf] at q1 hfs
  obtain ⟨q, e, hR⟩ := RestIs.ex p
  have q2 := prestart_spec p q e hR
  obtain ⟨n, hn⟩ : ∃ n : Nat, n = left.toNat := ⟨_, rfl⟩
  obtain ⟨l, hl, hl0, hl5⟩ := rem6 left
  have hn2 : n < 256 := by rw [hn]; exact UInt8.toNat_lt left
  rw [← hn] at hl ⊢
  refine PSpec.of_vc (fun Γ => more6 false Γ.P Γ.fx) (fun Γ => more6_ok) Tryd.func3 rfl Tryd.call3 (by simp) ?_
  rintro ⟨P, N, w0, X, β0, fx, y, hy, pk, df⟩ rfl rfl rfl hoff rfl; change y.on = false at hoff
  skip
  refine .inl ⟨_, psane_spec, ?_⟩
  skip
  refine .inl ⟨_, q1, ?_⟩
  repeat' ((try conv => whnf); first | (first | refine k3 (fun hb => ?_) fun hb => ?_ | refine k4 (fun hb => ?_) fun hb => ?_) <;> (try rw [List.length_map] at hb) <;> (try (exfalso; omega; done)) | refine k5 (fun hb => ?_) fun hb => ?_ | fail)
  any_goals exact PSub.val_bool rfl
  refine .inl ⟨_, q2, ?_⟩
  repeat' ((try conv => whnf); first | (first | refine k3 (fun hb => ?_) fun hb => ?_ | refine k4 (fun hb => ?_) fun hb => ?_) <;> (try rw [List.length_map] at hb) <;> (try (exfalso; omega; done)) | refine And.intro rfl ?_ | fail)
  rotate_left
  · refine PSub.val_bool ?_
    rw [Bool.not_eq_true', decide_eq_false_iff_not]
    assumption
  have he : e = 0 := by assumption
  subst he
  obtain ⟨hv, hcan, hll, hln, hdk⟩ := rest_can hR (hfs (by assumption)) hp.seed
  have hqs : q.disk.stopped = false := by rw [hdk]; rfl
  have hql : q.disk.left = -1 := by rw [hdk]; rfl
  obtain ⟨hSv, hSc⟩ := stop_valid hv hqs hl0 (show l ≤ 65536 by omega)
  have hT := torn_is hv hqs hql hl0 (show l ≤ 65536 by omega) kind day body
  obtain ⟨S, hS⟩ : ∃ S, S = q.withDisk { q.disk with left := l } := ⟨_, rfl⟩
  rw [← hS] at hSv hSc hT
  have hScan : S.can := by rw [hS]; exact ⟨hcan.1, hcan.2, hcan.3, hcan.4⟩
  have p4 := pcheck_spec q hcan
  rw [check_valid hv] at p4
  have p5 := pnote_spec q kind day body hcan (by omega)
  have p6 := pcrash_spec q l
  rw [hSc] at p6
  have p7 := pnote_spec S kind day body hScan (by omega)
  obtain ⟨z, hz⟩ : ∃ z : Int, z = 0 := ⟨_, rfl⟩
  have p6' : PSpec Tryd.prog 12 [.agg (encP q), .int l] (encPE (S, z)) := by rw [hz]; exact p6
  have p4' : PSpec Tryd.prog 10 [.agg (encP q)] (.int z) := by rw [hz]; exact p4
  refine .inl ⟨_, p4', ?_⟩
  repeat' ((try conv => whnf); first | (first | refine k3 (fun hb => ?_) fun hb => ?_ | refine k4 (fun hb => ?_) fun hb => ?_) <;> (try rw [List.length_map] at hb) <;> (try (exfalso; omega; done)) | fail)
  cases hT with
  | err e1 h0 h1 hw hx =>
    rw [hw] at p5
    rw [hx] at p7
    refine .inl ⟨_, p5, ?_⟩
    repeat' ((try conv => whnf); first | refine And.intro rfl ?_ | refine And.intro bd ?_ | fail)
    refine ⟨l, hl, ?_⟩
    repeat' ((try conv => whnf); first | refine s4 nm ?_ | fail)
    refine .inl ⟨_, p6', ?_⟩
    repeat' ((try conv => whnf); first | (first | refine k3 (fun hb => ?_) fun hb => ?_ | refine k4 (fun hb => ?_) fun hb => ?_) <;> (try rw [List.length_map] at hb) <;> (try (exfalso; omega; done)) | refine And.intro rfl ?_ | fail)
    refine .inl ⟨_, p7, ?_⟩
    repeat' ((try conv => whnf); first | (first | refine k3 (fun hb => ?_) fun hb => ?_ | refine k4 (fun hb => ?_) fun hb => ?_) <;> (try rw [List.length_map] at hb) <;> (try (exfalso; omega; done)) | refine And.intro rfl ?_ | fail)
    exact PSub.val_bool (by simp)
  | ok dw dx m hf hm hw hx hvx =>
    rw [hw] at p5
    rw [hx] at p7
    have hXc : ∀ d, (q.plus d m).can := fun d => by rw [hm] at hf ⊢; exact plus_can hcan hf (by omega) (by omega) (by omega) d
    have p8 := prestart_spec (q.plus dx m) (q.plus (rst dx) m) 0 (rest_to hvx (hXc dx).log rfl)
    have p9 := rsameP_spec (q.plus dw m) (q.plus dw m) hcan.seed hcan.seed (by show (q.jour.records ++ [_]).length ≤ _; have := records_len hv; simp; omega) (fun r hr => ((hXc dw).log r hr).1.2.2.2.2) (fun r hr => ((hXc dw).log r hr).1.2.2.2.2)
    rw [sameP_true rfl] at p9
    rw [← hz] at p5 p7 p8
    obtain ⟨b1, hb1⟩ : ∃ b, b = true := ⟨_, rfl⟩
    rw [← hb1] at p9
    refine .inl ⟨_, p5, ?_⟩
    repeat' ((try conv => whnf); first | refine And.intro rfl ?_ | refine And.intro bd ?_ | fail)
    refine ⟨l, hl, ?_⟩
    repeat' ((try conv => whnf); first | refine s4 nm ?_ | fail)
    refine .inl ⟨_, p6', ?_⟩
    repeat' ((try conv => whnf); first | (first | refine k3 (fun hb => ?_) fun hb => ?_ | refine k4 (fun hb => ?_) fun hb => ?_) <;> (try rw [List.length_map] at hb) <;> (try (exfalso; omega; done)) | refine And.intro rfl ?_ | fail)
    refine .inl ⟨_, p7, ?_⟩
    repeat' ((try conv => whnf); first | (first | refine k3 (fun hb => ?_) fun hb => ?_ | refine k4 (fun hb => ?_) fun hb => ?_) <;> (try rw [List.length_map] at hb) <;> (try (exfalso; omega; done)) | refine And.intro rfl ?_ | fail)
    refine .inl ⟨_, p8, ?_⟩
    repeat' ((try conv => whnf); first | (first | refine k3 (fun hb => ?_) fun hb => ?_ | refine k4 (fun hb => ?_) fun hb => ?_) <;> (try rw [List.length_map] at hb) <;> (try (exfalso; omega; done)) | refine And.intro rfl ?_ | fail)
    refine .inl ⟨_, p9, ?_⟩
    skip
    exact PSub.val_bool hb1
  | torn dw d2 m hf hm hw hx hvx ha =>
    rw [hw] at p5
    rw [hx] at p7
    have hXc : ∀ d, (q.plus d m).can := fun d => by rw [hm] at hf ⊢; exact plus_can hcan hf (by omega) (by omega) (by omega) d
    have hYc : ∀ d, (q.withDisk d).can := fun d => ⟨hcan.1, hcan.2, hcan.3, hcan.4⟩
    have p8 := prestart_spec (q.withDisk d2) (q.withDisk (rst d2)) 0 (rest_to hvx (hYc d2).log rfl)
    have p9 := rsameP_spec (q.plus dw m) (q.plus dw m) hcan.seed hcan.seed (by show (q.jour.records ++ [_]).length ≤ _; have := records_len hv; simp; omega) (fun r hr => ((hXc dw).log r hr).1.2.2.2.2) (fun r hr => ((hXc dw).log r hr).1.2.2.2.2)
    rw [sameP_true rfl] at p9
    have pa := rvSameL_spec q.log q.log (fun r hr => (hcan.log r hr).1.2.2.2.2) (fun r hr => (hcan.log r hr).1.2.2.2.2)
    rw [sameL2_refl] at pa
    have pb := pnote_spec (q.withDisk (rst d2)) kind day body (hYc _) (by omega)
    obtain ⟨w, hww⟩ : ∃ w : Int, w = 470 := ⟨_, rfl⟩
    rw [← hz] at p5 p8
    rw [← hww] at p7
    obtain ⟨b1, hb1⟩ : ∃ b, b = true := ⟨_, rfl⟩
    rw [← hb1] at p9 pa
    refine .inl ⟨_, p5, ?_⟩
    repeat' ((try conv => whnf); first | refine And.intro rfl ?_ | refine And.intro bd ?_ | fail)
    refine ⟨l, hl, ?_⟩
    repeat' ((try conv => whnf); first | refine s4 nm ?_ | fail)
    refine .inl ⟨_, p6', ?_⟩
    repeat' ((try conv => whnf); first | (first | refine k3 (fun hb => ?_) fun hb => ?_ | refine k4 (fun hb => ?_) fun hb => ?_) <;> (try rw [List.length_map] at hb) <;> (try (exfalso; omega; done)) | refine And.intro rfl ?_ | fail)
    refine .inl ⟨_, p7, ?_⟩
    repeat' ((try conv => whnf); first | (first | refine k3 (fun hb => ?_) fun hb => ?_ | refine k4 (fun hb => ?_) fun hb => ?_) <;> (try rw [List.length_map] at hb) <;> (try (exfalso; omega; done)) | refine And.intro rfl ?_ | fail)
    refine .inl ⟨_, p8, ?_⟩
    repeat' ((try conv => whnf); first | (first | refine k3 (fun hb => ?_) fun hb => ?_ | refine k4 (fun hb => ?_) fun hb => ?_) <;> (try rw [List.length_map] at hb) <;> (try (exfalso; omega; done)) | refine And.intro rfl ?_ | fail)
    refine .inl ⟨_, pa, ?_⟩
    repeat' ((try conv => whnf); first | refine k5 (fun hb => ?_) fun hb => ?_ | fail)
    rotate_left
    · exact absurd hb1 (by simp_all)
    rcases ha with ha | ⟨d3, ha⟩
    · rw [ha] at pb
      refine .inl ⟨_, pb, ?_⟩
      repeat' ((try conv => whnf); first | refine And.intro rfl ?_ | fail)
      exact PSub.val_bool (by simp)
    · rw [ha, ← hz] at pb
      refine .inl ⟨_, pb, ?_⟩
      repeat' ((try conv => whnf); first | (first | refine k3 (fun hb => ?_) fun hb => ?_ | refine k4 (fun hb => ?_) fun hb => ?_) <;> (try rw [List.length_map] at hb) <;> (try (exfalso; omega; done)) | refine And.intro rfl ?_ | fail)
      refine .inl ⟨_, p9, ?_⟩
      skip
      exact PSub.val_bool hb1
end Go.Proofs.YtjfjpnefohbobaaDoor
