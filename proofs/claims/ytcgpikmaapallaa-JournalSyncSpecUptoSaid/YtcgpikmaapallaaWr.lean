/- Journals: the reference's Sync. Conditions: none. -/
import Derived.Test.YtcgpikmaapallaaWp
import Derived.Test.YtcgpikmaapallaaWd
import Derived.Test.YtcgpikmaapallaaWq
import Derived.Test.YtcgpikmaapallaaWf
set_option linter.unusedSimpArgs false
set_option linter.unusedVariables false
namespace Go.Proofs.Ytcgpikmaapallaa
open Go.Avc
/-- A whole sector is written to a disk that runs. -/
theorem write_one {d : Disk} (hl : 1 ≤ d.sectors.length ∧ d.sectors.length ≤ 4096) (hleft : -1 ≤ d.left ∧ d.left ≤ 65536) (h128 : ∀ s ∈ d.sectors, s.length = 128) (hrun : d.stopped = false) {P : List (Int × List UInt8)}
    (hP : ∀ p ∈ P, 0 ≤ p.1 ∧ p.1 < d.sectors.length ∧ p.2.length = 128) (hPl : P.length < 4096) {a : Nat} (ha : a < d.sectors.length) {s : List UInt8} (hs : s.length = 128) :
    (⟨d.sectors, P, d.left, d.stopped⟩ : Disk).write (a : Int) s = (⟨d.sectors, P ++ [((a : Int), s)], d.left, d.stopped⟩, 0) := by
  have hgood : (⟨d.sectors, P, d.left, d.stopped⟩ : Disk).good := by
    refine ⟨(show ¬ d.sectors.length < 1 by omega), (show ¬ 4096 < d.sectors.length by omega), (show ¬ 4096 < P.length by omega), (show ¬ d.left < -1 by omega), (show ¬ 65536 < d.left by omega), h128, fun p hp => ?_⟩
    obtain ⟨h1, h2, h3⟩ := hP p hp
    exact ⟨by omega, (show ¬ (d.sectors.length : Int) ≤ p.1 by omega), h3⟩
  unfold Disk.write
  rw [if_pos (ready_ok (check_good hgood) hrun), if_neg (show ¬ ((a : Int) < 0 ∨ (d.sectors.length : Int) ≤ a) by omega), if_neg (by omega), if_neg (show ¬ P.length = 4096 by omega)]
  have : put128 s = s := by unfold put128; simp [hs]
  rw [this]
theorem wrL_mem {g a : Nat} {b : List UInt8} {p : Int × List UInt8} (h : p ∈ wrL g a b) : (a : Int) ≤ p.1 ∧ p.1 < ((a + piecesN b.length : Nat) : Int) ∧ p.2.length = 128 := by
  obtain ⟨⟨s, i⟩, hx, rfl⟩ := List.mem_map.1 h
  obtain ⟨h1, h2⟩ := List.mem_zipIdx_iff_le_and_getElem?_sub.1 hx
  obtain ⟨h3, h4⟩ := List.getElem?_eq_some_iff.1 h2
  rw [encodeL_len] at h3
  refine ⟨by simp only; omega, by simp only; omega, encodeL_128 b a g _ (h4 ▸ List.getElem_mem _)⟩
theorem putL_mem {g : Nat} : ∀ {l : List (List UInt8)} {a : Nat} {p : Int × List UInt8}, p ∈ putL g a l → (a : Int) ≤ p.1 ∧ p.1 < ((a + occN l : Nat) : Int) ∧ p.2.length = 128
  | [], a, p, h => by simp [putL] at h
  | b :: l, a, p, h => by
    have ho : occN (b :: l) = piecesN b.length + occN l := by simp [occN]
    rcases List.mem_append.1 (show p ∈ wrL g a b ++ putL g (a + piecesN b.length) l from h) with h | h
    · obtain ⟨h1, h2, h3⟩ := wrL_mem h
      exact ⟨h1, by omega, h3⟩
    · obtain ⟨h1, h2, h3⟩ := putL_mem h
      exact ⟨by omega, by omega, h3⟩
theorem encodeL_get (b : List UInt8) (a g m : Nat) (h : m < (encodeL b a g).length) : (encodeL b a g)[m] = secOf g (a + m) (m == 0) (m + 1 == piecesN b.length) (partOf b m) := by simp [encodeL]
set_option maxRecDepth 20000
set_option maxHeartbeats 4000000
set_option linter.unusedSimpArgs false
attribute [local irreducible] PSub Wp PSpec Le Need Both
attribute [local irreducible] greatL recs encodeL occN piecesN putL
theorem rsync_spec (j : Jour) (d : Disk) (h : lensN j.records ≤ 100000) : PSpec Try.prog 22 [encJ j, encD d] (encJDE (j.sync d)) := by
  have qc := rcheck_spec j (by omega)
  have qd := refCheck_spec d
  obtain ⟨S, hS⟩ : ∃ S, S = j.sync d := ⟨_, rfl⟩
  rw [← hS]
  unfold Jour.sync at hS
  obtain ⟨C, hC⟩ : ∃ C, C = j.check := ⟨_, rfl⟩
  obtain ⟨D, hD⟩ : ∃ D, D = d.check := ⟨_, rfl⟩
  rw [← hC] at qc
  rw [← hD] at qd hS
  by_cases hg : j.good
  rotate_left
  · have e : C = 1 := by rw [hC]; unfold Jour.check; rw [if_neg hg]
    rw [if_pos hg] at hS
    refine PSpec.of_vc (fun Γ => more4 false Γ.P Γ.fx) (fun Γ => more4_ok) Try.func22 rfl Try.call22 (by simp) ?_
    rintro ⟨P, N, w0, X, β0, fx, y, hy⟩ rfl rfl rfl hoff; change y.on = false at hoff
    repeat' ((try conv => whnf); first | refine k1 (fun hb => ?_) fun hb => ?_ | refine k2 (fun hb => ?_) fun hb => ?_ | (first | refine k3 (fun hb => ?_) fun hb => ?_ | refine k4 (fun hb => ?_) fun hb => ?_) <;> (try rw [List.length_map] at hb) <;> (try (exfalso; omega; done)) | refine k5 (fun hb => ?_) fun hb => ?_ | refine k6 (fun hb => ?_) fun hb => ?_ | refine Both.intro ?_ ?_ | refine And.intro rfl ?_ | refine s1 ?_ | refine s2 ?_ | refine s3 ?_ | refine s4 nm ?_ | refine s5 nm nm ?_ | refine s6 nm nm ?_ | refine s7 ?_ | refine And.intro (by assumption) ?_ | refine s8 nm ?_ | refine s9 nm nm ?_ | refine sa nm ?_ | refine ⟨_, _, getMapN nm, rfl, ?_⟩ | refine .inl ⟨_, getMapN nm, rfl, rfl, ?_⟩ | refine .inl ⟨rfl, rfl, bd, rfl, rfl, ?_⟩ | refine ⟨_, singles_flat _ _, ?_⟩ | refine ⟨_, singles_map _ _, ?_⟩ | refine And.intro (onesB_flat _ _ fun _ => rfl) ?_ | refine And.intro (onesB_map _ _ fun _ => rfl) ?_ | refine .inr ⟨rfl, rfl, rfl, ?_⟩ | refine ⟨⟨⟨onesB_flat _ _ fun _ => rfl, fl⟩, trivial⟩, ?_⟩ | refine And.intro bd ?_ | refine ⟨_, set_map _ _ _, ?_⟩ | refine ⟨_, set_rfl _ _ _, ?_⟩ | refine ⟨_, singles_rfl _, ?_⟩ | fail)
    refine .inl ⟨_, qc, ?_⟩
    repeat' ((try conv => whnf); first | refine k1 (fun hb => ?_) fun hb => ?_ | refine k2 (fun hb => ?_) fun hb => ?_ | (first | refine k3 (fun hb => ?_) fun hb => ?_ | refine k4 (fun hb => ?_) fun hb => ?_) <;> (try rw [List.length_map] at hb) <;> (try (exfalso; omega; done)) | refine k5 (fun hb => ?_) fun hb => ?_ | refine k6 (fun hb => ?_) fun hb => ?_ | refine Both.intro ?_ ?_ | refine And.intro rfl ?_ | refine s1 ?_ | refine s2 ?_ | refine s3 ?_ | refine s4 nm ?_ | refine s5 nm nm ?_ | refine s6 nm nm ?_ | refine s7 ?_ | refine And.intro (by assumption) ?_ | refine s8 nm ?_ | refine s9 nm nm ?_ | refine sa nm ?_ | refine ⟨_, _, getMapN nm, rfl, ?_⟩ | refine .inl ⟨_, getMapN nm, rfl, rfl, ?_⟩ | refine .inl ⟨rfl, rfl, bd, rfl, rfl, ?_⟩ | refine ⟨_, singles_flat _ _, ?_⟩ | refine ⟨_, singles_map _ _, ?_⟩ | refine And.intro (onesB_flat _ _ fun _ => rfl) ?_ | refine And.intro (onesB_map _ _ fun _ => rfl) ?_ | refine .inr ⟨rfl, rfl, rfl, ?_⟩ | refine ⟨⟨⟨onesB_flat _ _ fun _ => rfl, fl⟩, trivial⟩, ?_⟩ | refine And.intro bd ?_ | refine ⟨_, set_map _ _ _, ?_⟩ | refine ⟨_, set_rfl _ _ _, ?_⟩ | refine ⟨_, singles_rfl _, ?_⟩ | fail)
    exact sub_jdz (by rw [hS, e])
  have e : C = 0 := by rw [hC]; unfold Jour.check; rw [if_pos hg]
  rw [if_neg (by simpa using hg)] at hS
  by_cases hd0 : D = 0
  rotate_left
  · rw [if_pos hd0] at hS
    refine PSpec.of_vc (fun Γ => more4 false Γ.P Γ.fx) (fun Γ => more4_ok) Try.func22 rfl Try.call22 (by simp) ?_
    rintro ⟨P, N, w0, X, β0, fx, y, hy⟩ rfl rfl rfl hoff; change y.on = false at hoff
    repeat' ((try conv => whnf); first | refine k1 (fun hb => ?_) fun hb => ?_ | refine k2 (fun hb => ?_) fun hb => ?_ | (first | refine k3 (fun hb => ?_) fun hb => ?_ | refine k4 (fun hb => ?_) fun hb => ?_) <;> (try rw [List.length_map] at hb) <;> (try (exfalso; omega; done)) | refine k5 (fun hb => ?_) fun hb => ?_ | refine k6 (fun hb => ?_) fun hb => ?_ | refine Both.intro ?_ ?_ | refine And.intro rfl ?_ | refine s1 ?_ | refine s2 ?_ | refine s3 ?_ | refine s4 nm ?_ | refine s5 nm nm ?_ | refine s6 nm nm ?_ | refine s7 ?_ | refine And.intro (by assumption) ?_ | refine s8 nm ?_ | refine s9 nm nm ?_ | refine sa nm ?_ | refine ⟨_, _, getMapN nm, rfl, ?_⟩ | refine .inl ⟨_, getMapN nm, rfl, rfl, ?_⟩ | refine .inl ⟨rfl, rfl, bd, rfl, rfl, ?_⟩ | refine ⟨_, singles_flat _ _, ?_⟩ | refine ⟨_, singles_map _ _, ?_⟩ | refine And.intro (onesB_flat _ _ fun _ => rfl) ?_ | refine And.intro (onesB_map _ _ fun _ => rfl) ?_ | refine .inr ⟨rfl, rfl, rfl, ?_⟩ | refine ⟨⟨⟨onesB_flat _ _ fun _ => rfl, fl⟩, trivial⟩, ?_⟩ | refine And.intro bd ?_ | refine ⟨_, set_map _ _ _, ?_⟩ | refine ⟨_, set_rfl _ _ _, ?_⟩ | refine ⟨_, singles_rfl _, ?_⟩ | fail)
    refine .inl ⟨_, qc, ?_⟩
    repeat' ((try conv => whnf); first | refine k1 (fun hb => ?_) fun hb => ?_ | refine k2 (fun hb => ?_) fun hb => ?_ | (first | refine k3 (fun hb => ?_) fun hb => ?_ | refine k4 (fun hb => ?_) fun hb => ?_) <;> (try rw [List.length_map] at hb) <;> (try (exfalso; omega; done)) | refine k5 (fun hb => ?_) fun hb => ?_ | refine k6 (fun hb => ?_) fun hb => ?_ | refine Both.intro ?_ ?_ | refine And.intro rfl ?_ | refine s1 ?_ | refine s2 ?_ | refine s3 ?_ | refine s4 nm ?_ | refine s5 nm nm ?_ | refine s6 nm nm ?_ | refine s7 ?_ | refine And.intro (by assumption) ?_ | refine s8 nm ?_ | refine s9 nm nm ?_ | refine sa nm ?_ | refine ⟨_, _, getMapN nm, rfl, ?_⟩ | refine .inl ⟨_, getMapN nm, rfl, rfl, ?_⟩ | refine .inl ⟨rfl, rfl, bd, rfl, rfl, ?_⟩ | refine ⟨_, singles_flat _ _, ?_⟩ | refine ⟨_, singles_map _ _, ?_⟩ | refine And.intro (onesB_flat _ _ fun _ => rfl) ?_ | refine And.intro (onesB_map _ _ fun _ => rfl) ?_ | refine .inr ⟨rfl, rfl, rfl, ?_⟩ | refine ⟨⟨⟨onesB_flat _ _ fun _ => rfl, fl⟩, trivial⟩, ?_⟩ | refine And.intro bd ?_ | refine ⟨_, set_map _ _ _, ?_⟩ | refine ⟨_, set_rfl _ _ _, ?_⟩ | refine ⟨_, singles_rfl _, ?_⟩ | fail)
    refine .inl ⟨_, qd, ?_⟩
    repeat' ((try conv => whnf); first | refine k1 (fun hb => ?_) fun hb => ?_ | refine k2 (fun hb => ?_) fun hb => ?_ | (first | refine k3 (fun hb => ?_) fun hb => ?_ | refine k4 (fun hb => ?_) fun hb => ?_) <;> (try rw [List.length_map] at hb) <;> (try (exfalso; omega; done)) | refine k5 (fun hb => ?_) fun hb => ?_ | refine k6 (fun hb => ?_) fun hb => ?_ | refine Both.intro ?_ ?_ | refine And.intro rfl ?_ | refine s1 ?_ | refine s2 ?_ | refine s3 ?_ | refine s4 nm ?_ | refine s5 nm nm ?_ | refine s6 nm nm ?_ | refine s7 ?_ | refine And.intro (by assumption) ?_ | refine s8 nm ?_ | refine s9 nm nm ?_ | refine sa nm ?_ | refine ⟨_, _, getMapN nm, rfl, ?_⟩ | refine .inl ⟨_, getMapN nm, rfl, rfl, ?_⟩ | refine .inl ⟨rfl, rfl, bd, rfl, rfl, ?_⟩ | refine ⟨_, singles_flat _ _, ?_⟩ | refine ⟨_, singles_map _ _, ?_⟩ | refine And.intro (onesB_flat _ _ fun _ => rfl) ?_ | refine And.intro (onesB_map _ _ fun _ => rfl) ?_ | refine .inr ⟨rfl, rfl, rfl, ?_⟩ | refine ⟨⟨⟨onesB_flat _ _ fun _ => rfl, fl⟩, trivial⟩, ?_⟩ | refine And.intro bd ?_ | refine ⟨_, set_map _ _ _, ?_⟩ | refine ⟨_, set_rfl _ _ _, ?_⟩ | refine ⟨_, singles_rfl _, ?_⟩ | fail)
    exact sub_jdz (by rw [hS])
  rw [if_neg (by simpa using hd0)] at hS
  have hgood := good_of (hD.symm.trans hd0)
  have hrl := recs_len d.sectors
  have hdl : d.sectors.length ≤ 4096 := by have := hgood.2.1; omega
  have hit := rrecords_spec d.sectors hgood.2.2.2.2.2.1 hdl
  have qg := generation_spec d.sectors hgood.2.2.2.2.2.1 hdl
  have hgl := greatL_lt d.sectors
  obtain ⟨RR, hRR⟩ : ∃ RR, RR = recs d.sectors := ⟨_, rfl⟩
  obtain ⟨G, hG⟩ : ∃ G, G = greatL d.sectors := ⟨_, rfl⟩
  rw [← hRR] at hit hrl hS
  rw [← hG] at qg hgl hS
  obtain ⟨g1, g2, g3, g4, g5⟩ := hg
  have hq := sameRecords_spec RR (j.records.take j.synced.toNat) (by omega)
  obtain ⟨E, hE⟩ : ∃ E, E = (RR == j.records.take j.synced.toNat) := ⟨_, rfl⟩
  rw [← hE] at hq
  have hERof : E = true → RR = j.records.take j.synced.toNat := fun hh => eq_of_beq (hE.symm.trans hh)
  refine PSpec.of_vc (fun Γ => more4 false Γ.P Γ.fx) (fun Γ => more4_ok) Try.func22 rfl Try.call22 (by simp) ?_
  rintro ⟨P, N, w0, X, β0, fx, y, hy⟩ rfl rfl rfl hoff; change y.on = false at hoff
  repeat' ((try conv => whnf); first | refine k1 (fun hb => ?_) fun hb => ?_ | refine k2 (fun hb => ?_) fun hb => ?_ | (first | refine k3 (fun hb => ?_) fun hb => ?_ | refine k4 (fun hb => ?_) fun hb => ?_) <;> (try rw [List.length_map] at hb) <;> (try (exfalso; omega; done)) | refine k5 (fun hb => ?_) fun hb => ?_ | refine k6 (fun hb => ?_) fun hb => ?_ | refine Both.intro ?_ ?_ | refine And.intro rfl ?_ | refine s1 ?_ | refine s2 ?_ | refine s3 ?_ | refine s4 nm ?_ | refine s5 nm nm ?_ | refine s6 nm nm ?_ | refine s7 ?_ | refine And.intro (by assumption) ?_ | refine s8 nm ?_ | refine s9 nm nm ?_ | refine sa nm ?_ | refine ⟨_, _, getMapN nm, rfl, ?_⟩ | refine .inl ⟨_, getMapN nm, rfl, rfl, ?_⟩ | refine .inl ⟨rfl, rfl, bd, rfl, rfl, ?_⟩ | refine ⟨_, singles_flat _ _, ?_⟩ | refine ⟨_, singles_map _ _, ?_⟩ | refine And.intro (onesB_flat _ _ fun _ => rfl) ?_ | refine And.intro (onesB_map _ _ fun _ => rfl) ?_ | refine .inr ⟨rfl, rfl, rfl, ?_⟩ | refine ⟨⟨⟨onesB_flat _ _ fun _ => rfl, fl⟩, trivial⟩, ?_⟩ | refine And.intro bd ?_ | refine ⟨_, set_map _ _ _, ?_⟩ | refine ⟨_, set_rfl _ _ _, ?_⟩ | refine ⟨_, singles_rfl _, ?_⟩ | fail)
  refine .inl ⟨_, qc, ?_⟩
  repeat' ((try conv => whnf); first | refine k1 (fun hb => ?_) fun hb => ?_ | refine k2 (fun hb => ?_) fun hb => ?_ | (first | refine k3 (fun hb => ?_) fun hb => ?_ | refine k4 (fun hb => ?_) fun hb => ?_) <;> (try rw [List.length_map] at hb) <;> (try (exfalso; omega; done)) | refine k5 (fun hb => ?_) fun hb => ?_ | refine k6 (fun hb => ?_) fun hb => ?_ | refine Both.intro ?_ ?_ | refine And.intro rfl ?_ | refine s1 ?_ | refine s2 ?_ | refine s3 ?_ | refine s4 nm ?_ | refine s5 nm nm ?_ | refine s6 nm nm ?_ | refine s7 ?_ | refine And.intro (by assumption) ?_ | refine s8 nm ?_ | refine s9 nm nm ?_ | refine sa nm ?_ | refine ⟨_, _, getMapN nm, rfl, ?_⟩ | refine .inl ⟨_, getMapN nm, rfl, rfl, ?_⟩ | refine .inl ⟨rfl, rfl, bd, rfl, rfl, ?_⟩ | refine ⟨_, singles_flat _ _, ?_⟩ | refine ⟨_, singles_map _ _, ?_⟩ | refine And.intro (onesB_flat _ _ fun _ => rfl) ?_ | refine And.intro (onesB_map _ _ fun _ => rfl) ?_ | refine .inr ⟨rfl, rfl, rfl, ?_⟩ | refine ⟨⟨⟨onesB_flat _ _ fun _ => rfl, fl⟩, trivial⟩, ?_⟩ | refine And.intro bd ?_ | refine ⟨_, set_map _ _ _, ?_⟩ | refine ⟨_, set_rfl _ _ _, ?_⟩ | refine ⟨_, singles_rfl _, ?_⟩ | fail)
  refine .inl ⟨_, qd, ?_⟩
  repeat' ((try conv => whnf); first | refine k1 (fun hb => ?_) fun hb => ?_ | refine k2 (fun hb => ?_) fun hb => ?_ | (first | refine k3 (fun hb => ?_) fun hb => ?_ | refine k4 (fun hb => ?_) fun hb => ?_) <;> (try rw [List.length_map] at hb) <;> (try (exfalso; omega; done)) | refine k5 (fun hb => ?_) fun hb => ?_ | refine k6 (fun hb => ?_) fun hb => ?_ | refine Both.intro ?_ ?_ | refine And.intro rfl ?_ | refine s1 ?_ | refine s2 ?_ | refine s3 ?_ | refine s4 nm ?_ | refine s5 nm nm ?_ | refine s6 nm nm ?_ | refine s7 ?_ | refine And.intro (by assumption) ?_ | refine s8 nm ?_ | refine s9 nm nm ?_ | refine sa nm ?_ | refine ⟨_, _, getMapN nm, rfl, ?_⟩ | refine .inl ⟨_, getMapN nm, rfl, rfl, ?_⟩ | refine .inl ⟨rfl, rfl, bd, rfl, rfl, ?_⟩ | refine ⟨_, singles_flat _ _, ?_⟩ | refine ⟨_, singles_map _ _, ?_⟩ | refine And.intro (onesB_flat _ _ fun _ => rfl) ?_ | refine And.intro (onesB_map _ _ fun _ => rfl) ?_ | refine .inr ⟨rfl, rfl, rfl, ?_⟩ | refine ⟨⟨⟨onesB_flat _ _ fun _ => rfl, fl⟩, trivial⟩, ?_⟩ | refine And.intro bd ?_ | refine ⟨_, set_map _ _ _, ?_⟩ | refine ⟨_, set_rfl _ _ _, ?_⟩ | refine ⟨_, singles_rfl _, ?_⟩ | fail)
  · exact sub_jdz (by rw [hS, if_pos (by assumption)])
  · exact sub_jdz (by rw [hS, if_neg (by simp_all), if_pos (.inr (by omega))])
  rotate_left
  · exact sub_jdz (by rw [hS, if_neg (by simp_all), if_pos (.inl (by assumption))])
  refine .inl ⟨_, qg, ?_⟩
  repeat' ((try conv => whnf); first | refine k1 (fun hb => ?_) fun hb => ?_ | refine k2 (fun hb => ?_) fun hb => ?_ | (first | refine k3 (fun hb => ?_) fun hb => ?_ | refine k4 (fun hb => ?_) fun hb => ?_) <;> (try rw [List.length_map] at hb) <;> (try (exfalso; omega; done)) | refine k5 (fun hb => ?_) fun hb => ?_ | refine k6 (fun hb => ?_) fun hb => ?_ | refine Both.intro ?_ ?_ | refine And.intro rfl ?_ | refine s1 ?_ | refine s2 ?_ | refine s3 ?_ | refine s4 nm ?_ | refine s5 nm nm ?_ | refine s6 nm nm ?_ | refine s7 ?_ | refine And.intro (by assumption) ?_ | refine s8 nm ?_ | refine s9 nm nm ?_ | refine sa nm ?_ | refine ⟨_, _, getMapN nm, rfl, ?_⟩ | refine .inl ⟨_, getMapN nm, rfl, rfl, ?_⟩ | refine .inl ⟨rfl, rfl, bd, rfl, rfl, ?_⟩ | refine ⟨_, singles_flat _ _, ?_⟩ | refine ⟨_, singles_map _ _, ?_⟩ | refine And.intro (onesB_flat _ _ fun _ => rfl) ?_ | refine And.intro (onesB_map _ _ fun _ => rfl) ?_ | refine .inr ⟨rfl, rfl, rfl, ?_⟩ | refine ⟨⟨⟨onesB_flat _ _ fun _ => rfl, fl⟩, trivial⟩, ?_⟩ | refine And.intro bd ?_ | refine ⟨_, set_map _ _ _, ?_⟩ | refine ⟨_, set_rfl _ _ _, ?_⟩ | refine ⟨_, singles_rfl _, ?_⟩ | fail)
  first | refine Wp.draw (more := more4 true _ _) more4_det more4_ok FOK.wide rfl (by decide +kernel) (by conv => lhs; reduce) ?_ | refine Wp.draw (more := more4 true _ _) more4_det more4_ok (FOK.inRound _) rfl (by decide +kernel) (by conv => lhs; reduce) ?_
  repeat' ((try conv => whnf); first | refine k1 (fun hb => ?_) fun hb => ?_ | refine k2 (fun hb => ?_) fun hb => ?_ | (first | refine k3 (fun hb => ?_) fun hb => ?_ | refine k4 (fun hb => ?_) fun hb => ?_) <;> (try rw [List.length_map] at hb) <;> (try (exfalso; omega; done)) | refine k5 (fun hb => ?_) fun hb => ?_ | refine k6 (fun hb => ?_) fun hb => ?_ | refine Both.intro ?_ ?_ | refine And.intro rfl ?_ | refine s1 ?_ | refine s2 ?_ | refine s3 ?_ | refine s4 nm ?_ | refine s5 nm nm ?_ | refine s6 nm nm ?_ | refine s7 ?_ | refine And.intro (by assumption) ?_ | refine s8 nm ?_ | refine s9 nm nm ?_ | refine sa nm ?_ | refine ⟨_, _, getMapN nm, rfl, ?_⟩ | refine .inl ⟨_, getMapN nm, rfl, rfl, ?_⟩ | refine .inl ⟨rfl, rfl, bd, rfl, rfl, ?_⟩ | refine ⟨_, singles_flat _ _, ?_⟩ | refine ⟨_, singles_map _ _, ?_⟩ | refine And.intro (onesB_flat _ _ fun _ => rfl) ?_ | refine And.intro (onesB_map _ _ fun _ => rfl) ?_ | refine .inr ⟨rfl, rfl, rfl, ?_⟩ | refine ⟨⟨⟨onesB_flat _ _ fun _ => rfl, fl⟩, trivial⟩, ?_⟩ | refine And.intro bd ?_ | refine ⟨_, set_map _ _ _, ?_⟩ | refine ⟨_, set_rfl _ _ _, ?_⟩ | refine ⟨_, singles_rfl _, ?_⟩ | fail)
  refine ⟨_, hit, ?_⟩
  repeat' ((try conv => whnf); first | refine k1 (fun hb => ?_) fun hb => ?_ | refine k2 (fun hb => ?_) fun hb => ?_ | (first | refine k3 (fun hb => ?_) fun hb => ?_ | refine k4 (fun hb => ?_) fun hb => ?_) <;> (try rw [List.length_map] at hb) <;> (try (exfalso; omega; done)) | refine k5 (fun hb => ?_) fun hb => ?_ | refine k6 (fun hb => ?_) fun hb => ?_ | refine Both.intro ?_ ?_ | refine And.intro rfl ?_ | refine s1 ?_ | refine s2 ?_ | refine s3 ?_ | refine s4 nm ?_ | refine s5 nm nm ?_ | refine s6 nm nm ?_ | refine s7 ?_ | refine And.intro (by assumption) ?_ | refine s8 nm ?_ | refine s9 nm nm ?_ | refine sa nm ?_ | refine ⟨_, _, getMapN nm, rfl, ?_⟩ | refine .inl ⟨_, getMapN nm, rfl, rfl, ?_⟩ | refine .inl ⟨rfl, rfl, bd, rfl, rfl, ?_⟩ | refine ⟨_, singles_flat _ _, ?_⟩ | refine ⟨_, singles_map _ _, ?_⟩ | refine And.intro (onesB_flat _ _ fun _ => rfl) ?_ | refine And.intro (onesB_map _ _ fun _ => rfl) ?_ | refine .inr ⟨rfl, rfl, rfl, ?_⟩ | refine ⟨⟨⟨onesB_flat _ _ fun _ => rfl, fl⟩, trivial⟩, ?_⟩ | refine And.intro bd ?_ | refine ⟨_, set_map _ _ _, ?_⟩ | refine ⟨_, set_rfl _ _ _, ?_⟩ | refine ⟨_, singles_rfl _, ?_⟩ | fail)
  have e1 : cut (List.map (fun s => [encB s]) j.records) 0 j.synced.toNat = (j.records.take j.synced.toNat).map fun s => [encB s] := by simp [cut, List.map_take]
  refine ⟨.bool E, by simp only [e1]; exact hq, ?_⟩
  repeat' ((try conv => whnf); first | refine k1 (fun hb => ?_) fun hb => ?_ | refine k2 (fun hb => ?_) fun hb => ?_ | (first | refine k3 (fun hb => ?_) fun hb => ?_ | refine k4 (fun hb => ?_) fun hb => ?_) <;> (try rw [List.length_map] at hb) <;> (try (exfalso; omega; done)) | refine k5 (fun hb => ?_) fun hb => ?_ | refine k6 (fun hb => ?_) fun hb => ?_ | refine Both.intro ?_ ?_ | refine And.intro rfl ?_ | refine s1 ?_ | refine s2 ?_ | refine s3 ?_ | refine s4 nm ?_ | refine s5 nm nm ?_ | refine s6 nm nm ?_ | refine s7 ?_ | refine And.intro (by assumption) ?_ | refine s8 nm ?_ | refine s9 nm nm ?_ | refine sa nm ?_ | refine ⟨_, _, getMapN nm, rfl, ?_⟩ | refine .inl ⟨_, getMapN nm, rfl, rfl, ?_⟩ | refine .inl ⟨rfl, rfl, bd, rfl, rfl, ?_⟩ | refine ⟨_, singles_flat _ _, ?_⟩ | refine ⟨_, singles_map _ _, ?_⟩ | refine And.intro (onesB_flat _ _ fun _ => rfl) ?_ | refine And.intro (onesB_map _ _ fun _ => rfl) ?_ | refine .inr ⟨rfl, rfl, rfl, ?_⟩ | refine ⟨⟨⟨onesB_flat _ _ fun _ => rfl, fl⟩, trivial⟩, ?_⟩ | refine And.intro bd ?_ | refine ⟨_, set_map _ _ _, ?_⟩ | refine ⟨_, set_rfl _ _ _, ?_⟩ | refine ⟨_, singles_rfl _, ?_⟩ | fail)
  rotate_right
  · have hER : ¬ RR = j.records.take j.synced.toNat := fun hh => by
      have hbE : E = false := by assumption
      rw [hh] at hE; rw [hbE] at hE; simp at hE
    exact sub_jdz (by rw [hS, if_neg (by simp_all), if_neg (by omega), if_pos hER])
  all_goals have hER := hERof (by assumption)
  all_goals rw [if_neg (by simp_all), if_neg (by omega), if_neg (by simpa using hER)] at hS
  · exact sub_jdz (by rw [hS, if_pos (by omega)])
  all_goals rw [if_neg (show ¬ G = 4294967295 by omega)] at hS
  · rw [if_pos (show j.synced = (j.records.length : Int) by omega)] at hS
    first | refine Wp.draw (more := more4 true _ _) more4_det more4_ok FOK.wide rfl (by decide +kernel) (by conv => lhs; reduce) ?_ | refine Wp.draw (more := more4 true _ _) more4_det more4_ok (FOK.inRound _) rfl (by decide +kernel) (by conv => lhs; reduce) ?_
    repeat' ((try conv => whnf); first | refine k1 (fun hb => ?_) fun hb => ?_ | refine k2 (fun hb => ?_) fun hb => ?_ | (first | refine k3 (fun hb => ?_) fun hb => ?_ | refine k4 (fun hb => ?_) fun hb => ?_) <;> (try rw [List.length_map] at hb) <;> (try (exfalso; omega; done)) | refine k5 (fun hb => ?_) fun hb => ?_ | refine k6 (fun hb => ?_) fun hb => ?_ | refine Both.intro ?_ ?_ | refine And.intro rfl ?_ | refine s1 ?_ | refine s2 ?_ | refine s3 ?_ | refine s4 nm ?_ | refine s5 nm nm ?_ | refine s6 nm nm ?_ | refine s7 ?_ | refine And.intro (by assumption) ?_ | refine s8 nm ?_ | refine s9 nm nm ?_ | refine sa nm ?_ | refine ⟨_, _, getMapN nm, rfl, ?_⟩ | refine .inl ⟨_, getMapN nm, rfl, rfl, ?_⟩ | refine .inl ⟨rfl, rfl, bd, rfl, rfl, ?_⟩ | refine ⟨_, singles_flat _ _, ?_⟩ | refine ⟨_, singles_map _ _, ?_⟩ | refine And.intro (onesB_flat _ _ fun _ => rfl) ?_ | refine And.intro (onesB_map _ _ fun _ => rfl) ?_ | refine .inr ⟨rfl, rfl, rfl, ?_⟩ | refine ⟨⟨⟨onesB_flat _ _ fun _ => rfl, fl⟩, trivial⟩, ?_⟩ | refine And.intro bd ?_ | refine ⟨_, set_map _ _ _, ?_⟩ | refine ⟨_, set_rfl _ _ _, ?_⟩ | refine ⟨_, singles_rfl _, ?_⟩ | fail)
    exact sub_jde (PSub.of_eq (by rw [hS]; rfl)) (PSub.of_eq (by rw [hS]; rfl)) (by rw [hS])
  rw [if_neg (show ¬ j.synced = (j.records.length : Int) by omega)] at hS
  have hsn : j.synced.toNat ≤ j.records.length := by omega
  have hlt := lensN_take j.records j.synced.toNat
  have qo := used_spec (j.records.take j.synced.toNat) (by omega)
  obtain ⟨R1, hR1⟩ : ∃ R1, R1 = j.records.take j.synced.toNat := ⟨_, rfl⟩
  obtain ⟨R2, hR2⟩ : ∃ R2, R2 = j.records.drop j.synced.toNat := ⟨_, rfl⟩
  have hoc : occN j.records = occN R1 + occN R2 := by
    rw [hR1, hR2]; unfold occN; conv => lhs; rw [← List.take_append_drop j.synced.toNat j.records, List.map_append, List.sum_append]
  have hR2l : R2.length = j.records.length - j.synced.toNat := by rw [hR2]; simp
  have hl2 : lensN R2 ≤ lensN j.records := by
    rw [hR2]; unfold lensN
    conv => rhs; rw [← List.take_append_drop j.synced.toNat j.records, List.map_append, List.sum_append]
    omega
  have hlj := lensN_len j.records
  rw [← hR1, ← hR2] at hS
  rw [← hR1] at qo
  obtain ⟨a0, ha0⟩ : ∃ a0, a0 = occN R1 := ⟨_, rfl⟩
  rw [← ha0] at qo hoc hS
  have hput0 : putL (G + 1) a0 [] = [] := by unfold putL; rfl
  have hpn : d.pending = [] := List.eq_nil_of_length_eq_zero (by omega)
  have hocc0 : occN ([] : List (List UInt8)) = 0 := by unfold occN; rfl
  refine .inl ⟨.int a0, by simp only [e1, ← hR1]; exact qo, ?_⟩
  repeat' ((try conv => whnf); first | refine k1 (fun hb => ?_) fun hb => ?_ | refine k2 (fun hb => ?_) fun hb => ?_ | (first | refine k3 (fun hb => ?_) fun hb => ?_ | refine k4 (fun hb => ?_) fun hb => ?_) <;> (try rw [List.length_map] at hb) <;> (try (exfalso; omega; done)) | refine k5 (fun hb => ?_) fun hb => ?_ | refine k6 (fun hb => ?_) fun hb => ?_ | refine Both.intro ?_ ?_ | refine And.intro rfl ?_ | refine s1 ?_ | refine s2 ?_ | refine s3 ?_ | refine s4 nm ?_ | refine s5 nm nm ?_ | refine s6 nm nm ?_ | refine s7 ?_ | refine And.intro (by assumption) ?_ | refine s8 nm ?_ | refine s9 nm nm ?_ | refine sa nm ?_ | refine ⟨_, _, getMapN nm, rfl, ?_⟩ | refine .inl ⟨_, getMapN nm, rfl, rfl, ?_⟩ | refine .inl ⟨rfl, rfl, bd, rfl, rfl, ?_⟩ | refine ⟨_, singles_flat _ _, ?_⟩ | refine ⟨_, singles_map _ _, ?_⟩ | refine And.intro (onesB_flat _ _ fun _ => rfl) ?_ | refine And.intro (onesB_map _ _ fun _ => rfl) ?_ | refine .inr ⟨rfl, rfl, rfl, ?_⟩ | refine ⟨⟨⟨onesB_flat _ _ fun _ => rfl, fl⟩, trivial⟩, ?_⟩ | refine And.intro bd ?_ | refine ⟨_, set_map _ _ _, ?_⟩ | refine ⟨_, set_rfl _ _ _, ?_⟩ | refine ⟨_, singles_rfl _, ?_⟩ | fail)
  refine Wp.loop (fun k : Nat => ⟨[(2, .loc 2 0 0), (3, .loc 3 0 0), (4, .loc 4 0 0), (5, .loc 5 0 0), (9, .pure (.val (.int .u64 (G + 1 : Nat)))), (10, .int (a0 + occN (R2.take k) : Nat)), (11, .int (j.synced + k))],
      [(2, some (.box [.pure (encS j.records), .int j.many, .int j.synced])), (3, some (.box [.pure (encS d.sectors), .pure (encWs (putL (G + 1) a0 (R2.take k))), .int d.left, .bool d.stopped])),
       (4, some (.box [.pure (.val (.slice none 0 0)), .int 0, .int 0])), (5, some (.box [.pure (.val (.slice none 0 0)), .pure (.val (.slice none 0 0)), .int 0, .bool false]))], [2, 3, 4, 5]⟩)
    (fun k => k ≤ R2.length) (fun k => R2.length - k) 0 (Le.of ?_ ?_ rfl rfl rfl) (by omega) ?_
  · simp only [List.take_zero, hocc0]
    (repeat' (first | exact trivial | exact rfl | refine And.intro ?_ ?_ | refine Exists.intro _ (And.intro rfl ?_) | exact Or.inl rfl | exact l1 bd | exact SubA.lsl ls | exact SubA.sl sc | exact SubA.bool bo | exact l6 rfl | exact rowEq rs | fail))
  · simp only [List.take_zero, hput0, ← hpn]
    (repeat' (first | exact trivial | exact rfl | refine And.intro ?_ ?_ | refine Exists.intro _ (And.intro rfl ?_) | exact Or.inl rfl | exact l1 bd | exact SubA.lsl ls | exact SubA.sl sc | exact SubA.bool bo | exact l6 rfl | exact rowEq rs | fail))
  intro k hk
  by_cases hk2 : k < R2.length
  · have hbl := lensN_mem (List.getElem_mem hk2)
    have qn := sectors_spec R2[k].length (by omega)
    have hgk : j.records[(j.synced + (k : Int)).toNat]'(by omega) = R2[k] := by
      have hx : (j.synced + (k : Int)).toNat = j.synced.toNat + k := by omega
      simp only [hR2, List.getElem_drop, hx]
    have hPl : (putL (G + 1) a0 (R2.take k)).length = occN (R2.take k) := putL_len _ _ _
    have hA2 : occN (R2.take (k + 1)) = occN (R2.take k) + piecesN R2[k].length := occN_take R2 hk2
    have hpl := piecesN_le R2[k].length
    have hot : occN (R2.take (k + 1)) ≤ occN R2 := by
      unfold occN
      conv => rhs; rw [← List.take_append_drop (k + 1) R2, List.map_append, List.sum_append]
      omega
    obtain ⟨pn, hpnn⟩ : ∃ pn, pn = piecesN R2[k].length := ⟨_, rfl⟩
    rw [← hpnn] at qn hA2 hpl
    first | refine code_sound (more := more4 false _ _) more4_ok FOK.wide _ ?_ | refine code_sound (more := more4 false _ _) more4_ok (FOK.inRound _) _ ?_
    repeat' ((try conv => whnf); first | refine k1 (fun hb => ?_) fun hb => ?_ | refine k2 (fun hb => ?_) fun hb => ?_ | (first | refine k3 (fun hb => ?_) fun hb => ?_ | refine k4 (fun hb => ?_) fun hb => ?_) <;> (try rw [List.length_map] at hb) <;> (try (exfalso; omega; done)) | refine k5 (fun hb => ?_) fun hb => ?_ | refine k6 (fun hb => ?_) fun hb => ?_ | refine Both.intro ?_ ?_ | refine And.intro rfl ?_ | refine s1 ?_ | refine s2 ?_ | refine s3 ?_ | refine s4 nm ?_ | refine s5 nm nm ?_ | refine s6 nm nm ?_ | refine s7 ?_ | refine And.intro (by assumption) ?_ | refine s8 nm ?_ | refine s9 nm nm ?_ | refine sa nm ?_ | refine ⟨_, _, getMapN nm, rfl, ?_⟩ | refine .inl ⟨_, getMapN nm, rfl, rfl, ?_⟩ | refine .inl ⟨rfl, rfl, bd, rfl, rfl, ?_⟩ | refine ⟨_, singles_flat _ _, ?_⟩ | refine ⟨_, singles_map _ _, ?_⟩ | refine And.intro (onesB_flat _ _ fun _ => rfl) ?_ | refine And.intro (onesB_map _ _ fun _ => rfl) ?_ | refine .inr ⟨rfl, rfl, rfl, ?_⟩ | refine ⟨⟨⟨onesB_flat _ _ fun _ => rfl, fl⟩, trivial⟩, ?_⟩ | refine And.intro bd ?_ | refine ⟨_, set_map _ _ _, ?_⟩ | refine ⟨_, set_rfl _ _ _, ?_⟩ | refine ⟨_, singles_rfl _, ?_⟩ | fail)
    simp only [hgk]
    refine .inl ⟨.int pn, by simp only [List.length_map]; exact qn, ?_⟩
    repeat' ((try conv => whnf); first | refine k1 (fun hb => ?_) fun hb => ?_ | refine k2 (fun hb => ?_) fun hb => ?_ | (first | refine k3 (fun hb => ?_) fun hb => ?_ | refine k4 (fun hb => ?_) fun hb => ?_) <;> (try rw [List.length_map] at hb) <;> (try (exfalso; omega; done)) | refine k5 (fun hb => ?_) fun hb => ?_ | refine k6 (fun hb => ?_) fun hb => ?_ | refine Both.intro ?_ ?_ | refine And.intro rfl ?_ | refine s1 ?_ | refine s2 ?_ | refine s3 ?_ | refine s4 nm ?_ | refine s5 nm nm ?_ | refine s6 nm nm ?_ | refine s7 ?_ | refine And.intro (by assumption) ?_ | refine s8 nm ?_ | refine s9 nm nm ?_ | refine sa nm ?_ | refine ⟨_, _, getMapN nm, rfl, ?_⟩ | refine .inl ⟨_, getMapN nm, rfl, rfl, ?_⟩ | refine .inl ⟨rfl, rfl, bd, rfl, rfl, ?_⟩ | refine ⟨_, singles_flat _ _, ?_⟩ | refine ⟨_, singles_map _ _, ?_⟩ | refine And.intro (onesB_flat _ _ fun _ => rfl) ?_ | refine And.intro (onesB_map _ _ fun _ => rfl) ?_ | refine .inr ⟨rfl, rfl, rfl, ?_⟩ | refine ⟨⟨⟨onesB_flat _ _ fun _ => rfl, fl⟩, trivial⟩, ?_⟩ | refine And.intro bd ?_ | refine ⟨_, set_map _ _ _, ?_⟩ | refine ⟨_, set_rfl _ _ _, ?_⟩ | refine ⟨_, singles_rfl _, ?_⟩ | fail)
    obtain ⟨A, hA⟩ : ∃ A, A = a0 + occN (R2.take k) := ⟨_, rfl⟩
    obtain ⟨PL, hPL⟩ : ∃ PL, PL = putL (G + 1) a0 (R2.take k) := ⟨_, rfl⟩
    obtain ⟨W, hW⟩ : ∃ W, W = wrL (G + 1) A R2[k] := ⟨_, rfl⟩
    have hWl : W.length = pn := by rw [hW, wrL_len, hpnn]
    have hP2 : putL (G + 1) a0 (R2.take (k + 1)) = PL ++ W := by
      rw [List.take_succ_eq_append_getElem hk2, putL_snoc, hPL, hW, hA]
    have hm112 : ∀ m, m < pn → 112 * m ≤ R2[k].length := fun m hm => by rw [hpnn] at hm; unfold piecesN at hm; omega
    rw [← hPL] at hPl
    rw [← hA, ← hPL]
    refine Wp.loop (fun m : Nat => ⟨[(2, .loc 2 0 0), (3, .loc 3 0 0), (4, .loc 4 0 0), (5, .loc 5 0 0), (9, .pure (.val (.int .u64 (G + 1 : Nat)))), (10, .int (A + m : Nat)), (11, .int (j.synced + k)), (12, .pure (encB R2[k])), (13, .int pn), (14, .int m)],
        [(2, some (.box [.pure (encS j.records), .int j.many, .int j.synced])), (3, some (.box [.pure (encS d.sectors), .pure (encWs (PL ++ W.take m)), .int d.left, .bool d.stopped])),
         (4, some (.box [.pure (.val (.slice none 0 0)), .int 0, .int 0])), (5, some (.box [.pure (.val (.slice none 0 0)), .pure (.val (.slice none 0 0)), .int 0, .bool false]))], [2, 3, 4, 5]⟩)
      (fun m => m ≤ pn) (fun m => pn - m) 0 (Le.of ?_ ?_ rfl rfl rfl) (by omega) ?_
    · (repeat' (first | exact trivial | exact rfl | refine And.intro ?_ ?_ | refine Exists.intro _ (And.intro rfl ?_) | exact Or.inl rfl | exact l1 bd | exact SubA.lsl ls | exact SubA.sl sc | exact SubA.bool bo | exact l6 rfl | exact rowEq rs | fail))
    · simp only [List.take_zero, List.append_nil]
      (repeat' (first | exact trivial | exact rfl | refine And.intro ?_ ?_ | refine Exists.intro _ (And.intro rfl ?_) | exact Or.inl rfl | exact l1 bd | exact SubA.lsl ls | exact SubA.sl sc | exact SubA.bool bo | exact l6 rfl | exact rowEq rs | fail))
    intro m hm
    by_cases hm2 : m < pn
    · have hm3 := hm112 m hm2
      have qs := sector_spec (G + 1) (A + m) (partOf R2[k] m) (by omega) (by omega) (partOf_le _ _) (m == 0) (m + 1 == pn)
      first | refine code_sound (more := more4 false _ _) more4_ok FOK.wide _ ?_ | refine code_sound (more := more4 false _ _) more4_ok (FOK.inRound _) _ ?_
      repeat' ((try conv => whnf); first | refine k1 (fun hb => ?_) fun hb => ?_ | refine k2 (fun hb => ?_) fun hb => ?_ | (first | refine k3 (fun hb => ?_) fun hb => ?_ | refine k4 (fun hb => ?_) fun hb => ?_) <;> (try rw [List.length_map] at hb) <;> (try (exfalso; omega; done)) | refine k5 (fun hb => ?_) fun hb => ?_ | refine k6 (fun hb => ?_) fun hb => ?_ | refine Both.intro ?_ ?_ | refine And.intro rfl ?_ | refine s1 ?_ | refine s2 ?_ | refine s3 ?_ | refine s4 nm ?_ | refine s5 nm nm ?_ | refine s6 nm nm ?_ | refine s7 ?_ | refine And.intro (by assumption) ?_ | refine s8 nm ?_ | refine s9 nm nm ?_ | refine sa nm ?_ | refine ⟨_, _, getMapN nm, rfl, ?_⟩ | refine .inl ⟨_, getMapN nm, rfl, rfl, ?_⟩ | refine .inl ⟨rfl, rfl, bd, rfl, rfl, ?_⟩ | refine ⟨_, singles_flat _ _, ?_⟩ | refine ⟨_, singles_map _ _, ?_⟩ | refine And.intro (onesB_flat _ _ fun _ => rfl) ?_ | refine And.intro (onesB_map _ _ fun _ => rfl) ?_ | refine .inr ⟨rfl, rfl, rfl, ?_⟩ | refine ⟨⟨⟨onesB_flat _ _ fun _ => rfl, fl⟩, trivial⟩, ?_⟩ | refine And.intro bd ?_ | refine ⟨_, set_map _ _ _, ?_⟩ | refine ⟨_, set_rfl _ _ _, ?_⟩ | refine ⟨_, singles_rfl _, ?_⟩ | fail)
      first | refine Wp.draw (more := more4 true _ _) more4_det more4_ok FOK.wide rfl (by decide +kernel) (by conv => lhs; reduce) ?_ | refine Wp.draw (more := more4 true _ _) more4_det more4_ok (FOK.inRound _) rfl (by decide +kernel) (by conv => lhs; reduce) ?_
      repeat' ((try conv => whnf); first | refine k1 (fun hb => ?_) fun hb => ?_ | refine k2 (fun hb => ?_) fun hb => ?_ | (first | refine k3 (fun hb => ?_) fun hb => ?_ | refine k4 (fun hb => ?_) fun hb => ?_) <;> (try rw [List.length_map] at hb) <;> (try (exfalso; omega; done)) | refine k5 (fun hb => ?_) fun hb => ?_ | refine k6 (fun hb => ?_) fun hb => ?_ | refine Both.intro ?_ ?_ | refine And.intro rfl ?_ | refine s1 ?_ | refine s2 ?_ | refine s3 ?_ | refine s4 nm ?_ | refine s5 nm nm ?_ | refine s6 nm nm ?_ | refine s7 ?_ | refine And.intro (by assumption) ?_ | refine s8 nm ?_ | refine s9 nm nm ?_ | refine sa nm ?_ | refine ⟨_, _, getMapN nm, rfl, ?_⟩ | refine .inl ⟨_, getMapN nm, rfl, rfl, ?_⟩ | refine .inl ⟨rfl, rfl, bd, rfl, rfl, ?_⟩ | refine ⟨_, singles_flat _ _, ?_⟩ | refine ⟨_, singles_map _ _, ?_⟩ | refine And.intro (onesB_flat _ _ fun _ => rfl) ?_ | refine And.intro (onesB_map _ _ fun _ => rfl) ?_ | refine .inr ⟨rfl, rfl, rfl, ?_⟩ | refine ⟨⟨⟨onesB_flat _ _ fun _ => rfl, fl⟩, trivial⟩, ?_⟩ | refine And.intro bd ?_ | refine ⟨_, set_map _ _ _, ?_⟩ | refine ⟨_, set_rfl _ _ _, ?_⟩ | refine ⟨_, singles_rfl _, ?_⟩ | fail)
      have hlm : m < (encodeL R2[k] A (G + 1)).length := by rw [encodeL_len, ← hpnn]; exact hm2
      have hget := encodeL_get R2[k] A (G + 1) m hlm
      have hWt := wrL_take (G + 1) A R2[k] hlm
      rw [← hW] at hWt
      rw [← hpnn] at hget
      obtain ⟨SB, hSB⟩ : ∃ SB, SB = (encodeL R2[k] A (G + 1))[m] := ⟨_, rfl⟩
      have hSBl : SB.length = 128 := by rw [hSB]; exact encodeL_128 _ _ _ _ (List.getElem_mem _)
      rw [← hSB] at hWt hget
      rw [← hget] at qs
      have hmem : ∀ p ∈ PL ++ W.take m, 0 ≤ p.1 ∧ p.1 < d.sectors.length ∧ p.2.length = 128 := by
        intro p hp
        rcases List.mem_append.1 hp with hp | hp
        · rw [hPL] at hp
          obtain ⟨h1, h2, h3⟩ := putL_mem hp
          exact ⟨by omega, by omega, h3⟩
        · have hp := List.mem_of_mem_take hp
          rw [hW] at hp
          obtain ⟨h1, h2, h3⟩ := wrL_mem hp
          exact ⟨by omega, by omega, h3⟩
      have hlen : (PL ++ W.take m).length < 4096 := by simp; omega
      have qw := refWrite_spec ⟨d.sectors, PL ++ W.take m, d.left, d.stopped⟩ ((A + m : Nat) : Int) SB
      rw [write_one ⟨by omega, hdl⟩ (by have h1 := hgood.2.2.2.1; have h2 := hgood.2.2.2.2.1; omega) hgood.2.2.2.2.2.1 (by assumption) hmem hlen (show A + m < d.sectors.length by omega) hSBl] at qw
      obtain ⟨NP, hNP⟩ : ∃ NP, NP = PL ++ W.take m ++ [(((A + m : Nat) : Int), SB)] := ⟨_, rfl⟩
      rw [← hNP] at qw
      have hNP2 : PL ++ W.take (m + 1) = NP := by rw [hNP, hWt, List.append_assoc]
      refine ⟨encB SB, qs.args ⟨PSub.refl _, PSub.refl _, PSub.val_bool (Bool.eq_iff_iff.2 (by simp)), PSub.val_bool (Bool.eq_iff_iff.2 (by simp; omega)), sub_sl (by simp only [cut, partOf, List.map_take, List.map_drop]; rw [show ((m : Int) * 112).toNat = 112 * m by omega, List.take_eq_take_iff]; simp only [List.length_drop, List.length_map]; omega), trivial⟩, ?_⟩
      repeat' ((try conv => whnf); first | refine k1 (fun hb => ?_) fun hb => ?_ | refine k2 (fun hb => ?_) fun hb => ?_ | (first | refine k3 (fun hb => ?_) fun hb => ?_ | refine k4 (fun hb => ?_) fun hb => ?_) <;> (try rw [List.length_map] at hb) <;> (try (exfalso; omega; done)) | refine k5 (fun hb => ?_) fun hb => ?_ | refine k6 (fun hb => ?_) fun hb => ?_ | refine Both.intro ?_ ?_ | refine And.intro rfl ?_ | refine s1 ?_ | refine s2 ?_ | refine s3 ?_ | refine s4 nm ?_ | refine s5 nm nm ?_ | refine s6 nm nm ?_ | refine s7 ?_ | refine And.intro (by assumption) ?_ | refine s8 nm ?_ | refine s9 nm nm ?_ | refine sa nm ?_ | refine ⟨_, _, getMapN nm, rfl, ?_⟩ | refine .inl ⟨_, getMapN nm, rfl, rfl, ?_⟩ | refine .inl ⟨rfl, rfl, bd, rfl, rfl, ?_⟩ | refine ⟨_, singles_flat _ _, ?_⟩ | refine ⟨_, singles_map _ _, ?_⟩ | refine And.intro (onesB_flat _ _ fun _ => rfl) ?_ | refine And.intro (onesB_map _ _ fun _ => rfl) ?_ | refine .inr ⟨rfl, rfl, rfl, ?_⟩ | refine ⟨⟨⟨onesB_flat _ _ fun _ => rfl, fl⟩, trivial⟩, ?_⟩ | refine And.intro bd ?_ | refine ⟨_, set_map _ _ _, ?_⟩ | refine ⟨_, set_rfl _ _ _, ?_⟩ | refine ⟨_, singles_rfl _, ?_⟩ | fail)
      refine ⟨_, qw, ?_⟩
      repeat' ((try conv => whnf); first | refine k1 (fun hb => ?_) fun hb => ?_ | refine k2 (fun hb => ?_) fun hb => ?_ | (first | refine k3 (fun hb => ?_) fun hb => ?_ | refine k4 (fun hb => ?_) fun hb => ?_) <;> (try rw [List.length_map] at hb) <;> (try (exfalso; omega; done)) | refine k5 (fun hb => ?_) fun hb => ?_ | refine k6 (fun hb => ?_) fun hb => ?_ | refine Both.intro ?_ ?_ | refine And.intro rfl ?_ | refine s1 ?_ | refine s2 ?_ | refine s3 ?_ | refine s4 nm ?_ | refine s5 nm nm ?_ | refine s6 nm nm ?_ | refine s7 ?_ | refine And.intro (by assumption) ?_ | refine s8 nm ?_ | refine s9 nm nm ?_ | refine sa nm ?_ | refine ⟨_, _, getMapN nm, rfl, ?_⟩ | refine .inl ⟨_, getMapN nm, rfl, rfl, ?_⟩ | refine .inl ⟨rfl, rfl, bd, rfl, rfl, ?_⟩ | refine ⟨_, singles_flat _ _, ?_⟩ | refine ⟨_, singles_map _ _, ?_⟩ | refine And.intro (onesB_flat _ _ fun _ => rfl) ?_ | refine And.intro (onesB_map _ _ fun _ => rfl) ?_ | refine .inr ⟨rfl, rfl, rfl, ?_⟩ | refine ⟨⟨⟨onesB_flat _ _ fun _ => rfl, fl⟩, trivial⟩, ?_⟩ | refine And.intro bd ?_ | refine ⟨_, set_map _ _ _, ?_⟩ | refine ⟨_, set_rfl _ _ _, ?_⟩ | refine ⟨_, singles_rfl _, ?_⟩ | fail)
      rw [← hNP2]
      exact ⟨m + 1, Le.of (by (repeat' (first | exact trivial | exact rfl | refine And.intro ?_ ?_ | refine Exists.intro _ (And.intro rfl ?_) | exact Or.inl rfl | exact l1 bd | exact SubA.lsl ls | exact SubA.sl sc | exact SubA.bool bo | exact l6 rfl | exact rowEq rs | fail))) (by (repeat' (first | exact trivial | exact rfl | refine And.intro ?_ ?_ | refine Exists.intro _ (And.intro rfl ?_) | exact Or.inl rfl | exact l1 bd | exact SubA.lsl ls | exact SubA.sl sc | exact SubA.bool bo | exact l6 rfl | exact rowEq rs | fail))) rfl rfl rfl, by omega, by omega⟩
    · have em : m = pn := by omega
      have hWf : W.take m = W := List.take_of_length_le (by omega)
      rw [hWf, ← hP2, em, hA, Nat.add_assoc, ← hA2]
      first | refine code_sound (more := more4 false _ _) more4_ok FOK.wide _ ?_ | refine code_sound (more := more4 false _ _) more4_ok (FOK.inRound _) _ ?_
      repeat' ((try conv => whnf); first | refine k1 (fun hb => ?_) fun hb => ?_ | refine k2 (fun hb => ?_) fun hb => ?_ | (first | refine k3 (fun hb => ?_) fun hb => ?_ | refine k4 (fun hb => ?_) fun hb => ?_) <;> (try rw [List.length_map] at hb) <;> (try (exfalso; omega; done)) | refine k5 (fun hb => ?_) fun hb => ?_ | refine k6 (fun hb => ?_) fun hb => ?_ | refine Both.intro ?_ ?_ | refine And.intro rfl ?_ | refine s1 ?_ | refine s2 ?_ | refine s3 ?_ | refine s4 nm ?_ | refine s5 nm nm ?_ | refine s6 nm nm ?_ | refine s7 ?_ | refine And.intro (by assumption) ?_ | refine s8 nm ?_ | refine s9 nm nm ?_ | refine sa nm ?_ | refine ⟨_, _, getMapN nm, rfl, ?_⟩ | refine .inl ⟨_, getMapN nm, rfl, rfl, ?_⟩ | refine .inl ⟨rfl, rfl, bd, rfl, rfl, ?_⟩ | refine ⟨_, singles_flat _ _, ?_⟩ | refine ⟨_, singles_map _ _, ?_⟩ | refine And.intro (onesB_flat _ _ fun _ => rfl) ?_ | refine And.intro (onesB_map _ _ fun _ => rfl) ?_ | refine .inr ⟨rfl, rfl, rfl, ?_⟩ | refine ⟨⟨⟨onesB_flat _ _ fun _ => rfl, fl⟩, trivial⟩, ?_⟩ | refine And.intro bd ?_ | refine ⟨_, set_map _ _ _, ?_⟩ | refine ⟨_, set_rfl _ _ _, ?_⟩ | refine ⟨_, singles_rfl _, ?_⟩ | fail)
      exact ⟨k + 1, Le.of (by (repeat' (first | exact trivial | exact rfl | refine And.intro ?_ ?_ | refine Exists.intro _ (And.intro rfl ?_) | exact Or.inl rfl | exact l1 bd | exact SubA.lsl ls | exact SubA.sl sc | exact SubA.bool bo | exact l6 rfl | exact rowEq rs | fail))) (by (repeat' (first | exact trivial | exact rfl | refine And.intro ?_ ?_ | refine Exists.intro _ (And.intro rfl ?_) | exact Or.inl rfl | exact l1 bd | exact SubA.lsl ls | exact SubA.sl sc | exact SubA.bool bo | exact l6 rfl | exact rowEq rs | fail))) rfl rfl rfl, by omega, by omega⟩
  · have ek : k = R2.length := by omega
    subst ek
    rw [List.take_length]
    have qs := refSync_spec { d with pending := putL (G + 1) a0 R2 }
    obtain ⟨Y, hY⟩ : ∃ Y, Y = ({ d with pending := putL (G + 1) a0 R2 } : Disk).sync := ⟨_, rfl⟩
    rw [← hY] at qs
    have hS2 : S = if Y.2 = 0 then (⟨j.records, j.many, j.records.length⟩, Y.1, 0) else (zeroJ, Y.1, Y.2) := by rw [hS]; simp only [hY]
    first | refine code_sound (more := more4 false _ _) more4_ok FOK.wide _ ?_ | refine code_sound (more := more4 false _ _) more4_ok (FOK.inRound _) _ ?_
    repeat' ((try conv => whnf); first | refine k1 (fun hb => ?_) fun hb => ?_ | refine k2 (fun hb => ?_) fun hb => ?_ | (first | refine k3 (fun hb => ?_) fun hb => ?_ | refine k4 (fun hb => ?_) fun hb => ?_) <;> (try rw [List.length_map] at hb) <;> (try (exfalso; omega; done)) | refine k5 (fun hb => ?_) fun hb => ?_ | refine k6 (fun hb => ?_) fun hb => ?_ | refine Both.intro ?_ ?_ | refine And.intro rfl ?_ | refine s1 ?_ | refine s2 ?_ | refine s3 ?_ | refine s4 nm ?_ | refine s5 nm nm ?_ | refine s6 nm nm ?_ | refine s7 ?_ | refine And.intro (by assumption) ?_ | refine s8 nm ?_ | refine s9 nm nm ?_ | refine sa nm ?_ | refine ⟨_, _, getMapN nm, rfl, ?_⟩ | refine .inl ⟨_, getMapN nm, rfl, rfl, ?_⟩ | refine .inl ⟨rfl, rfl, bd, rfl, rfl, ?_⟩ | refine ⟨_, singles_flat _ _, ?_⟩ | refine ⟨_, singles_map _ _, ?_⟩ | refine And.intro (onesB_flat _ _ fun _ => rfl) ?_ | refine And.intro (onesB_map _ _ fun _ => rfl) ?_ | refine .inr ⟨rfl, rfl, rfl, ?_⟩ | refine ⟨⟨⟨onesB_flat _ _ fun _ => rfl, fl⟩, trivial⟩, ?_⟩ | refine And.intro bd ?_ | refine ⟨_, set_map _ _ _, ?_⟩ | refine ⟨_, set_rfl _ _ _, ?_⟩ | refine ⟨_, singles_rfl _, ?_⟩ | fail)
    refine .inl ⟨_, qs, ?_⟩
    repeat' ((try conv => whnf); first | refine k1 (fun hb => ?_) fun hb => ?_ | refine k2 (fun hb => ?_) fun hb => ?_ | (first | refine k3 (fun hb => ?_) fun hb => ?_ | refine k4 (fun hb => ?_) fun hb => ?_) <;> (try rw [List.length_map] at hb) <;> (try (exfalso; omega; done)) | refine k5 (fun hb => ?_) fun hb => ?_ | refine k6 (fun hb => ?_) fun hb => ?_ | refine Both.intro ?_ ?_ | refine And.intro rfl ?_ | refine s1 ?_ | refine s2 ?_ | refine s3 ?_ | refine s4 nm ?_ | refine s5 nm nm ?_ | refine s6 nm nm ?_ | refine s7 ?_ | refine And.intro (by assumption) ?_ | refine s8 nm ?_ | refine s9 nm nm ?_ | refine sa nm ?_ | refine ⟨_, _, getMapN nm, rfl, ?_⟩ | refine .inl ⟨_, getMapN nm, rfl, rfl, ?_⟩ | refine .inl ⟨rfl, rfl, bd, rfl, rfl, ?_⟩ | refine ⟨_, singles_flat _ _, ?_⟩ | refine ⟨_, singles_map _ _, ?_⟩ | refine And.intro (onesB_flat _ _ fun _ => rfl) ?_ | refine And.intro (onesB_map _ _ fun _ => rfl) ?_ | refine .inr ⟨rfl, rfl, rfl, ?_⟩ | refine ⟨⟨⟨onesB_flat _ _ fun _ => rfl, fl⟩, trivial⟩, ?_⟩ | refine And.intro bd ?_ | refine ⟨_, set_map _ _ _, ?_⟩ | refine ⟨_, set_rfl _ _ _, ?_⟩ | refine ⟨_, singles_rfl _, ?_⟩ | fail)
    all_goals (first | refine Wp.draw (more := more4 true _ _) more4_det more4_ok FOK.wide rfl (by decide +kernel) (by conv => lhs; reduce) ?_ | refine Wp.draw (more := more4 true _ _) more4_det more4_ok (FOK.inRound _) rfl (by decide +kernel) (by conv => lhs; reduce) ?_)
    all_goals (repeat' ((try conv => whnf); first | refine k1 (fun hb => ?_) fun hb => ?_ | refine k2 (fun hb => ?_) fun hb => ?_ | (first | refine k3 (fun hb => ?_) fun hb => ?_ | refine k4 (fun hb => ?_) fun hb => ?_) <;> (try rw [List.length_map] at hb) <;> (try (exfalso; omega; done)) | refine k5 (fun hb => ?_) fun hb => ?_ | refine k6 (fun hb => ?_) fun hb => ?_ | refine Both.intro ?_ ?_ | refine And.intro rfl ?_ | refine s1 ?_ | refine s2 ?_ | refine s3 ?_ | refine s4 nm ?_ | refine s5 nm nm ?_ | refine s6 nm nm ?_ | refine s7 ?_ | refine And.intro (by assumption) ?_ | refine s8 nm ?_ | refine s9 nm nm ?_ | refine sa nm ?_ | refine ⟨_, _, getMapN nm, rfl, ?_⟩ | refine .inl ⟨_, getMapN nm, rfl, rfl, ?_⟩ | refine .inl ⟨rfl, rfl, bd, rfl, rfl, ?_⟩ | refine ⟨_, singles_flat _ _, ?_⟩ | refine ⟨_, singles_map _ _, ?_⟩ | refine And.intro (onesB_flat _ _ fun _ => rfl) ?_ | refine And.intro (onesB_map _ _ fun _ => rfl) ?_ | refine .inr ⟨rfl, rfl, rfl, ?_⟩ | refine ⟨⟨⟨onesB_flat _ _ fun _ => rfl, fl⟩, trivial⟩, ?_⟩ | refine And.intro bd ?_ | refine ⟨_, set_map _ _ _, ?_⟩ | refine ⟨_, set_rfl _ _ _, ?_⟩ | refine ⟨_, singles_rfl _, ?_⟩ | fail))
    rotate_left
    · rw [if_neg (show ¬ Y.2 = 0 by assumption)] at hS2
      rw [hS2]
      exact sub_jde (PSub.agg ⟨PSub.nil 1, PSub.refl _, PSub.refl _, trivial⟩) (PSub.refl _) rfl
    · rw [if_pos (show Y.2 = 0 by assumption)] at hS2
      rw [hS2]
      exact sub_jde (PSub.agg ⟨PSub.refl _, PSub.refl _, PSub.of_eq (by simp), trivial⟩) (PSub.refl _) rfl
end Go.Proofs.Ytcgpikmaapallaa
/- Journals: the law of Sync is walked. Conditions: none. -/
namespace Go.Proofs.Ytcgpikmaapallaa
open Go.Avc
theorem few_3 {s p l : Nat} {F : Bool} (h : F = (decide (s ≤ 40) && decide (p ≤ 40) && decide (l ≤ 4000))) (hF : F = true) : l ≤ 4000 := by subst h; simp at hF; omega
theorem Jour.sync_recs (j : Jour) (d : Disk) : (j.sync d).1.records.length ≤ j.records.length := by
  unfold Jour.sync
  dsimp only
  repeat' split
  all_goals simp [zeroJ]
set_option maxRecDepth 20000
set_option maxHeartbeats 4000000
set_option linter.unusedSimpArgs false
attribute [local irreducible] PSub Wp PSpec Le Need Both
theorem syncLaw_spec (j : Jour) (d : Disk) (hj : lensN j.records ≤ 2000000) : PSpec Try.prog 5 [encJ j, encD d] (.bool true) := by
  have pf := jfew_spec d j.records (by omega)
  obtain ⟨F, hF⟩ : ∃ F, F = (decide (d.sectors.length ≤ 40) && decide (d.pending.length ≤ 40) && decide (lensN j.records ≤ 4000)) := ⟨_, rfl⟩
  have hF3 : F = true → lensN j.records ≤ 4000 := fun h => few_3 hF h
  rw [← hF] at pf
  refine PSpec.of_vc (fun Γ => more4 false Γ.P Γ.fx) (fun Γ => more4_ok) Try.func5 rfl Try.call5 (by simp) ?_
  rintro ⟨P, N, w0, X, β0, fx, y, hy⟩ rfl rfl rfl hoff; change y.on = false at hoff
  repeat' ((try conv => whnf); first | refine k1 (fun hb => ?_) fun hb => ?_ | refine k2 (fun hb => ?_) fun hb => ?_ | (first | refine k3 (fun hb => ?_) fun hb => ?_ | refine k4 (fun hb => ?_) fun hb => ?_) <;> (try rw [List.length_map] at hb) <;> (try (exfalso; omega; done)) | refine k5 (fun hb => ?_) fun hb => ?_ | refine k6 (fun hb => ?_) fun hb => ?_ | refine Both.intro ?_ ?_ | refine And.intro rfl ?_ | refine s1 ?_ | refine s2 ?_ | refine s3 ?_ | refine s4 nm ?_ | refine s5 nm nm ?_ | refine s6 nm nm ?_ | refine s7 ?_ | refine And.intro (by assumption) ?_ | refine s8 nm ?_ | refine s9 nm nm ?_ | refine sa nm ?_ | refine ⟨_, _, getMapN nm, rfl, ?_⟩ | refine .inl ⟨_, getMapN nm, rfl, rfl, ?_⟩ | refine .inl ⟨rfl, rfl, bd, rfl, rfl, ?_⟩ | refine ⟨_, singles_flat _ _, ?_⟩ | refine ⟨_, singles_map _ _, ?_⟩ | refine And.intro (onesB_flat _ _ fun _ => rfl) ?_ | refine And.intro (onesB_map _ _ fun _ => rfl) ?_ | refine .inr ⟨rfl, rfl, rfl, ?_⟩ | refine ⟨⟨⟨onesB_flat _ _ fun _ => rfl, fl⟩, trivial⟩, ?_⟩ | refine And.intro bd ?_ | refine ⟨_, set_map _ _ _, ?_⟩ | refine ⟨_, set_rfl _ _ _, ?_⟩ | refine ⟨_, singles_rfl _, ?_⟩ | fail)
  refine .inl ⟨_, jsane_spec, ?_⟩
  repeat' ((try conv => whnf); first | refine k1 (fun hb => ?_) fun hb => ?_ | refine k2 (fun hb => ?_) fun hb => ?_ | (first | refine k3 (fun hb => ?_) fun hb => ?_ | refine k4 (fun hb => ?_) fun hb => ?_) <;> (try rw [List.length_map] at hb) <;> (try (exfalso; omega; done)) | refine k5 (fun hb => ?_) fun hb => ?_ | refine k6 (fun hb => ?_) fun hb => ?_ | refine Both.intro ?_ ?_ | refine And.intro rfl ?_ | refine s1 ?_ | refine s2 ?_ | refine s3 ?_ | refine s4 nm ?_ | refine s5 nm nm ?_ | refine s6 nm nm ?_ | refine s7 ?_ | refine And.intro (by assumption) ?_ | refine s8 nm ?_ | refine s9 nm nm ?_ | refine sa nm ?_ | refine ⟨_, _, getMapN nm, rfl, ?_⟩ | refine .inl ⟨_, getMapN nm, rfl, rfl, ?_⟩ | refine .inl ⟨rfl, rfl, bd, rfl, rfl, ?_⟩ | refine ⟨_, singles_flat _ _, ?_⟩ | refine ⟨_, singles_map _ _, ?_⟩ | refine And.intro (onesB_flat _ _ fun _ => rfl) ?_ | refine And.intro (onesB_map _ _ fun _ => rfl) ?_ | refine .inr ⟨rfl, rfl, rfl, ?_⟩ | refine ⟨⟨⟨onesB_flat _ _ fun _ => rfl, fl⟩, trivial⟩, ?_⟩ | refine And.intro bd ?_ | refine ⟨_, set_map _ _ _, ?_⟩ | refine ⟨_, set_rfl _ _ _, ?_⟩ | refine ⟨_, singles_rfl _, ?_⟩ | fail)
  refine .inl ⟨_, pf, ?_⟩
  repeat' ((try conv => whnf); first | refine k1 (fun hb => ?_) fun hb => ?_ | refine k2 (fun hb => ?_) fun hb => ?_ | (first | refine k3 (fun hb => ?_) fun hb => ?_ | refine k4 (fun hb => ?_) fun hb => ?_) <;> (try rw [List.length_map] at hb) <;> (try (exfalso; omega; done)) | refine k5 (fun hb => ?_) fun hb => ?_ | refine k6 (fun hb => ?_) fun hb => ?_ | refine Both.intro ?_ ?_ | refine And.intro rfl ?_ | refine s1 ?_ | refine s2 ?_ | refine s3 ?_ | refine s4 nm ?_ | refine s5 nm nm ?_ | refine s6 nm nm ?_ | refine s7 ?_ | refine And.intro (by assumption) ?_ | refine s8 nm ?_ | refine s9 nm nm ?_ | refine sa nm ?_ | refine ⟨_, _, getMapN nm, rfl, ?_⟩ | refine .inl ⟨_, getMapN nm, rfl, rfl, ?_⟩ | refine .inl ⟨rfl, rfl, bd, rfl, rfl, ?_⟩ | refine ⟨_, singles_flat _ _, ?_⟩ | refine ⟨_, singles_map _ _, ?_⟩ | refine And.intro (onesB_flat _ _ fun _ => rfl) ?_ | refine And.intro (onesB_map _ _ fun _ => rfl) ?_ | refine .inr ⟨rfl, rfl, rfl, ?_⟩ | refine ⟨⟨⟨onesB_flat _ _ fun _ => rfl, fl⟩, trivial⟩, ?_⟩ | refine And.intro bd ?_ | refine ⟨_, set_map _ _ _, ?_⟩ | refine ⟨_, set_rfl _ _ _, ?_⟩ | refine ⟨_, singles_rfl _, ?_⟩ | fail)
  rotate_left
  · exact PSub.refl _
  have hl4 := hF3 (by assumption)
  have q1 := jsync_spec j d (by omega)
  have q2 := rsync_spec j d (by omega)
  have hlen : (j.sync d).1.records.length ≤ 1000000 := by
    have := j.sync_recs d
    have := lensN_len j.records
    omega
  obtain ⟨A, hA⟩ : ∃ A, A = j.sync d := ⟨_, rfl⟩
  rw [← hA] at q1 q2 hlen
  clear hA
  obtain ⟨A1, A2, A3⟩ := A
  dsimp only at hlen
  have qs := jsame_spec A1 A1 hlen
  rw [show A1.same A1 = true by simp [Jour.same]] at qs
  have qd := same_spec A2 A2
  rw [show A2.same A2 = true by simp [Disk.same]] at qd
  refine .inl ⟨_, q1, ?_⟩
  repeat' ((try conv => whnf); first | refine k1 (fun hb => ?_) fun hb => ?_ | refine k2 (fun hb => ?_) fun hb => ?_ | (first | refine k3 (fun hb => ?_) fun hb => ?_ | refine k4 (fun hb => ?_) fun hb => ?_) <;> (try rw [List.length_map] at hb) <;> (try (exfalso; omega; done)) | refine k5 (fun hb => ?_) fun hb => ?_ | refine k6 (fun hb => ?_) fun hb => ?_ | refine Both.intro ?_ ?_ | refine And.intro rfl ?_ | refine s1 ?_ | refine s2 ?_ | refine s3 ?_ | refine s4 nm ?_ | refine s5 nm nm ?_ | refine s6 nm nm ?_ | refine s7 ?_ | refine And.intro (by assumption) ?_ | refine s8 nm ?_ | refine s9 nm nm ?_ | refine sa nm ?_ | refine ⟨_, _, getMapN nm, rfl, ?_⟩ | refine .inl ⟨_, getMapN nm, rfl, rfl, ?_⟩ | refine .inl ⟨rfl, rfl, bd, rfl, rfl, ?_⟩ | refine ⟨_, singles_flat _ _, ?_⟩ | refine ⟨_, singles_map _ _, ?_⟩ | refine And.intro (onesB_flat _ _ fun _ => rfl) ?_ | refine And.intro (onesB_map _ _ fun _ => rfl) ?_ | refine .inr ⟨rfl, rfl, rfl, ?_⟩ | refine ⟨⟨⟨onesB_flat _ _ fun _ => rfl, fl⟩, trivial⟩, ?_⟩ | refine And.intro bd ?_ | refine ⟨_, set_map _ _ _, ?_⟩ | refine ⟨_, set_rfl _ _ _, ?_⟩ | refine ⟨_, singles_rfl _, ?_⟩ | fail)
  refine .inl ⟨_, q2, ?_⟩
  repeat' ((try conv => whnf); first | refine k1 (fun hb => ?_) fun hb => ?_ | refine k2 (fun hb => ?_) fun hb => ?_ | (first | refine k3 (fun hb => ?_) fun hb => ?_ | refine k4 (fun hb => ?_) fun hb => ?_) <;> (try rw [List.length_map] at hb) <;> (try (exfalso; omega; done)) | refine k5 (fun hb => ?_) fun hb => ?_ | refine k6 (fun hb => ?_) fun hb => ?_ | refine Both.intro ?_ ?_ | refine And.intro rfl ?_ | refine s1 ?_ | refine s2 ?_ | refine s3 ?_ | refine s4 nm ?_ | refine s5 nm nm ?_ | refine s6 nm nm ?_ | refine s7 ?_ | refine And.intro (by assumption) ?_ | refine s8 nm ?_ | refine s9 nm nm ?_ | refine sa nm ?_ | refine ⟨_, _, getMapN nm, rfl, ?_⟩ | refine .inl ⟨_, getMapN nm, rfl, rfl, ?_⟩ | refine .inl ⟨rfl, rfl, bd, rfl, rfl, ?_⟩ | refine ⟨_, singles_flat _ _, ?_⟩ | refine ⟨_, singles_map _ _, ?_⟩ | refine And.intro (onesB_flat _ _ fun _ => rfl) ?_ | refine And.intro (onesB_map _ _ fun _ => rfl) ?_ | refine .inr ⟨rfl, rfl, rfl, ?_⟩ | refine ⟨⟨⟨onesB_flat _ _ fun _ => rfl, fl⟩, trivial⟩, ?_⟩ | refine And.intro bd ?_ | refine ⟨_, set_map _ _ _, ?_⟩ | refine ⟨_, set_rfl _ _ _, ?_⟩ | refine ⟨_, singles_rfl _, ?_⟩ | fail)
  refine .inl ⟨_, qs, ?_⟩
  repeat' ((try conv => whnf); first | refine k1 (fun hb => ?_) fun hb => ?_ | refine k2 (fun hb => ?_) fun hb => ?_ | (first | refine k3 (fun hb => ?_) fun hb => ?_ | refine k4 (fun hb => ?_) fun hb => ?_) <;> (try rw [List.length_map] at hb) <;> (try (exfalso; omega; done)) | refine k5 (fun hb => ?_) fun hb => ?_ | refine k6 (fun hb => ?_) fun hb => ?_ | refine Both.intro ?_ ?_ | refine And.intro rfl ?_ | refine s1 ?_ | refine s2 ?_ | refine s3 ?_ | refine s4 nm ?_ | refine s5 nm nm ?_ | refine s6 nm nm ?_ | refine s7 ?_ | refine And.intro (by assumption) ?_ | refine s8 nm ?_ | refine s9 nm nm ?_ | refine sa nm ?_ | refine ⟨_, _, getMapN nm, rfl, ?_⟩ | refine .inl ⟨_, getMapN nm, rfl, rfl, ?_⟩ | refine .inl ⟨rfl, rfl, bd, rfl, rfl, ?_⟩ | refine ⟨_, singles_flat _ _, ?_⟩ | refine ⟨_, singles_map _ _, ?_⟩ | refine And.intro (onesB_flat _ _ fun _ => rfl) ?_ | refine And.intro (onesB_map _ _ fun _ => rfl) ?_ | refine .inr ⟨rfl, rfl, rfl, ?_⟩ | refine ⟨⟨⟨onesB_flat _ _ fun _ => rfl, fl⟩, trivial⟩, ?_⟩ | refine And.intro bd ?_ | refine ⟨_, set_map _ _ _, ?_⟩ | refine ⟨_, set_rfl _ _ _, ?_⟩ | refine ⟨_, singles_rfl _, ?_⟩ | fail)
  refine .inl ⟨_, qd, ?_⟩
  repeat' ((try conv => whnf); first | refine k1 (fun hb => ?_) fun hb => ?_ | refine k2 (fun hb => ?_) fun hb => ?_ | (first | refine k3 (fun hb => ?_) fun hb => ?_ | refine k4 (fun hb => ?_) fun hb => ?_) <;> (try rw [List.length_map] at hb) <;> (try (exfalso; omega; done)) | refine k5 (fun hb => ?_) fun hb => ?_ | refine k6 (fun hb => ?_) fun hb => ?_ | refine Both.intro ?_ ?_ | refine And.intro rfl ?_ | refine s1 ?_ | refine s2 ?_ | refine s3 ?_ | refine s4 nm ?_ | refine s5 nm nm ?_ | refine s6 nm nm ?_ | refine s7 ?_ | refine And.intro (by assumption) ?_ | refine s8 nm ?_ | refine s9 nm nm ?_ | refine sa nm ?_ | refine ⟨_, _, getMapN nm, rfl, ?_⟩ | refine .inl ⟨_, getMapN nm, rfl, rfl, ?_⟩ | refine .inl ⟨rfl, rfl, bd, rfl, rfl, ?_⟩ | refine ⟨_, singles_flat _ _, ?_⟩ | refine ⟨_, singles_map _ _, ?_⟩ | refine And.intro (onesB_flat _ _ fun _ => rfl) ?_ | refine And.intro (onesB_map _ _ fun _ => rfl) ?_ | refine .inr ⟨rfl, rfl, rfl, ?_⟩ | refine ⟨⟨⟨onesB_flat _ _ fun _ => rfl, fl⟩, trivial⟩, ?_⟩ | refine And.intro bd ?_ | refine ⟨_, set_map _ _ _, ?_⟩ | refine ⟨_, set_rfl _ _ _, ?_⟩ | refine ⟨_, singles_rfl _, ?_⟩ | fail)
  all_goals exact PSub.val_bool (by simp)
end Go.Proofs.Ytcgpikmaapallaa
