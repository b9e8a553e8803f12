/- Disks: the reference's Read and Few; double. Conditions: none. -/
import Derived.Test.YtcgpikmaapallaaWf
import Derived.Test.YtcgpikmaapallaaWd
import Derived.Test.YtcgpikmaapallaaWh
import Derived.Deep.AppendSrc
import Derived.Test.YtcgpikmaapallaaWn
set_option linter.unusedSimpArgs false
set_option linter.unusedVariables false
namespace Go.Proofs.Ytcgpikmaapallaa
open Go.Avc
set_option maxRecDepth 20000
set_option maxHeartbeats 4000000
set_option linter.unusedSimpArgs false
attribute [local irreducible] PSub Wp PSpec Le Need Both
set_option linter.unusedSimpArgs false
set_option maxHeartbeats 2000000
set_option maxRecDepth 10000
def Disk.lens (d : Disk) : List Nat := d.sectors.map List.length ++ d.pending.map fun w => w.2.length
def Disk.fits (d : Disk) : Prop := ∀ n ∈ d.lens, n ≤ 140737488355328

end Go.Proofs.Ytcgpikmaapallaa
/- Disks: the reference's Sync. Conditions: none. -/
namespace Go.Proofs.Ytcgpikmaapallaa
open Go.Avc
set_option maxRecDepth 20000
set_option maxHeartbeats 4000000
set_option linter.unusedSimpArgs false
attribute [local irreducible] PSub Wp PSpec Le Need Both
set_option linter.unusedSimpArgs false
set_option maxHeartbeats 2000000
set_option maxRecDepth 10000
theorem torn2 {s w : List UInt8} : PV.sl (0 + 1) (List.take (([] ++ cut (List.map (fun b : UInt8 => [PV.val (Value.int IntKind.u8 (b.toNat : Int))]) w) 0 (Int.toNat 64)).length
      + (cut (List.map (fun b : UInt8 => [PV.val (Value.int IntKind.u8 (b.toNat : Int))]) s) (Int.toNat 64) (List.map (fun b : UInt8 => [PV.val (Value.int IntKind.u8 (b.toNat : Int))]) s).length).length)
    (List.drop 0 ([] ++ cut (List.map (fun b : UInt8 => [PV.val (Value.int IntKind.u8 (b.toNat : Int))]) w) 0 (Int.toNat 64) ++ cut (List.map (fun b : UInt8 => [PV.val (Value.int IntKind.u8 (b.toNat : Int))]) s) (Int.toNat 64) (List.map (fun b : UInt8 => [PV.val (Value.int IntKind.u8 (b.toNat : Int))]) s).length))) = encB (w.take 64 ++ s.drop 64) := by
  have e2 : Int.toNat 64 = 64 := rfl
  simp only [cut, encB, Nat.zero_add, List.drop_zero, List.nil_append, e2]
  congr 1
  rw [List.take_of_length_le (by simp)]
  rw [List.map_append, List.map_take, List.map_drop, List.take_of_length_le (i := _ - 64) (by simp)]

theorem refSync_spec (d : Disk) : PSpec Try.prog 49 [encD d] (encDE d.sync) := by
  refine PSpec.of_vc (fun Γ => more2 false Γ.P Γ.fx) (fun Γ => more2_ok) Try.func49 rfl Try.call49 (by simp) ?_
  rintro ⟨P, N, w0, X, β0, fx, y, hy⟩ rfl rfl rfl hoff; change y.on = false at hoff
  repeat' ((try conv => whnf); first | refine k1 (fun hb => ?_) fun hb => ?_ | refine k2 (fun hb => ?_) fun hb => ?_ | (first | refine k3 (fun hb => ?_) fun hb => ?_ | refine k4 (fun hb => ?_) fun hb => ?_) <;> (try rw [List.length_map] at hb) <;> (try (exfalso; omega; done)) | refine k5 (fun hb => ?_) fun hb => ?_ | refine k6 (fun hb => ?_) fun hb => ?_ | refine Both.intro ?_ ?_ | refine And.intro rfl ?_ | refine s1 ?_ | refine s2 ?_ | refine s3 ?_ | refine s4 nm ?_ | refine s5 nm nm ?_ | refine s6 nm nm ?_ | refine s7 ?_ | refine And.intro (by assumption) ?_ | refine s8 nm ?_ | refine s9 nm nm ?_ | refine sa nm ?_ | refine ⟨_, _, getMapN nm, rfl, ?_⟩ | refine .inl ⟨_, getMapN nm, rfl, rfl, ?_⟩ | refine .inl ⟨rfl, rfl, bd, rfl, rfl, ?_⟩ | refine ⟨_, singles_flat _ _, ?_⟩ | refine ⟨_, singles_map _ _, ?_⟩ | refine And.intro (onesB_flat _ _ fun _ => rfl) ?_ | refine And.intro (onesB_map _ _ fun _ => rfl) ?_ | refine .inr ⟨rfl, rfl, rfl, ?_⟩ | refine ⟨⟨⟨onesB_flat _ _ fun _ => rfl, fl⟩, trivial⟩, ?_⟩ | refine And.intro bd ?_ | refine ⟨_, set_map _ _ _, ?_⟩ | refine ⟨_, set_rfl _ _ _, ?_⟩ | refine ⟨_, singles_rfl _, ?_⟩ | fail)
  refine .inl ⟨_, refCheck_spec d, ?_⟩
  repeat' ((try conv => whnf); first | refine k1 (fun hb => ?_) fun hb => ?_ | refine k2 (fun hb => ?_) fun hb => ?_ | (first | refine k3 (fun hb => ?_) fun hb => ?_ | refine k4 (fun hb => ?_) fun hb => ?_) <;> (try rw [List.length_map] at hb) <;> (try (exfalso; omega; done)) | refine k5 (fun hb => ?_) fun hb => ?_ | refine k6 (fun hb => ?_) fun hb => ?_ | refine Both.intro ?_ ?_ | refine And.intro rfl ?_ | refine s1 ?_ | refine s2 ?_ | refine s3 ?_ | refine s4 nm ?_ | refine s5 nm nm ?_ | refine s6 nm nm ?_ | refine s7 ?_ | refine And.intro (by assumption) ?_ | refine s8 nm ?_ | refine s9 nm nm ?_ | refine sa nm ?_ | refine ⟨_, _, getMapN nm, rfl, ?_⟩ | refine .inl ⟨_, getMapN nm, rfl, rfl, ?_⟩ | refine .inl ⟨rfl, rfl, bd, rfl, rfl, ?_⟩ | refine ⟨_, singles_flat _ _, ?_⟩ | refine ⟨_, singles_map _ _, ?_⟩ | refine And.intro (onesB_flat _ _ fun _ => rfl) ?_ | refine And.intro (onesB_map _ _ fun _ => rfl) ?_ | refine .inr ⟨rfl, rfl, rfl, ?_⟩ | refine ⟨⟨⟨onesB_flat _ _ fun _ => rfl, fl⟩, trivial⟩, ?_⟩ | refine And.intro bd ?_ | refine ⟨_, set_map _ _ _, ?_⟩ | refine ⟨_, set_rfl _ _ _, ?_⟩ | refine ⟨_, singles_rfl _, ?_⟩ | fail)
  · exact sub_zero (by simp only [Disk.sync, ready_stopped hb]; rfl)
  · have hr := ready_ok (d := d) (by assumption) (by assumption)
    obtain ⟨lq1, lq2, lq3, lq4⟩ := ready_le hr
    have hl0 : -1 ≤ d.left := by have := (ready_of hr).1.2.2.2.1; omega
    have hl3 := (ready_of hr).1.2.2.2.2.1
    have hl1 : d.left.toNat < d.pending.length := by omega
    have h8 := lq4 _ (List.getElem_mem hl1)
    have e : d.sync = (⟨tear (perform d.sectors (d.pending.take d.left.toNat)) d.pending[d.left.toNat], [], 0, true⟩, 470) := by simp only [Disk.sync, if_pos hr]; rw [if_neg (by omega)]; simp [List.getD, hl1]
    first | refine Wp.draw (more := more2 true _ _) more2_det more2_ok FOK.wide rfl (by decide +kernel) (by conv => lhs; reduce) ?_ | refine Wp.draw (more := more2 true _ _) more2_det more2_ok (FOK.inRound _) rfl (by decide +kernel) (by conv => lhs; reduce) ?_
    repeat' ((try conv => whnf); first | refine k1 (fun hb => ?_) fun hb => ?_ | refine k2 (fun hb => ?_) fun hb => ?_ | (first | refine k3 (fun hb => ?_) fun hb => ?_ | refine k4 (fun hb => ?_) fun hb => ?_) <;> (try rw [List.length_map] at hb) <;> (try (exfalso; omega; done)) | refine k5 (fun hb => ?_) fun hb => ?_ | refine k6 (fun hb => ?_) fun hb => ?_ | refine Both.intro ?_ ?_ | refine And.intro rfl ?_ | refine s1 ?_ | refine s2 ?_ | refine s3 ?_ | refine s4 nm ?_ | refine s5 nm nm ?_ | refine s6 nm nm ?_ | refine s7 ?_ | refine And.intro (by assumption) ?_ | refine s8 nm ?_ | refine s9 nm nm ?_ | refine sa nm ?_ | refine ⟨_, _, getMapN nm, rfl, ?_⟩ | refine .inl ⟨_, getMapN nm, rfl, rfl, ?_⟩ | refine .inl ⟨rfl, rfl, bd, rfl, rfl, ?_⟩ | refine ⟨_, singles_flat _ _, ?_⟩ | refine ⟨_, singles_map _ _, ?_⟩ | refine And.intro (onesB_flat _ _ fun _ => rfl) ?_ | refine And.intro (onesB_map _ _ fun _ => rfl) ?_ | refine .inr ⟨rfl, rfl, rfl, ?_⟩ | refine ⟨⟨⟨onesB_flat _ _ fun _ => rfl, fl⟩, trivial⟩, ?_⟩ | refine And.intro bd ?_ | refine ⟨_, set_map _ _ _, ?_⟩ | refine ⟨_, set_rfl _ _ _, ?_⟩ | refine ⟨_, singles_rfl _, ?_⟩ | fail)
    refine Wp.loop (fun k : Nat => ⟨[(1, .loc 1 0 0), (2, .loc 2 0 0), (4, .int (d.left.toNat : Nat)), (5, .bool (decide (d.left < (d.pending.length : Int)))), (6, .loc 6 0 0), (7, .int k)],
        [(1, some (.box [.pure (encS d.sectors), .pure (encWs d.pending), .int d.left, .bool d.stopped])), (2, some (.box [.pure (.val (.slice none 0 0)), .pure (.val (.slice none 0 0)), .int 0, .bool false])),
         (6, some (.box [.lsl 35 0 d.sectors.length, .pure (.val (.slice none 0 0)), .int d.left, .bool false])), (35, some (.row 1 ((perform d.sectors (d.pending.take k)).map fun s => [encB s])))], [1, 2, 6, 35]⟩)
      (fun k => k ≤ d.left.toNat) (fun k => d.left.toNat - k) 0 (Le.of ?_ ?_ rfl rfl rfl) (by omega) ?_
    · (repeat' (first | exact trivial | exact rfl | refine And.intro ?_ ?_ | refine Exists.intro _ (And.intro rfl ?_) | exact Or.inl rfl | exact l1 bd | exact SubA.lsl ls | exact SubA.sl sc | exact SubA.bool bo | exact l6 rfl | exact rowEq rs | fail))
    · (repeat' (first | exact trivial | exact rfl | refine And.intro ?_ ?_ | refine Exists.intro _ (And.intro rfl ?_) | exact Or.inl rfl | exact l1 bd | exact SubA.lsl ls | exact SubA.sl sc | exact SubA.bool bo | exact l6 rfl | exact rowEq rs | fail))
    intro k hk
    have hplen := perform_len d.sectors (d.pending.take k)
    by_cases hkm : k < d.left.toNat
    · have hkm' : k < d.pending.length := by omega
      have h5 := lq4 _ (List.getElem_mem hkm')
      have h7 := perform_take d.sectors d.pending hkm'
      first | refine code_sound (more := more2 false _ _) more2_ok FOK.wide _ ?_ | refine code_sound (more := more2 false _ _) more2_ok (FOK.inRound _) _ ?_
      repeat' ((try conv => whnf); first | refine k1 (fun hb => ?_) fun hb => ?_ | refine k2 (fun hb => ?_) fun hb => ?_ | (first | refine k3 (fun hb => ?_) fun hb => ?_ | refine k4 (fun hb => ?_) fun hb => ?_) <;> (try rw [List.length_map] at hb) <;> (try (exfalso; omega; done)) | refine k5 (fun hb => ?_) fun hb => ?_ | refine k6 (fun hb => ?_) fun hb => ?_ | refine Both.intro ?_ ?_ | refine And.intro rfl ?_ | refine s1 ?_ | refine s2 ?_ | refine s3 ?_ | refine s4 nm ?_ | refine s5 nm nm ?_ | refine s6 nm nm ?_ | refine s7 ?_ | refine And.intro (by assumption) ?_ | refine s8 nm ?_ | refine s9 nm nm ?_ | refine sa nm ?_ | refine ⟨_, _, getMapN nm, rfl, ?_⟩ | refine .inl ⟨_, getMapN nm, rfl, rfl, ?_⟩ | refine .inl ⟨rfl, rfl, bd, rfl, rfl, ?_⟩ | refine ⟨_, singles_flat _ _, ?_⟩ | refine ⟨_, singles_map _ _, ?_⟩ | refine And.intro (onesB_flat _ _ fun _ => rfl) ?_ | refine And.intro (onesB_map _ _ fun _ => rfl) ?_ | refine .inr ⟨rfl, rfl, rfl, ?_⟩ | refine ⟨⟨⟨onesB_flat _ _ fun _ => rfl, fl⟩, trivial⟩, ?_⟩ | refine And.intro bd ?_ | refine ⟨_, set_map _ _ _, ?_⟩ | refine ⟨_, set_rfl _ _ _, ?_⟩ | refine ⟨_, singles_rfl _, ?_⟩ | fail)
      first | refine Wp.draw (more := more2 true _ _) more2_det more2_ok FOK.wide rfl (by decide +kernel) (by conv => lhs; reduce) ?_ | refine Wp.draw (more := more2 true _ _) more2_det more2_ok (FOK.inRound _) rfl (by decide +kernel) (by conv => lhs; reduce) ?_
      repeat' ((try conv => whnf); first | refine k1 (fun hb => ?_) fun hb => ?_ | refine k2 (fun hb => ?_) fun hb => ?_ | (first | refine k3 (fun hb => ?_) fun hb => ?_ | refine k4 (fun hb => ?_) fun hb => ?_) <;> (try rw [List.length_map] at hb) <;> (try (exfalso; omega; done)) | refine k5 (fun hb => ?_) fun hb => ?_ | refine k6 (fun hb => ?_) fun hb => ?_ | refine Both.intro ?_ ?_ | refine And.intro rfl ?_ | refine s1 ?_ | refine s2 ?_ | refine s3 ?_ | refine s4 nm ?_ | refine s5 nm nm ?_ | refine s6 nm nm ?_ | refine s7 ?_ | refine And.intro (by assumption) ?_ | refine s8 nm ?_ | refine s9 nm nm ?_ | refine sa nm ?_ | refine ⟨_, _, getMapN nm, rfl, ?_⟩ | refine .inl ⟨_, getMapN nm, rfl, rfl, ?_⟩ | refine .inl ⟨rfl, rfl, bd, rfl, rfl, ?_⟩ | refine ⟨_, singles_flat _ _, ?_⟩ | refine ⟨_, singles_map _ _, ?_⟩ | refine And.intro (onesB_flat _ _ fun _ => rfl) ?_ | refine And.intro (onesB_map _ _ fun _ => rfl) ?_ | refine .inr ⟨rfl, rfl, rfl, ?_⟩ | refine ⟨⟨⟨onesB_flat _ _ fun _ => rfl, fl⟩, trivial⟩, ?_⟩ | refine And.intro bd ?_ | refine ⟨_, set_map _ _ _, ?_⟩ | refine ⟨_, set_rfl _ _ _, ?_⟩ | refine ⟨_, singles_rfl _, ?_⟩ | fail)
      refine ⟨k + 1, Le.of ?_ ?_ rfl rfl rfl, by omega, by omega⟩
      · (repeat' (first | exact trivial | exact rfl | refine And.intro ?_ ?_ | refine Exists.intro _ (And.intro rfl ?_) | exact Or.inl rfl | exact l1 bd | exact SubA.lsl ls | exact SubA.sl sc | exact SubA.bool bo | exact l6 rfl | exact rowEq rs | fail))
      · (repeat' (first | exact trivial | exact rfl | refine And.intro ?_ ?_ | refine Exists.intro _ (And.intro rfl ?_) | exact Or.inl rfl | exact l1 bd | exact SubA.lsl ls | exact SubA.sl sc | exact SubA.bool bo | exact l6 rfl | exact rowEq rs | fail))
        refine rowEq ?_
        simp only [h7, List.map_set, Nat.zero_add]
    have ek : k = d.left.toNat := by omega
    subst ek
    first | refine code_sound (more := more2 false _ _) more2_ok FOK.wide _ ?_ | refine code_sound (more := more2 false _ _) more2_ok (FOK.inRound _) _ ?_
    repeat' ((try conv => whnf); first | refine k1 (fun hb => ?_) fun hb => ?_ | refine k2 (fun hb => ?_) fun hb => ?_ | (first | refine k3 (fun hb => ?_) fun hb => ?_ | refine k4 (fun hb => ?_) fun hb => ?_) <;> (try rw [List.length_map] at hb) <;> (try (exfalso; omega; done)) | refine k5 (fun hb => ?_) fun hb => ?_ | refine k6 (fun hb => ?_) fun hb => ?_ | refine Both.intro ?_ ?_ | refine And.intro rfl ?_ | refine s1 ?_ | refine s2 ?_ | refine s3 ?_ | refine s4 nm ?_ | refine s5 nm nm ?_ | refine s6 nm nm ?_ | refine s7 ?_ | refine And.intro (by assumption) ?_ | refine s8 nm ?_ | refine s9 nm nm ?_ | refine sa nm ?_ | refine ⟨_, _, getMapN nm, rfl, ?_⟩ | refine .inl ⟨_, getMapN nm, rfl, rfl, ?_⟩ | refine .inl ⟨rfl, rfl, bd, rfl, rfl, ?_⟩ | refine ⟨_, singles_flat _ _, ?_⟩ | refine ⟨_, singles_map _ _, ?_⟩ | refine And.intro (onesB_flat _ _ fun _ => rfl) ?_ | refine And.intro (onesB_map _ _ fun _ => rfl) ?_ | refine .inr ⟨rfl, rfl, rfl, ?_⟩ | refine ⟨⟨⟨onesB_flat _ _ fun _ => rfl, fl⟩, trivial⟩, ?_⟩ | refine And.intro bd ?_ | refine ⟨_, set_map _ _ _, ?_⟩ | refine ⟨_, set_rfl _ _ _, ?_⟩ | refine ⟨_, singles_rfl _, ?_⟩ | fail)
    have hidx : 0 + d.pending[d.left.toNat].fst.toNat < (perform d.sectors (List.take d.left.toNat d.pending)).length := by omega
    have h12 : ((perform d.sectors (List.take d.left.toNat d.pending))[0 + d.pending[d.left.toNat].fst.toNat]'hidx).length = 128 := perform_128 lq3 (fun w hw => (lq4 w (List.mem_of_mem_take hw)).2.2) _ (List.getElem_mem _)
    have h13 := h8.2.2
    first | refine Wp.draw (more := more2 true _ _) more2_det more2_ok FOK.wide rfl (by decide +kernel) (by conv => lhs; reduce) ?_ | refine Wp.draw (more := more2 true _ _) more2_det more2_ok (FOK.inRound _) rfl (by decide +kernel) (by conv => lhs; reduce) ?_
    repeat' ((try conv => whnf); first | refine k1 (fun hb => ?_) fun hb => ?_ | refine k2 (fun hb => ?_) fun hb => ?_ | (first | refine k3 (fun hb => ?_) fun hb => ?_ | refine k4 (fun hb => ?_) fun hb => ?_) <;> (try rw [List.length_map] at hb) <;> (try (exfalso; omega; done)) | refine k5 (fun hb => ?_) fun hb => ?_ | refine k6 (fun hb => ?_) fun hb => ?_ | refine Both.intro ?_ ?_ | refine And.intro rfl ?_ | refine s1 ?_ | refine s2 ?_ | refine s3 ?_ | refine s4 nm ?_ | refine s5 nm nm ?_ | refine s6 nm nm ?_ | refine s7 ?_ | refine And.intro (by assumption) ?_ | refine s8 nm ?_ | refine s9 nm nm ?_ | refine sa nm ?_ | refine ⟨_, _, getMapN nm, rfl, ?_⟩ | refine .inl ⟨_, getMapN nm, rfl, rfl, ?_⟩ | refine .inl ⟨rfl, rfl, bd, rfl, rfl, ?_⟩ | refine ⟨_, singles_flat _ _, ?_⟩ | refine ⟨_, singles_map _ _, ?_⟩ | refine And.intro (onesB_flat _ _ fun _ => rfl) ?_ | refine And.intro (onesB_map _ _ fun _ => rfl) ?_ | refine .inr ⟨rfl, rfl, rfl, ?_⟩ | refine ⟨⟨⟨onesB_flat _ _ fun _ => rfl, fl⟩, trivial⟩, ?_⟩ | refine And.intro bd ?_ | refine ⟨_, set_map _ _ _, ?_⟩ | refine ⟨_, set_rfl _ _ _, ?_⟩ | refine ⟨_, singles_rfl _, ?_⟩ | fail)
    rw [e]
    refine sub_de (sub_disk (sub_sl ?_) (PSub.nil 2) rfl rfl) rfl
    have h9 : (perform d.sectors (List.take d.left.toNat d.pending))[0 + d.pending[d.left.toNat].fst.toNat]'(by omega) = (perform d.sectors (List.take d.left.toNat d.pending)).getD d.pending[d.left.toNat].fst.toNat [] := by
      have : d.pending[d.left.toNat].fst.toNat < (perform d.sectors (List.take d.left.toNat d.pending)).length := by omega
      simp [List.getD, this]
    have h10 : ((perform d.sectors (List.take d.left.toNat d.pending)).getD d.pending[d.left.toNat].fst.toNat []).length = 128 := by
      rw [← h9]
      exact perform_128 lq3 (fun w hw => (lq4 w (List.mem_of_mem_take hw)).2.2) _ (List.getElem_mem _)
    have h11 := h8.2.2
    simp only [h9, tear]
    clear h9
    generalize (perform d.sectors (List.take d.left.toNat d.pending)).getD d.pending[d.left.toNat].fst.toNat [] = s at h10 ⊢
    generalize d.pending[d.left.toNat] = w at h11 ⊢
    rw [torn2]
    simp only [List.drop_zero, Nat.zero_add, ← List.map_set]
    exact List.take_of_length_le (by simp; omega)
  · have hr := ready_ok (d := d) (by assumption) (by assumption)
    obtain ⟨lq1, lq2, lq3, lq4⟩ := ready_le hr
    have hl0 : -1 ≤ d.left := by have := (ready_of hr).1.2.2.2.1; omega
    have hl3 := (ready_of hr).1.2.2.2.2.1
    have hw : ¬ d.left = -1 := by omega
    have hw2 : (d.pending.length : Int) ≤ d.left := by omega
    have e : d.sync = (⟨perform d.sectors d.pending, [], d.left - d.pending.length, false⟩, 0) := by simp only [Disk.sync, if_pos hr]; rw [if_pos (by omega), if_neg hw]
    first | refine Wp.draw (more := more2 true _ _) more2_det more2_ok FOK.wide rfl (by decide +kernel) (by conv => lhs; reduce) ?_ | refine Wp.draw (more := more2 true _ _) more2_det more2_ok (FOK.inRound _) rfl (by decide +kernel) (by conv => lhs; reduce) ?_
    repeat' ((try conv => whnf); first | refine k1 (fun hb => ?_) fun hb => ?_ | refine k2 (fun hb => ?_) fun hb => ?_ | (first | refine k3 (fun hb => ?_) fun hb => ?_ | refine k4 (fun hb => ?_) fun hb => ?_) <;> (try rw [List.length_map] at hb) <;> (try (exfalso; omega; done)) | refine k5 (fun hb => ?_) fun hb => ?_ | refine k6 (fun hb => ?_) fun hb => ?_ | refine Both.intro ?_ ?_ | refine And.intro rfl ?_ | refine s1 ?_ | refine s2 ?_ | refine s3 ?_ | refine s4 nm ?_ | refine s5 nm nm ?_ | refine s6 nm nm ?_ | refine s7 ?_ | refine And.intro (by assumption) ?_ | refine s8 nm ?_ | refine s9 nm nm ?_ | refine sa nm ?_ | refine ⟨_, _, getMapN nm, rfl, ?_⟩ | refine .inl ⟨_, getMapN nm, rfl, rfl, ?_⟩ | refine .inl ⟨rfl, rfl, bd, rfl, rfl, ?_⟩ | refine ⟨_, singles_flat _ _, ?_⟩ | refine ⟨_, singles_map _ _, ?_⟩ | refine And.intro (onesB_flat _ _ fun _ => rfl) ?_ | refine And.intro (onesB_map _ _ fun _ => rfl) ?_ | refine .inr ⟨rfl, rfl, rfl, ?_⟩ | refine ⟨⟨⟨onesB_flat _ _ fun _ => rfl, fl⟩, trivial⟩, ?_⟩ | refine And.intro bd ?_ | refine ⟨_, set_map _ _ _, ?_⟩ | refine ⟨_, set_rfl _ _ _, ?_⟩ | refine ⟨_, singles_rfl _, ?_⟩ | fail)
    refine Wp.loop (fun k : Nat => ⟨[(1, .loc 1 0 0), (2, .loc 2 0 0), (4, .int (d.pending.length : Nat)), (5, .bool (decide (d.left < (d.pending.length : Int)))), (6, .loc 6 0 0), (7, .int k)],
        [(1, some (.box [.pure (encS d.sectors), .pure (encWs d.pending), .int d.left, .bool d.stopped])), (2, some (.box [.pure (.val (.slice none 0 0)), .pure (.val (.slice none 0 0)), .int 0, .bool false])),
         (6, some (.box [.lsl 35 0 d.sectors.length, .pure (.val (.slice none 0 0)), .int d.left, .bool false])), (35, some (.row 1 ((perform d.sectors (d.pending.take k)).map fun s => [encB s])))], [1, 2, 6, 35]⟩)
      (fun k => k ≤ d.pending.length) (fun k => d.pending.length - k) 0 (Le.of ?_ ?_ rfl rfl rfl) (by omega) ?_
    · (repeat' (first | exact trivial | exact rfl | refine And.intro ?_ ?_ | refine Exists.intro _ (And.intro rfl ?_) | exact Or.inl rfl | exact l1 bd | exact SubA.lsl ls | exact SubA.sl sc | exact SubA.bool bo | exact l6 rfl | exact rowEq rs | fail))
    · (repeat' (first | exact trivial | exact rfl | refine And.intro ?_ ?_ | refine Exists.intro _ (And.intro rfl ?_) | exact Or.inl rfl | exact l1 bd | exact SubA.lsl ls | exact SubA.sl sc | exact SubA.bool bo | exact l6 rfl | exact rowEq rs | fail))
    intro k hk
    have hplen := perform_len d.sectors (d.pending.take k)
    by_cases hkm : k < d.pending.length
    · have hkm' : k < d.pending.length := by omega
      have h5 := lq4 _ (List.getElem_mem hkm')
      have h7 := perform_take d.sectors d.pending hkm'
      first | refine code_sound (more := more2 false _ _) more2_ok FOK.wide _ ?_ | refine code_sound (more := more2 false _ _) more2_ok (FOK.inRound _) _ ?_
      repeat' ((try conv => whnf); first | refine k1 (fun hb => ?_) fun hb => ?_ | refine k2 (fun hb => ?_) fun hb => ?_ | (first | refine k3 (fun hb => ?_) fun hb => ?_ | refine k4 (fun hb => ?_) fun hb => ?_) <;> (try rw [List.length_map] at hb) <;> (try (exfalso; omega; done)) | refine k5 (fun hb => ?_) fun hb => ?_ | refine k6 (fun hb => ?_) fun hb => ?_ | refine Both.intro ?_ ?_ | refine And.intro rfl ?_ | refine s1 ?_ | refine s2 ?_ | refine s3 ?_ | refine s4 nm ?_ | refine s5 nm nm ?_ | refine s6 nm nm ?_ | refine s7 ?_ | refine And.intro (by assumption) ?_ | refine s8 nm ?_ | refine s9 nm nm ?_ | refine sa nm ?_ | refine ⟨_, _, getMapN nm, rfl, ?_⟩ | refine .inl ⟨_, getMapN nm, rfl, rfl, ?_⟩ | refine .inl ⟨rfl, rfl, bd, rfl, rfl, ?_⟩ | refine ⟨_, singles_flat _ _, ?_⟩ | refine ⟨_, singles_map _ _, ?_⟩ | refine And.intro (onesB_flat _ _ fun _ => rfl) ?_ | refine And.intro (onesB_map _ _ fun _ => rfl) ?_ | refine .inr ⟨rfl, rfl, rfl, ?_⟩ | refine ⟨⟨⟨onesB_flat _ _ fun _ => rfl, fl⟩, trivial⟩, ?_⟩ | refine And.intro bd ?_ | refine ⟨_, set_map _ _ _, ?_⟩ | refine ⟨_, set_rfl _ _ _, ?_⟩ | refine ⟨_, singles_rfl _, ?_⟩ | fail)
      first | refine Wp.draw (more := more2 true _ _) more2_det more2_ok FOK.wide rfl (by decide +kernel) (by conv => lhs; reduce) ?_ | refine Wp.draw (more := more2 true _ _) more2_det more2_ok (FOK.inRound _) rfl (by decide +kernel) (by conv => lhs; reduce) ?_
      repeat' ((try conv => whnf); first | refine k1 (fun hb => ?_) fun hb => ?_ | refine k2 (fun hb => ?_) fun hb => ?_ | (first | refine k3 (fun hb => ?_) fun hb => ?_ | refine k4 (fun hb => ?_) fun hb => ?_) <;> (try rw [List.length_map] at hb) <;> (try (exfalso; omega; done)) | refine k5 (fun hb => ?_) fun hb => ?_ | refine k6 (fun hb => ?_) fun hb => ?_ | refine Both.intro ?_ ?_ | refine And.intro rfl ?_ | refine s1 ?_ | refine s2 ?_ | refine s3 ?_ | refine s4 nm ?_ | refine s5 nm nm ?_ | refine s6 nm nm ?_ | refine s7 ?_ | refine And.intro (by assumption) ?_ | refine s8 nm ?_ | refine s9 nm nm ?_ | refine sa nm ?_ | refine ⟨_, _, getMapN nm, rfl, ?_⟩ | refine .inl ⟨_, getMapN nm, rfl, rfl, ?_⟩ | refine .inl ⟨rfl, rfl, bd, rfl, rfl, ?_⟩ | refine ⟨_, singles_flat _ _, ?_⟩ | refine ⟨_, singles_map _ _, ?_⟩ | refine And.intro (onesB_flat _ _ fun _ => rfl) ?_ | refine And.intro (onesB_map _ _ fun _ => rfl) ?_ | refine .inr ⟨rfl, rfl, rfl, ?_⟩ | refine ⟨⟨⟨onesB_flat _ _ fun _ => rfl, fl⟩, trivial⟩, ?_⟩ | refine And.intro bd ?_ | refine ⟨_, set_map _ _ _, ?_⟩ | refine ⟨_, set_rfl _ _ _, ?_⟩ | refine ⟨_, singles_rfl _, ?_⟩ | fail)
      refine ⟨k + 1, Le.of ?_ ?_ rfl rfl rfl, by omega, by omega⟩
      · (repeat' (first | exact trivial | exact rfl | refine And.intro ?_ ?_ | refine Exists.intro _ (And.intro rfl ?_) | exact Or.inl rfl | exact l1 bd | exact SubA.lsl ls | exact SubA.sl sc | exact SubA.bool bo | exact l6 rfl | exact rowEq rs | fail))
      · (repeat' (first | exact trivial | exact rfl | refine And.intro ?_ ?_ | refine Exists.intro _ (And.intro rfl ?_) | exact Or.inl rfl | exact l1 bd | exact SubA.lsl ls | exact SubA.sl sc | exact SubA.bool bo | exact l6 rfl | exact rowEq rs | fail))
        refine rowEq ?_
        simp only [h7, List.map_set, Nat.zero_add]
    have ek : k = d.pending.length := by omega
    subst ek
    first | refine code_sound (more := more2 false _ _) more2_ok FOK.wide _ ?_ | refine code_sound (more := more2 false _ _) more2_ok (FOK.inRound _) _ ?_
    repeat' ((try conv => whnf); first | refine k1 (fun hb => ?_) fun hb => ?_ | refine k2 (fun hb => ?_) fun hb => ?_ | (first | refine k3 (fun hb => ?_) fun hb => ?_ | refine k4 (fun hb => ?_) fun hb => ?_) <;> (try rw [List.length_map] at hb) <;> (try (exfalso; omega; done)) | refine k5 (fun hb => ?_) fun hb => ?_ | refine k6 (fun hb => ?_) fun hb => ?_ | refine Both.intro ?_ ?_ | refine And.intro rfl ?_ | refine s1 ?_ | refine s2 ?_ | refine s3 ?_ | refine s4 nm ?_ | refine s5 nm nm ?_ | refine s6 nm nm ?_ | refine s7 ?_ | refine And.intro (by assumption) ?_ | refine s8 nm ?_ | refine s9 nm nm ?_ | refine sa nm ?_ | refine ⟨_, _, getMapN nm, rfl, ?_⟩ | refine .inl ⟨_, getMapN nm, rfl, rfl, ?_⟩ | refine .inl ⟨rfl, rfl, bd, rfl, rfl, ?_⟩ | refine ⟨_, singles_flat _ _, ?_⟩ | refine ⟨_, singles_map _ _, ?_⟩ | refine And.intro (onesB_flat _ _ fun _ => rfl) ?_ | refine And.intro (onesB_map _ _ fun _ => rfl) ?_ | refine .inr ⟨rfl, rfl, rfl, ?_⟩ | refine ⟨⟨⟨onesB_flat _ _ fun _ => rfl, fl⟩, trivial⟩, ?_⟩ | refine And.intro bd ?_ | refine ⟨_, set_map _ _ _, ?_⟩ | refine ⟨_, set_rfl _ _ _, ?_⟩ | refine ⟨_, singles_rfl _, ?_⟩ | fail)
    rw [e]
    refine sub_de (sub_disk (sub_sl ?_) (PSub.nil 2) rfl rfl) rfl
    simp only [List.drop_zero, List.take_length] at hplen ⊢
    exact List.take_of_length_le (by simp; omega)
  · have hr := ready_ok (d := d) (by assumption) (by assumption)
    obtain ⟨lq1, lq2, lq3, lq4⟩ := ready_le hr
    have hl0 : -1 ≤ d.left := by have := (ready_of hr).1.2.2.2.1; omega
    have hl3 := (ready_of hr).1.2.2.2.2.1
    have hw : d.left = -1 := by omega
    have e : d.sync = (⟨perform d.sectors d.pending, [], -1, false⟩, 0) := by simp only [Disk.sync, if_pos hr]; rw [if_pos (by omega), if_pos hw]
    first | refine Wp.draw (more := more2 true _ _) more2_det more2_ok FOK.wide rfl (by decide +kernel) (by conv => lhs; reduce) ?_ | refine Wp.draw (more := more2 true _ _) more2_det more2_ok (FOK.inRound _) rfl (by decide +kernel) (by conv => lhs; reduce) ?_
    repeat' ((try conv => whnf); first | refine k1 (fun hb => ?_) fun hb => ?_ | refine k2 (fun hb => ?_) fun hb => ?_ | (first | refine k3 (fun hb => ?_) fun hb => ?_ | refine k4 (fun hb => ?_) fun hb => ?_) <;> (try rw [List.length_map] at hb) <;> (try (exfalso; omega; done)) | refine k5 (fun hb => ?_) fun hb => ?_ | refine k6 (fun hb => ?_) fun hb => ?_ | refine Both.intro ?_ ?_ | refine And.intro rfl ?_ | refine s1 ?_ | refine s2 ?_ | refine s3 ?_ | refine s4 nm ?_ | refine s5 nm nm ?_ | refine s6 nm nm ?_ | refine s7 ?_ | refine And.intro (by assumption) ?_ | refine s8 nm ?_ | refine s9 nm nm ?_ | refine sa nm ?_ | refine ⟨_, _, getMapN nm, rfl, ?_⟩ | refine .inl ⟨_, getMapN nm, rfl, rfl, ?_⟩ | refine .inl ⟨rfl, rfl, bd, rfl, rfl, ?_⟩ | refine ⟨_, singles_flat _ _, ?_⟩ | refine ⟨_, singles_map _ _, ?_⟩ | refine And.intro (onesB_flat _ _ fun _ => rfl) ?_ | refine And.intro (onesB_map _ _ fun _ => rfl) ?_ | refine .inr ⟨rfl, rfl, rfl, ?_⟩ | refine ⟨⟨⟨onesB_flat _ _ fun _ => rfl, fl⟩, trivial⟩, ?_⟩ | refine And.intro bd ?_ | refine ⟨_, set_map _ _ _, ?_⟩ | refine ⟨_, set_rfl _ _ _, ?_⟩ | refine ⟨_, singles_rfl _, ?_⟩ | fail)
    refine Wp.loop (fun k : Nat => ⟨[(1, .loc 1 0 0), (2, .loc 2 0 0), (4, .int (d.pending.length : Nat)), (5, .bool false), (6, .loc 6 0 0), (7, .int k)],
        [(1, some (.box [.pure (encS d.sectors), .pure (encWs d.pending), .int d.left, .bool d.stopped])), (2, some (.box [.pure (.val (.slice none 0 0)), .pure (.val (.slice none 0 0)), .int 0, .bool false])),
         (6, some (.box [.lsl 35 0 d.sectors.length, .pure (.val (.slice none 0 0)), .int d.left, .bool false])), (35, some (.row 1 ((perform d.sectors (d.pending.take k)).map fun s => [encB s])))], [1, 2, 6, 35]⟩)
      (fun k => k ≤ d.pending.length) (fun k => d.pending.length - k) 0 (Le.of ?_ ?_ rfl rfl rfl) (by omega) ?_
    · (repeat' (first | exact trivial | exact rfl | refine And.intro ?_ ?_ | refine Exists.intro _ (And.intro rfl ?_) | exact Or.inl rfl | exact l1 bd | exact SubA.lsl ls | exact SubA.sl sc | exact SubA.bool bo | exact l6 rfl | exact rowEq rs | fail))
    · (repeat' (first | exact trivial | exact rfl | refine And.intro ?_ ?_ | refine Exists.intro _ (And.intro rfl ?_) | exact Or.inl rfl | exact l1 bd | exact SubA.lsl ls | exact SubA.sl sc | exact SubA.bool bo | exact l6 rfl | exact rowEq rs | fail))
    intro k hk
    have hplen := perform_len d.sectors (d.pending.take k)
    by_cases hkm : k < d.pending.length
    · have hkm' : k < d.pending.length := by omega
      have h5 := lq4 _ (List.getElem_mem hkm')
      have h7 := perform_take d.sectors d.pending hkm'
      first | refine code_sound (more := more2 false _ _) more2_ok FOK.wide _ ?_ | refine code_sound (more := more2 false _ _) more2_ok (FOK.inRound _) _ ?_
      repeat' ((try conv => whnf); first | refine k1 (fun hb => ?_) fun hb => ?_ | refine k2 (fun hb => ?_) fun hb => ?_ | (first | refine k3 (fun hb => ?_) fun hb => ?_ | refine k4 (fun hb => ?_) fun hb => ?_) <;> (try rw [List.length_map] at hb) <;> (try (exfalso; omega; done)) | refine k5 (fun hb => ?_) fun hb => ?_ | refine k6 (fun hb => ?_) fun hb => ?_ | refine Both.intro ?_ ?_ | refine And.intro rfl ?_ | refine s1 ?_ | refine s2 ?_ | refine s3 ?_ | refine s4 nm ?_ | refine s5 nm nm ?_ | refine s6 nm nm ?_ | refine s7 ?_ | refine And.intro (by assumption) ?_ | refine s8 nm ?_ | refine s9 nm nm ?_ | refine sa nm ?_ | refine ⟨_, _, getMapN nm, rfl, ?_⟩ | refine .inl ⟨_, getMapN nm, rfl, rfl, ?_⟩ | refine .inl ⟨rfl, rfl, bd, rfl, rfl, ?_⟩ | refine ⟨_, singles_flat _ _, ?_⟩ | refine ⟨_, singles_map _ _, ?_⟩ | refine And.intro (onesB_flat _ _ fun _ => rfl) ?_ | refine And.intro (onesB_map _ _ fun _ => rfl) ?_ | refine .inr ⟨rfl, rfl, rfl, ?_⟩ | refine ⟨⟨⟨onesB_flat _ _ fun _ => rfl, fl⟩, trivial⟩, ?_⟩ | refine And.intro bd ?_ | refine ⟨_, set_map _ _ _, ?_⟩ | refine ⟨_, set_rfl _ _ _, ?_⟩ | refine ⟨_, singles_rfl _, ?_⟩ | fail)
      first | refine Wp.draw (more := more2 true _ _) more2_det more2_ok FOK.wide rfl (by decide +kernel) (by conv => lhs; reduce) ?_ | refine Wp.draw (more := more2 true _ _) more2_det more2_ok (FOK.inRound _) rfl (by decide +kernel) (by conv => lhs; reduce) ?_
      repeat' ((try conv => whnf); first | refine k1 (fun hb => ?_) fun hb => ?_ | refine k2 (fun hb => ?_) fun hb => ?_ | (first | refine k3 (fun hb => ?_) fun hb => ?_ | refine k4 (fun hb => ?_) fun hb => ?_) <;> (try rw [List.length_map] at hb) <;> (try (exfalso; omega; done)) | refine k5 (fun hb => ?_) fun hb => ?_ | refine k6 (fun hb => ?_) fun hb => ?_ | refine Both.intro ?_ ?_ | refine And.intro rfl ?_ | refine s1 ?_ | refine s2 ?_ | refine s3 ?_ | refine s4 nm ?_ | refine s5 nm nm ?_ | refine s6 nm nm ?_ | refine s7 ?_ | refine And.intro (by assumption) ?_ | refine s8 nm ?_ | refine s9 nm nm ?_ | refine sa nm ?_ | refine ⟨_, _, getMapN nm, rfl, ?_⟩ | refine .inl ⟨_, getMapN nm, rfl, rfl, ?_⟩ | refine .inl ⟨rfl, rfl, bd, rfl, rfl, ?_⟩ | refine ⟨_, singles_flat _ _, ?_⟩ | refine ⟨_, singles_map _ _, ?_⟩ | refine And.intro (onesB_flat _ _ fun _ => rfl) ?_ | refine And.intro (onesB_map _ _ fun _ => rfl) ?_ | refine .inr ⟨rfl, rfl, rfl, ?_⟩ | refine ⟨⟨⟨onesB_flat _ _ fun _ => rfl, fl⟩, trivial⟩, ?_⟩ | refine And.intro bd ?_ | refine ⟨_, set_map _ _ _, ?_⟩ | refine ⟨_, set_rfl _ _ _, ?_⟩ | refine ⟨_, singles_rfl _, ?_⟩ | fail)
      refine ⟨k + 1, Le.of ?_ ?_ rfl rfl rfl, by omega, by omega⟩
      · (repeat' (first | exact trivial | exact rfl | refine And.intro ?_ ?_ | refine Exists.intro _ (And.intro rfl ?_) | exact Or.inl rfl | exact l1 bd | exact SubA.lsl ls | exact SubA.sl sc | exact SubA.bool bo | exact l6 rfl | exact rowEq rs | fail))
      · (repeat' (first | exact trivial | exact rfl | refine And.intro ?_ ?_ | refine Exists.intro _ (And.intro rfl ?_) | exact Or.inl rfl | exact l1 bd | exact SubA.lsl ls | exact SubA.sl sc | exact SubA.bool bo | exact l6 rfl | exact rowEq rs | fail))
        refine rowEq ?_
        simp only [h7, List.map_set, Nat.zero_add]
    have ek : k = d.pending.length := by omega
    subst ek
    first | refine code_sound (more := more2 false _ _) more2_ok FOK.wide _ ?_ | refine code_sound (more := more2 false _ _) more2_ok (FOK.inRound _) _ ?_
    repeat' ((try conv => whnf); first | refine k1 (fun hb => ?_) fun hb => ?_ | refine k2 (fun hb => ?_) fun hb => ?_ | (first | refine k3 (fun hb => ?_) fun hb => ?_ | refine k4 (fun hb => ?_) fun hb => ?_) <;> (try rw [List.length_map] at hb) <;> (try (exfalso; omega; done)) | refine k5 (fun hb => ?_) fun hb => ?_ | refine k6 (fun hb => ?_) fun hb => ?_ | refine Both.intro ?_ ?_ | refine And.intro rfl ?_ | refine s1 ?_ | refine s2 ?_ | refine s3 ?_ | refine s4 nm ?_ | refine s5 nm nm ?_ | refine s6 nm nm ?_ | refine s7 ?_ | refine And.intro (by assumption) ?_ | refine s8 nm ?_ | refine s9 nm nm ?_ | refine sa nm ?_ | refine ⟨_, _, getMapN nm, rfl, ?_⟩ | refine .inl ⟨_, getMapN nm, rfl, rfl, ?_⟩ | refine .inl ⟨rfl, rfl, bd, rfl, rfl, ?_⟩ | refine ⟨_, singles_flat _ _, ?_⟩ | refine ⟨_, singles_map _ _, ?_⟩ | refine And.intro (onesB_flat _ _ fun _ => rfl) ?_ | refine And.intro (onesB_map _ _ fun _ => rfl) ?_ | refine .inr ⟨rfl, rfl, rfl, ?_⟩ | refine ⟨⟨⟨onesB_flat _ _ fun _ => rfl, fl⟩, trivial⟩, ?_⟩ | refine And.intro bd ?_ | refine ⟨_, set_map _ _ _, ?_⟩ | refine ⟨_, set_rfl _ _ _, ?_⟩ | refine ⟨_, singles_rfl _, ?_⟩ | fail)
    rw [e]
    refine sub_de (sub_disk (sub_sl ?_) (PSub.nil 2) hw rfl) rfl
    simp only [List.drop_zero, List.take_length] at hplen ⊢
    exact List.take_of_length_le (by simp; omega)
  · exact sub_zero (by simp only [Disk.sync, ready_bad hb]; rfl)
end Go.Proofs.Ytcgpikmaapallaa
/- Journals: a sector of a record, byte by byte; it is good. Conditions: none. -/
namespace Go.Proofs.Ytcgpikmaapallaa
open Go.Avc
def n4 (n : Nat) : List UInt8 := [UInt8.ofNat (n / 2 ^ 24), UInt8.ofNat (n / 2 ^ 16), UInt8.ofNat (n / 2 ^ 8), UInt8.ofNat (n / 2 ^ 0)]
def kindB (bg en : Bool) : UInt8 := (if bg then 1 else 0) + (if en then 2 else 0)
def bodyOf (k : Nat) (bg en : Bool) (p : List UInt8) : List UInt8 := [UInt8.ofNat (k / 256), UInt8.ofNat k, kindB bg en, UInt8.ofNat p.length] ++ p ++ List.replicate (112 - p.length) 0
theorem bodyOf_len (k : Nat) (bg en : Bool) (p : List UInt8) (h : p.length ≤ 112) : (bodyOf k bg en p).length = 116 := by simp [bodyOf]; omega
theorem sec2_eq (g k : Nat) (bg en : Bool) : sec2 g k bg en = n4 g ++ [0, 0, 0, 0, UInt8.ofNat (k / 256), UInt8.ofNat k, kindB bg en, 0] ++ (List.replicate 112 0 ++ n4 g) := by
  have h0 : sec0 g k = n4 g ++ [0, 0, 0, 0, UInt8.ofNat (k / 256), UInt8.ofNat k, 0, 0] ++ (List.replicate 112 0 ++ n4 g) := rfl
  have ho : ∀ (a b x f : UInt8) (r : List UInt8), orAt (n4 g ++ [0, 0, 0, 0, a, b, x, 0] ++ r) f = n4 g ++ [0, 0, 0, 0, a, b, x ||| f, 0] ++ r := fun a b x f r => rfl
  have e1 : (0 : UInt8) ||| 1 = 1 := by decide
  have e2 : (0 : UInt8) ||| 2 = 2 := by decide
  have e3 : (1 : UInt8) ||| 2 = 3 := by decide
  have f0 : kindB false false = 0 := by decide
  have f1 : kindB true false = 1 := by decide
  have f2 : kindB false true = 2 := by decide
  have f3 : kindB true true = 3 := by decide
  cases bg <;> cases en <;> simp only [sec2, sec1, if_true, if_false, Bool.false_eq_true, h0, ho, e1, e2, e3, f0, f1, f2, f3]
theorem sec3_eq (g k : Nat) (bg en : Bool) (p : List UInt8) (h : p.length ≤ 112) : sec3 g k bg en p = n4 g ++ ([0, 0, 0, 0] ++ (bodyOf k bg en p ++ n4 g)) := by
  unfold sec3
  rw [sec2_eq]
  have e1 : (n4 g ++ [0, 0, 0, 0, UInt8.ofNat (k / 256), UInt8.ofNat k, kindB bg en, 0] ++ (List.replicate 112 0 ++ n4 g)).set 11 (UInt8.ofNat p.length)
      = (n4 g ++ [0, 0, 0, 0, UInt8.ofNat (k / 256), UInt8.ofNat k, kindB bg en, UInt8.ofNat p.length]) ++ (List.replicate 112 0 ++ n4 g) := rfl
  rw [e1]
  unfold ovr
  rw [List.take_left' (by rfl), List.take_of_length_le (Nat.le_refl _), List.drop_append, show List.drop (12 + p.length) (n4 g ++ [0, 0, 0, 0, UInt8.ofNat (k / 256), UInt8.ofNat k, kindB bg en, UInt8.ofNat p.length]) = [] from List.drop_eq_nil_of_le (by show 12 ≤ _; omega),
    show 12 + p.length - (n4 g ++ [0, 0, 0, 0, UInt8.ofNat (k / 256), UInt8.ofNat k, kindB bg en, UInt8.ofNat p.length]).length = p.length by (show 12 + p.length - 12 = _); omega, List.drop_append, List.drop_replicate, List.length_replicate, show p.length - 112 = 0 by omega, List.drop_zero]
  unfold bodyOf
  simp
theorem setB_n4 (a b c d e f g h : UInt8) (l : List UInt8) (n : Nat) : setB (a :: b :: c :: d :: e :: f :: g :: h :: l) 4 n 4 = a :: b :: c :: d :: (n4 n ++ l) := by
  simp [setB, n4]
theorem secOf_eq (g k : Nat) (bg en : Bool) (p : List UInt8) (h : p.length ≤ 112) : secOf g k bg en p = n4 g ++ (n4 (crc (bodyOf k bg en p)) ++ (bodyOf k bg en p ++ n4 g)) := by
  have hb : body (sec3 g k bg en p) = bodyOf k bg en p := by
    rw [sec3_eq g k bg en p h]
    unfold body
    rw [show List.drop 8 (n4 g ++ ([0, 0, 0, 0] ++ (bodyOf k bg en p ++ n4 g))) = bodyOf k bg en p ++ n4 g from rfl]
    exact List.take_left' (bodyOf_len k bg en p h)
  unfold secOf
  rw [hb, sec3_eq g k bg en p h]
  exact setB_n4 _ _ _ _ _ _ _ _ _ _
theorem crc_lt (l : List UInt8) : crc l < 4294967296 := by unfold crc; exact Nat.xor_lt_two_pow (n := 32) (by decide) (crcN_lt _)
end Go.Proofs.Ytcgpikmaapallaa
/- More operations: append of a row of zero bytes that is made. Conditions: none. -/
namespace Go.Avc
open Go.RowKit
set_option linter.unusedSimpArgs false
def zeroText (n : Nat) : ByteArray := ⟨(List.replicate n 0).toArray⟩
theorem zeroText_size (n : Nat) : (zeroText n).size = n := by
  show (List.replicate n (0 : UInt8)).toArray.size = n
  simp
theorem zeroText_cells (n : Nat) : ((zeroText n).extract 0 n).data.map (fun b => Value.int .u8 b.toNat) = Builtin.zeroCells #[Value.int .u8 0] n := by
  have e : (zeroText n).extract 0 n = zeroText n := by
    apply ByteArray.ext
    have := zeroText_size n
    simp [zeroText] 
  rw [e]
  apply Array.ext
  · simp [zeroText, Builtin.zeroCells]
  · intro i h1 h2
    simp [zeroText, Builtin.zeroCells, Nat.mod_one]
theorem run_append_make_bytes {P : Program} (w : World) (t ti tx ty e : TypeId) (i : TypeInfo) (ht : P.underlying t = some (.slice e)) (hti : P.underlying ti = some (.int .i64)) (htx : P.underlying tx = some .string)
    (hi : P.info? e = some i) (hs : i.size = 1) (hb : i.bytes = 1) (hz : i.zero = some (.int .u8 0)) (base : Option Addr) (sLen sCap n : Nat) (hn : n ≤ 140737488355328) (h63 : ((sLen + n : Nat) : Int) ≤ 9223372036854775807)
    (hfit : sCap < sLen + n → Builtin.nextslicecap (sLen + n) sCap ≤ 281474976710656) :
    (Builtin.append_ #[t, ti] ty #[.slice base sLen sCap, .int .i64 n]).run P w = (Builtin.append_ #[t, tx] ty #[.slice base sLen sCap, .string (zeroText n)]).run P w := by
  have hw : IntKind.i64.wrap (n : Int) = n := by rw [IntKind.wrap_i64]; omega
  have h48 : ¬ (281474976710656 < (n : Int)) := by omega
  have h63' : ¬ (9223372036854775807 < ((sLen : Int) + (n : Int))) := by omega
  have hn0 : ¬ ((n : Int) < 0) := by omega
  have hc := zeroText_cells n
  have hsz := zeroText_size n
  have hcl : (Value.int IntKind.u8 0).cells = #[Value.int .u8 0] := rfl
  have hc2 : (Array.map (fun b : UInt8 => Value.int IntKind.u8 (b.toNat : Int)) (zeroText n).data).extract 0 n = Builtin.zeroCells #[Value.int .u8 0] n := by
    rw [← hc]; simp
  have hz0 : Builtin.zeroCells #[Value.int .u8 0] 0 = #[] := by simp [Builtin.zeroCells]
  by_cases hroom : sLen + n ≤ sCap
  · by_cases h0 : n = 0
    · subst h0
      have hw0 : IntKind.i64.wrap 0 = 0 := by decide
      have hr0 : sLen ≤ sCap := by omega
      simp [hw0, hr0, Builtin.append_, run_underlying ht, run_underlying hti, run_underlying htx, sizeOf, typeInfo, zeroValue, hi, hs, hb, hz, asInt, asIntOf, Builtin.lenOf, Builtin.firstCells, hsz, hcl, hc2, hz0]
    · simp [hroom, Builtin.append_, run_underlying ht, run_underlying hti, run_underlying htx, sizeOf, typeInfo, zeroValue, hi, hs, hb, hz, hw, h48, h63', hn0, h0, asInt, asIntOf, Builtin.lenOf, Builtin.firstCells, hsz, hcl, hc2]
  · have h48' : ¬ (281474976710656 < Builtin.nextslicecap (sLen + n) sCap) := by have := hfit (by omega); omega
    by_cases h0 : n = 0
    · subst h0
      have hw0 : IntKind.i64.wrap 0 = 0 := by decide
      have h48z : ¬ (281474976710656 < Builtin.nextslicecap sLen sCap) := by simpa using h48'
      have h63z : ¬ (9223372036854775807 < (sLen : Int)) := by simpa using h63'
      simp [hw0, h48z, h63z, Builtin.append_, run_underlying ht, run_underlying hti, run_underlying htx, sizeOf, typeInfo, zeroValue, hi, hs, hb, hz, hw, h48', asInt, asIntOf, Builtin.lenOf, Builtin.firstCells, hsz, hcl, hc2, hz0]
    · simp [Builtin.append_, run_underlying ht, run_underlying hti, run_underlying htx, sizeOf, typeInfo, zeroValue, hi, hs, hb, hz, hw, h48, h48', h63', hn0, h0, asInt, asIntOf, Builtin.lenOf, Builtin.firstCells, hsz, hcl, hc2]
/-- Which type is a string. -/
def byteElem (P : Program) (t : TypeId) : Bool := match P.underlying t with
  | some (.slice e) => match P.info? e with
    | some i => match i.zero with
      | some (.int .u8 0) => Nat.beq i.size 1 && Nat.beq i.bytes 1
      | _ => false
    | none => false
  | _ => false
def isMade (P : Program) (tx ts : TypeId) : Bool := match P.underlying tx with
  | some (.int .i64) => match P.underlying ts with
    | some .string => true
    | _ => false
  | _ => false
/-- The type string: the same in every translation. -/
def strTy : TypeId := 9
def opAppendMade (P : Program) (t : TypeId) (x y : AV) (blk : Nat → Option Blk) (fx : List Nat) (d : Nat) (K : Kont) : Prop :=
  match byteElem P t with
  | true => match y with
    | .pure (.val (.int .i64 n)) => 0 ≤ n ∧ n ≤ 1048576 ∧ opAppend P t x (.pure (.val (.string (zeroText n.toNat)))) blk fx d K
    | _ => False
  | false => False
def madeArgs (P : Program) (c : Call) : Option (Operand × Operand × TypeId × TypeId) := match c.callee with
  | .builtin .append => match c.args.toList, c.argTypes.toList with
    | [x, y], [t, tx] => match isMade P tx strTy with
      | true => some (x, y, t, tx)
      | false => none
    | _, _ => none
  | _ => none
def more4 (md : Bool) (P : Program) (fx : List Nat) (s : St) (o : Oper) (K : Kont) : Prop :=
  match o.op with
  | .call c => match madeArgs P c with
    | some (x, y, t, _) => match o.dst with
      | some d => guardNew d s.used fx (opAppendMade P t (s.geto x) (s.geto y) s.blk fx d K)
      | none => False
    | none => more3 md P fx s o K
  | _ => more3 md P fx s o K
theorem isMade_spec {P : Program} {tx ts : TypeId} (h : isMade P tx ts = true) : P.underlying tx = some (.int .i64) ∧ P.underlying ts = some .string := by
  unfold isMade at h
  split at h
  · rename_i h1
    split at h
    · rename_i h2; exact ⟨h1, h2⟩
    · cases h
  · cases h
theorem byteElem_spec {P : Program} {t : TypeId} (h : byteElem P t = true) : ∃ e i, P.underlying t = some (.slice e) ∧ P.info? e = some i ∧ i.size = 1 ∧ i.bytes = 1 ∧ i.zero = some (.int .u8 0) := by
  unfold byteElem at h
  split at h
  · rename_i e he
    split at h
    · rename_i i hi
      split at h
      · rename_i hz
        simp only [Bool.and_eq_true] at h
        exact ⟨e, i, he, hi, Nat.eq_of_beq_eq_true h.1, Nat.eq_of_beq_eq_true h.2, hz⟩
      · cases h
    · cases h
  · cases h
theorem madeArgs_spec {P : Program} {c : Call} {x y : Operand} {t tx : TypeId} (h : madeArgs P c = some (x, y, t, tx)) : c.callee = .builtin .append ∧ c.args = #[x, y] ∧ c.argTypes = #[t, tx] ∧ isMade P tx strTy = true := by
  unfold madeArgs at h
  split at h
  · rename_i hc
    split at h
    · rename_i ha ht
      split at h
      · rename_i hm; cases h; exact ⟨hc, Array.toList_inj.1 (by simpa using ha), Array.toList_inj.1 (by simpa using ht), hm⟩
      · cases h
    · cases h
  · cases h
section
variable {Γ : Ctx} {s : St} {tm : Array Value} {w : World} {β : BM} {P : Program} {K : Kont}
theorem appendMade_sound (h : Rl Γ s tm w β) {t tx ty : TypeId} {x y : AV} {ux uy : Value} {d : Nat} (hm : isMade P tx strTy = true) (hd : d ∉ s.used) (hdfx : d ∉ Γ.fx) (hx : AR w (Av Γ.X β) β x ux) (hy : AR w (Av Γ.X β) β y uy)
    (hK : opAppendMade P t x y s.blk Γ.fx d K) : Out Γ s tm K ((Builtin.append_ #[t, tx] ty #[ux, uy]).run P w) := by
  obtain ⟨hti, htx⟩ := isMade_spec hm
  unfold opAppendMade at hK
  split at hK
  case h_2 => exact hK.elim
  rename_i hb
  obtain ⟨e, i, ht, hi, hs, hby, hz⟩ := byteElem_spec hb
  split at hK
  case h_2 => exact hK.elim
  rename_i n
  obtain ⟨n0, n1, hK⟩ := hK
  obtain ⟨m, rfl⟩ : ∃ m : Nat, n = m := ⟨n.toNat, by omega⟩
  rw [Int.toNat_natCast] at hK
  rw [hy.val_inv]
  have hk : srcKind P strTy = true := by unfold srcKind; rw [htx]
  have main := append_sound (ty := ty) h hk hd hdfx hx (.pure _ _ (.val (.string (zeroText m)))) hK
  have shape : ∃ (base : Option Addr) (sLen sCap : Nat), ux = .slice base sLen sCap ∧ sLen ≤ 140737488355328 ∧ sLen + m ≤ 140737488355328 := by
    unfold opAppend at hK
    rw [ht] at hK
    simp only at hK
    split at hK
    case h_2 => exact hK.elim
    split at hK
    case h_2 => exact hK.elim
    split at hK
    case h_2 => exact hK.elim
    split at hK
    case h_2 => exact hK.elim
    split at hK
    case h_2 => exact hK.elim
    rename_i news hnews
    have hnl : news.length = m := by
      unfold srcRows at hnews
      simp only at hnews
      split at hnews
      · cases hnews; simp [zeroText]
      · cases hnews
    split at hK
    · rw [hx.val_inv]; exact ⟨none, 0, 0, rfl, by omega, by omega⟩
    · rename_i k n'
      split at hK
      case h_2 => exact hK.elim
      rename_i sz rows hblk
      split at hK
      case h_2 => exact hK.elim
      split at hK
      case h_2 => exact hK.elim
      obtain ⟨q1, _, q3, _⟩ := hK
      obtain ⟨bi, hβ, _⟩ := h.live hblk
      cases hx with
      | lslDead _ _ _ _ hd => rw [hβ] at hd; cases hd
      | lslV _ _ bi' a hbb hil => exact ⟨a, 0, 0, rfl, by omega, by omega⟩
      | lsl _ _ _ bi' cap hbb hv hn hcc hil hm => exact ⟨_, _, cap, rfl, by omega, by omega⟩
    · exact hK.elim
  obtain ⟨base, sLen, sCap, rfl, l1, l2⟩ := shape
  rw [run_append_make_bytes w t tx strTy ty e i ht hti htx hi hs hby hz base sLen sCap m (by omega) (by omega) (fun hlt => by have := growslice_fits (bytes := 1) hlt (by omega); omega)]
  exact main
theorem more4_ok0 {md : Bool} : MoreOK0 (more4 md Γ.P Γ.fx) Γ := by
  intro F hF n s a w β o K hK h ho next Q hk
  have old : more3 md Γ.P Γ.fx s o K → o.wpIn F n Γ.P a w next Q := fun hK => more3_ok0 F hF n s a w β o K hK h ho next Q hk
  have hd : a.defers = a.defers := rfl
  have fin : ∀ (S : Sem Value), (execOp a.eval o) = (do pure (.value (← S))) → (∀ c, o.op ≠ .defer c) → Out Γ s a.tmps K (S.run Γ.P w) → o.wpIn F n Γ.P a w next Q := by
    rintro S he hnd ⟨v, acts, u, w', β', hKv, hr, hR, hv, hkv⟩
    refine wpIn_of_run hF hnd (v := u) (w' := w') ?_ (hk v acts _ w' hKv (putD_R hd hR ho hv hkv))
    rw [he, Sem.run_bind, hr, Result.andThen_ok]
    rfl
  unfold more4 at hK
  split at hK
  · rename_i c hx
    split at hK
    · rename_i x y t tx hc
      obtain ⟨e0, e1, e2, hm⟩ := madeArgs_spec hc
      split at hK
      · obtain ⟨h1, h2, hK⟩ := guardNew_spec hK
        refine fin (Builtin.append_ #[t, tx] o.type #[a.eval x, a.eval y]) ?_ (by rw [hx]; intro c; simp) (appendMade_sound h hm h1 h2 (geto_AR h x) (geto_AR h y) hK)
        simp only [execOp, hx, resolve, e0, e1, e2, invoke, builtin]
        simp
      · exact hK.elim
    · exact old hK
  · exact old hK
end
theorem more4_ok {Γ : Ctx} {md : Bool} : MoreOK (more4 md Γ.P Γ.fx) Γ := fun X w β => more4_ok0 (Γ := Γ.here X w β)
theorem more4_det {P : Program} {md : Bool} {fx : List Nat} : DetM (more4 md P fx) := by
  intro s s' o ha K h
  have old : more3 md P fx s o K → ∃ v acts, K v acts ∧ more3 md P fx s' o (fun v' a' => v' = v ∧ a' = acts) := fun h => more3_det s s' o ha K h
  have hg := ha.get
  have hb := ha.blk
  unfold more4 at h ⊢
  split at h
  · rename_i c hx
    split at h
    · rename_i x y t tx hc
      obtain ⟨e0, e1, e2, hm⟩ := madeArgs_spec hc
      rw [hx] at hg hb
      simp only [Op.operands, Call.operands, e0, e1, Array.mem_append, List.mem_toArray, List.mem_cons, List.not_mem_nil, or_false, false_or] at hg hb
      split at h
      · rename_i d hd
        rw [hg x (by simp), hg y (by simp)]
        refine guardNew_det (ha.fresh d hd) (fun K h => ?_) K h
        unfold opAppendMade at h ⊢
        split at h
        case h_2 => exact h.elim
        split at h
        case h_2 => exact h.elim
        obtain ⟨n0, n1, h⟩ := h
        obtain ⟨v, acts, h2, h3⟩ := opAppend_det (hb x (by simp)) (by simp [AV.keys]) K h
        exact ⟨v, acts, h2, n0, n1, h3⟩
      · exact h.elim
    · exact old h
  · exact old h
end Go.Avc
/- Journals: the reference's generation and numeral are walked. Conditions: none. -/
namespace Go.Proofs.Ytcgpikmaapallaa
open Go.Avc
def numTail (n : Nat) : Nat → List UInt8
  | 0 => []
  | j + 1 => UInt8.ofNat (n / 256 ^ j) :: numTail n j
theorem numTail_len (n : Nat) : ∀ j, (numTail n j).length = j
  | 0 => rfl
  | j + 1 => by rw [numTail, List.length_cons, numTail_len n j]
theorem repl_set (k : Nat) (b : UInt8) (l : List UInt8) : (List.replicate (k + 1) 0 ++ l).set k b = List.replicate k 0 ++ b :: l := by
  rw [List.replicate_succ', List.append_assoc, List.set_append_right _ _ (by simp)]
  simp
set_option maxRecDepth 20000
set_option maxHeartbeats 4000000
set_option linter.unusedSimpArgs false
attribute [local irreducible] PSub Wp PSpec Le Need Both
attribute [local irreducible] four greatL
theorem generation_spec (l : List (List UInt8)) (h128 : ∀ s ∈ l, s.length = 128) (hl : l.length ≤ 4096) : PSpec Try.prog 46 [encS l] (.val (.int .u64 (greatL l + 1 : Nat))) := by
  have hgl := greatL_lt l
  refine PSpec.of_vc (fun Γ => more4 false Γ.P Γ.fx) (fun Γ => more4_ok) Try.func46 rfl Try.call46 (by simp) ?_
  rintro ⟨P, N, w0, X, β0, fx, y, hy⟩ rfl rfl rfl hoff; change y.on = false at hoff
  repeat' ((try conv => whnf); first | refine k1 (fun hb => ?_) fun hb => ?_ | refine k2 (fun hb => ?_) fun hb => ?_ | (first | refine k3 (fun hb => ?_) fun hb => ?_ | refine k4 (fun hb => ?_) fun hb => ?_) <;> (try rw [List.length_map] at hb) <;> (try (exfalso; omega; done)) | refine k5 (fun hb => ?_) fun hb => ?_ | refine k6 (fun hb => ?_) fun hb => ?_ | refine Both.intro ?_ ?_ | refine And.intro rfl ?_ | refine s1 ?_ | refine s2 ?_ | refine s3 ?_ | refine s4 nm ?_ | refine s5 nm nm ?_ | refine s6 nm nm ?_ | refine s7 ?_ | refine And.intro (by assumption) ?_ | refine s8 nm ?_ | refine s9 nm nm ?_ | refine sa nm ?_ | refine ⟨_, _, getMapN nm, rfl, ?_⟩ | refine .inl ⟨_, getMapN nm, rfl, rfl, ?_⟩ | refine .inl ⟨rfl, rfl, bd, rfl, rfl, ?_⟩ | refine ⟨_, singles_flat _ _, ?_⟩ | refine ⟨_, singles_map _ _, ?_⟩ | refine And.intro (onesB_flat _ _ fun _ => rfl) ?_ | refine And.intro (onesB_map _ _ fun _ => rfl) ?_ | refine .inr ⟨rfl, rfl, rfl, ?_⟩ | refine ⟨⟨⟨onesB_flat _ _ fun _ => rfl, fl⟩, trivial⟩, ?_⟩ | refine And.intro bd ?_ | refine ⟨_, set_map _ _ _, ?_⟩ | refine ⟨_, set_rfl _ _ _, ?_⟩ | refine ⟨_, singles_rfl _, ?_⟩ | fail)
  refine Wp.loop (fun k : Nat => ⟨[(0, .pure (encS l)), (3, .pure (.val (.int .u64 (greatL (l.take k))))), (4, .int k)], [], []⟩) (fun k => k ≤ l.length) (fun k => l.length - k) 0 (Le.of ?_ ?_ rfl rfl rfl) (by omega) ?_
  · (repeat' (first | exact trivial | exact rfl | refine And.intro ?_ ?_ | refine Exists.intro _ (And.intro rfl ?_) | exact Or.inl rfl | exact l1 bd | exact SubA.lsl ls | exact SubA.sl sc | exact SubA.bool bo | exact l6 rfl | exact rowEq rs | fail))
    all_goals (refine SubA.int ?_; simp [greatL]; done)
  · (repeat' (first | exact trivial | exact rfl | refine And.intro ?_ ?_ | refine Exists.intro _ (And.intro rfl ?_) | exact Or.inl rfl | exact l1 bd | exact SubA.lsl ls | exact SubA.sl sc | exact SubA.bool bo | exact l6 rfl | exact rowEq rs | fail))
  intro k hk
  by_cases hk2 : k < l.length
  · have hs := h128 _ (List.getElem_mem hk2)
    have q0 := numAt_spec l[k] 0 (by omega) (x := cut (l[k].map fun b => [PV.val (.int .u8 b.toNat)]) 0 (Int.toNat 4)) (by simp [cut, List.map_take])
    have q1 := numAt_spec l[k] 124 (by omega) (x := cut (l[k].map fun b => [PV.val (.int .u8 b.toNat)]) (Int.toNat 124) (l[k].map fun b => [PV.val (.int .u8 b.toNat)]).length) (by simp [cut, List.map_take, List.map_drop, hs])
    have hn := greatL_take l hk2
    obtain ⟨m0, hm0⟩ : ∃ m, m = four l[k] 0 := ⟨_, rfl⟩
    obtain ⟨m1, hm1⟩ : ∃ m, m = four l[k] 124 := ⟨_, rfl⟩
    rw [← hm0] at q0 hn
    rw [← hm1] at q1 hn
    first | refine code_sound (more := more4 false _ _) more4_ok FOK.wide _ ?_ | refine code_sound (more := more4 false _ _) more4_ok (FOK.inRound _) _ ?_
    repeat' ((try conv => whnf); first | refine k1 (fun hb => ?_) fun hb => ?_ | refine k2 (fun hb => ?_) fun hb => ?_ | (first | refine k3 (fun hb => ?_) fun hb => ?_ | refine k4 (fun hb => ?_) fun hb => ?_) <;> (try rw [List.length_map] at hb) <;> (try (exfalso; omega; done)) | refine k5 (fun hb => ?_) fun hb => ?_ | refine k6 (fun hb => ?_) fun hb => ?_ | refine Both.intro ?_ ?_ | refine And.intro rfl ?_ | refine s1 ?_ | refine s2 ?_ | refine s3 ?_ | refine s4 nm ?_ | refine s5 nm nm ?_ | refine s6 nm nm ?_ | refine s7 ?_ | refine And.intro (by assumption) ?_ | refine s8 nm ?_ | refine s9 nm nm ?_ | refine sa nm ?_ | refine ⟨_, _, getMapN nm, rfl, ?_⟩ | refine .inl ⟨_, getMapN nm, rfl, rfl, ?_⟩ | refine .inl ⟨rfl, rfl, bd, rfl, rfl, ?_⟩ | refine ⟨_, singles_flat _ _, ?_⟩ | refine ⟨_, singles_map _ _, ?_⟩ | refine And.intro (onesB_flat _ _ fun _ => rfl) ?_ | refine And.intro (onesB_map _ _ fun _ => rfl) ?_ | refine .inr ⟨rfl, rfl, rfl, ?_⟩ | refine ⟨⟨⟨onesB_flat _ _ fun _ => rfl, fl⟩, trivial⟩, ?_⟩ | refine And.intro bd ?_ | refine ⟨_, set_map _ _ _, ?_⟩ | refine ⟨_, set_rfl _ _ _, ?_⟩ | refine ⟨_, singles_rfl _, ?_⟩ | fail)
    first | refine Wp.draw (more := more4 true _ _) more4_det more4_ok FOK.wide rfl (by decide +kernel) (by conv => lhs; reduce) ?_ | refine Wp.draw (more := more4 true _ _) more4_det more4_ok (FOK.inRound _) rfl (by decide +kernel) (by conv => lhs; reduce) ?_
    repeat' ((try conv => whnf); first | refine k1 (fun hb => ?_) fun hb => ?_ | refine k2 (fun hb => ?_) fun hb => ?_ | (first | refine k3 (fun hb => ?_) fun hb => ?_ | refine k4 (fun hb => ?_) fun hb => ?_) <;> (try rw [List.length_map] at hb) <;> (try (exfalso; omega; done)) | refine k5 (fun hb => ?_) fun hb => ?_ | refine k6 (fun hb => ?_) fun hb => ?_ | refine Both.intro ?_ ?_ | refine And.intro rfl ?_ | refine s1 ?_ | refine s2 ?_ | refine s3 ?_ | refine s4 nm ?_ | refine s5 nm nm ?_ | refine s6 nm nm ?_ | refine s7 ?_ | refine And.intro (by assumption) ?_ | refine s8 nm ?_ | refine s9 nm nm ?_ | refine sa nm ?_ | refine ⟨_, _, getMapN nm, rfl, ?_⟩ | refine .inl ⟨_, getMapN nm, rfl, rfl, ?_⟩ | refine .inl ⟨rfl, rfl, bd, rfl, rfl, ?_⟩ | refine ⟨_, singles_flat _ _, ?_⟩ | refine ⟨_, singles_map _ _, ?_⟩ | refine And.intro (onesB_flat _ _ fun _ => rfl) ?_ | refine And.intro (onesB_map _ _ fun _ => rfl) ?_ | refine .inr ⟨rfl, rfl, rfl, ?_⟩ | refine ⟨⟨⟨onesB_flat _ _ fun _ => rfl, fl⟩, trivial⟩, ?_⟩ | refine And.intro bd ?_ | refine ⟨_, set_map _ _ _, ?_⟩ | refine ⟨_, set_rfl _ _ _, ?_⟩ | refine ⟨_, singles_rfl _, ?_⟩ | fail)
    refine ⟨_, q0, ?_⟩
    repeat' ((try conv => whnf); first | refine k1 (fun hb => ?_) fun hb => ?_ | refine k2 (fun hb => ?_) fun hb => ?_ | (first | refine k3 (fun hb => ?_) fun hb => ?_ | refine k4 (fun hb => ?_) fun hb => ?_) <;> (try rw [List.length_map] at hb) <;> (try (exfalso; omega; done)) | refine k5 (fun hb => ?_) fun hb => ?_ | refine k6 (fun hb => ?_) fun hb => ?_ | refine Both.intro ?_ ?_ | refine And.intro rfl ?_ | refine s1 ?_ | refine s2 ?_ | refine s3 ?_ | refine s4 nm ?_ | refine s5 nm nm ?_ | refine s6 nm nm ?_ | refine s7 ?_ | refine And.intro (by assumption) ?_ | refine s8 nm ?_ | refine s9 nm nm ?_ | refine sa nm ?_ | refine ⟨_, _, getMapN nm, rfl, ?_⟩ | refine .inl ⟨_, getMapN nm, rfl, rfl, ?_⟩ | refine .inl ⟨rfl, rfl, bd, rfl, rfl, ?_⟩ | refine ⟨_, singles_flat _ _, ?_⟩ | refine ⟨_, singles_map _ _, ?_⟩ | refine And.intro (onesB_flat _ _ fun _ => rfl) ?_ | refine And.intro (onesB_map _ _ fun _ => rfl) ?_ | refine .inr ⟨rfl, rfl, rfl, ?_⟩ | refine ⟨⟨⟨onesB_flat _ _ fun _ => rfl, fl⟩, trivial⟩, ?_⟩ | refine And.intro bd ?_ | refine ⟨_, set_map _ _ _, ?_⟩ | refine ⟨_, set_rfl _ _ _, ?_⟩ | refine ⟨_, singles_rfl _, ?_⟩ | fail)
    refine ⟨_, q1, ?_⟩
    repeat' ((try conv => whnf); first | refine k1 (fun hb => ?_) fun hb => ?_ | refine k2 (fun hb => ?_) fun hb => ?_ | (first | refine k3 (fun hb => ?_) fun hb => ?_ | refine k4 (fun hb => ?_) fun hb => ?_) <;> (try rw [List.length_map] at hb) <;> (try (exfalso; omega; done)) | refine k5 (fun hb => ?_) fun hb => ?_ | refine k6 (fun hb => ?_) fun hb => ?_ | refine Both.intro ?_ ?_ | refine And.intro rfl ?_ | refine s1 ?_ | refine s2 ?_ | refine s3 ?_ | refine s4 nm ?_ | refine s5 nm nm ?_ | refine s6 nm nm ?_ | refine s7 ?_ | refine And.intro (by assumption) ?_ | refine s8 nm ?_ | refine s9 nm nm ?_ | refine sa nm ?_ | refine ⟨_, _, getMapN nm, rfl, ?_⟩ | refine .inl ⟨_, getMapN nm, rfl, rfl, ?_⟩ | refine .inl ⟨rfl, rfl, bd, rfl, rfl, ?_⟩ | refine ⟨_, singles_flat _ _, ?_⟩ | refine ⟨_, singles_map _ _, ?_⟩ | refine And.intro (onesB_flat _ _ fun _ => rfl) ?_ | refine And.intro (onesB_map _ _ fun _ => rfl) ?_ | refine .inr ⟨rfl, rfl, rfl, ?_⟩ | refine ⟨⟨⟨onesB_flat _ _ fun _ => rfl, fl⟩, trivial⟩, ?_⟩ | refine And.intro bd ?_ | refine ⟨_, set_map _ _ _, ?_⟩ | refine ⟨_, set_rfl _ _ _, ?_⟩ | refine ⟨_, singles_rfl _, ?_⟩ | fail)
    refine ⟨k + 1, Le.of ?_ (by (repeat' (first | exact trivial | exact rfl | refine And.intro ?_ ?_ | refine Exists.intro _ (And.intro rfl ?_) | exact Or.inl rfl | exact l1 bd | exact SubA.lsl ls | exact SubA.sl sc | exact SubA.bool bo | exact l6 rfl | exact rowEq rs | fail))) rfl rfl rfl, by omega, by omega⟩
    (repeat' (first | exact trivial | exact rfl | refine And.intro ?_ ?_ | refine Exists.intro _ (And.intro rfl ?_) | exact Or.inl rfl | exact l1 bd | exact SubA.lsl ls | exact SubA.sl sc | exact SubA.bool bo | exact l6 rfl | exact rowEq rs | fail))
    all_goals (refine SubA.int ?_; rw [hn]; omega)
  · have ek : k = l.length := by omega
    subst ek
    rw [List.take_length]
    first | refine code_sound (more := more4 false _ _) more4_ok FOK.wide _ ?_ | refine code_sound (more := more4 false _ _) more4_ok (FOK.inRound _) _ ?_
    repeat' ((try conv => whnf); first | refine k1 (fun hb => ?_) fun hb => ?_ | refine k2 (fun hb => ?_) fun hb => ?_ | (first | refine k3 (fun hb => ?_) fun hb => ?_ | refine k4 (fun hb => ?_) fun hb => ?_) <;> (try rw [List.length_map] at hb) <;> (try (exfalso; omega; done)) | refine k5 (fun hb => ?_) fun hb => ?_ | refine k6 (fun hb => ?_) fun hb => ?_ | refine Both.intro ?_ ?_ | refine And.intro rfl ?_ | refine s1 ?_ | refine s2 ?_ | refine s3 ?_ | refine s4 nm ?_ | refine s5 nm nm ?_ | refine s6 nm nm ?_ | refine s7 ?_ | refine And.intro (by assumption) ?_ | refine s8 nm ?_ | refine s9 nm nm ?_ | refine sa nm ?_ | refine ⟨_, _, getMapN nm, rfl, ?_⟩ | refine .inl ⟨_, getMapN nm, rfl, rfl, ?_⟩ | refine .inl ⟨rfl, rfl, bd, rfl, rfl, ?_⟩ | refine ⟨_, singles_flat _ _, ?_⟩ | refine ⟨_, singles_map _ _, ?_⟩ | refine And.intro (onesB_flat _ _ fun _ => rfl) ?_ | refine And.intro (onesB_map _ _ fun _ => rfl) ?_ | refine .inr ⟨rfl, rfl, rfl, ?_⟩ | refine ⟨⟨⟨onesB_flat _ _ fun _ => rfl, fl⟩, trivial⟩, ?_⟩ | refine And.intro bd ?_ | refine ⟨_, set_map _ _ _, ?_⟩ | refine ⟨_, set_rfl _ _ _, ?_⟩ | refine ⟨_, singles_rfl _, ?_⟩ | fail)
    refine ⟨((greatL l + 1 : Nat) : Int), by rw [wrap_u64]; omega, ?_⟩
    repeat' ((try conv => whnf); first | refine k1 (fun hb => ?_) fun hb => ?_ | refine k2 (fun hb => ?_) fun hb => ?_ | (first | refine k3 (fun hb => ?_) fun hb => ?_ | refine k4 (fun hb => ?_) fun hb => ?_) <;> (try rw [List.length_map] at hb) <;> (try (exfalso; omega; done)) | refine k5 (fun hb => ?_) fun hb => ?_ | refine k6 (fun hb => ?_) fun hb => ?_ | refine Both.intro ?_ ?_ | refine And.intro rfl ?_ | refine s1 ?_ | refine s2 ?_ | refine s3 ?_ | refine s4 nm ?_ | refine s5 nm nm ?_ | refine s6 nm nm ?_ | refine s7 ?_ | refine And.intro (by assumption) ?_ | refine s8 nm ?_ | refine s9 nm nm ?_ | refine sa nm ?_ | refine ⟨_, _, getMapN nm, rfl, ?_⟩ | refine .inl ⟨_, getMapN nm, rfl, rfl, ?_⟩ | refine .inl ⟨rfl, rfl, bd, rfl, rfl, ?_⟩ | refine ⟨_, singles_flat _ _, ?_⟩ | refine ⟨_, singles_map _ _, ?_⟩ | refine And.intro (onesB_flat _ _ fun _ => rfl) ?_ | refine And.intro (onesB_map _ _ fun _ => rfl) ?_ | refine .inr ⟨rfl, rfl, rfl, ?_⟩ | refine ⟨⟨⟨onesB_flat _ _ fun _ => rfl, fl⟩, trivial⟩, ?_⟩ | refine And.intro bd ?_ | refine ⟨_, set_map _ _ _, ?_⟩ | refine ⟨_, set_rfl _ _ _, ?_⟩ | refine ⟨_, singles_rfl _, ?_⟩ | fail)
    exact PSub.refl _
theorem numeral_own (n m : Nat) (hn : n < 18446744073709551616) (hm : m ≤ 8) (h1 : 1 ≤ m) : GSpec Try.prog 62 2 ⟨[(0, .pure (.val (.int .u64 n))), (1, .int m)], [], []⟩ [] 1 ⟨[(0, .lsl 8 0 m)], [(8, some (.row 1 ((numTail n m).map fun b => [.val (.int .u8 b.toNat)])))], [8]⟩ := by
  refine GSpec.of_vc (fun Γ => more4 false Γ.P Γ.fx) (fun Γ => more4_ok) Try.func62 rfl Try.call62 (by simp) ?_
  rintro ⟨P, N, w0, X, β0, fx, y, hy⟩ rfl rfl rfl hoff; change y.on = false at hoff
  repeat' ((try conv => whnf); first | refine k1 (fun hb => ?_) fun hb => ?_ | refine k2 (fun hb => ?_) fun hb => ?_ | (first | refine k3 (fun hb => ?_) fun hb => ?_ | refine k4 (fun hb => ?_) fun hb => ?_) <;> (try rw [List.length_map] at hb) <;> (try (exfalso; omega; done)) | refine k5 (fun hb => ?_) fun hb => ?_ | refine k6 (fun hb => ?_) fun hb => ?_ | refine Both.intro ?_ ?_ | refine And.intro rfl ?_ | refine s1 ?_ | refine s2 ?_ | refine s3 ?_ | refine s4 nm ?_ | refine s5 nm nm ?_ | refine s6 nm nm ?_ | refine s7 ?_ | refine And.intro (by assumption) ?_ | refine s8 nm ?_ | refine s9 nm nm ?_ | refine sa nm ?_ | refine ⟨_, _, getMapN nm, rfl, ?_⟩ | refine .inl ⟨_, getMapN nm, rfl, rfl, ?_⟩ | refine .inl ⟨rfl, rfl, bd, rfl, rfl, ?_⟩ | refine ⟨_, singles_flat _ _, ?_⟩ | refine ⟨_, singles_map _ _, ?_⟩ | refine And.intro (onesB_flat _ _ fun _ => rfl) ?_ | refine And.intro (onesB_map _ _ fun _ => rfl) ?_ | refine .inr ⟨rfl, rfl, rfl, ?_⟩ | refine ⟨⟨⟨onesB_flat _ _ fun _ => rfl, fl⟩, trivial⟩, ?_⟩ | refine And.intro bd ?_ | refine ⟨_, set_map _ _ _, ?_⟩ | refine ⟨_, set_rfl _ _ _, ?_⟩ | refine ⟨_, singles_rfl _, ?_⟩ | fail)
  refine Wp.loop (fun j : Nat => ⟨[(0, .pure (.val (.int .u64 (n / 256 ^ j : Nat)))), (5, .lsl 8 0 m), (6, .int ((m : Int) - 1 - j))], [(8, some (.row 1 ((List.replicate (m - j) (0 : UInt8) ++ numTail n j).map fun b : UInt8 => [PV.val (.int .u8 b.toNat)])))], [8]⟩)
    (fun j => j ≤ m) (fun j => m - j) 0 (Le.of ?_ ?_ rfl rfl rfl) (by omega) ?_
  · (repeat' (first | exact trivial | exact rfl | refine And.intro ?_ ?_ | refine Exists.intro _ (And.intro rfl ?_) | exact Or.inl rfl | exact l1 bd | exact SubA.lsl ls | exact SubA.sl sc | exact SubA.bool bo | exact l6 rfl | exact rowEq rs | fail))
    all_goals (refine SubA.int ?_; simp; done)
  · (repeat' (first | exact trivial | exact rfl | refine And.intro ?_ ?_ | refine Exists.intro _ (And.intro rfl ?_) | exact Or.inl rfl | exact l1 bd | exact SubA.lsl ls | exact SubA.sl sc | exact SubA.bool bo | exact l6 rfl | exact rowEq rs | fail))
    all_goals (refine rowEq ?_; simp [numTail]; done)
  intro j hj
  have hlen : (List.replicate (m - j) (0 : UInt8) ++ numTail n j).length = m := by rw [List.length_append, List.length_replicate, numTail_len]; omega
  have hq : n / 256 ^ j < 18446744073709551616 := Nat.lt_of_le_of_lt (Nat.div_le_self _ _) hn
  by_cases hj2 : j < m
  · have hset := repl_set (m - j - 1) (UInt8.ofNat (n / 256 ^ j)) (numTail n j)
    rw [show m - j - 1 + 1 = m - j by omega] at hset
    have hdv : n / 256 ^ (j + 1) = n / 256 ^ j / 256 := by rw [Nat.pow_succ, Nat.div_div_eq_div_mul]
    obtain ⟨q, hqq⟩ : ∃ q, q = n / 256 ^ j := ⟨_, rfl⟩
    rw [← hqq] at hq hset hdv ⊢
    first | refine code_sound (more := more4 false _ _) more4_ok FOK.wide _ ?_ | refine code_sound (more := more4 false _ _) more4_ok (FOK.inRound _) _ ?_
    repeat' ((try conv => whnf); first | refine k1 (fun hb => ?_) fun hb => ?_ | refine k2 (fun hb => ?_) fun hb => ?_ | (first | refine k3 (fun hb => ?_) fun hb => ?_ | refine k4 (fun hb => ?_) fun hb => ?_) <;> (try rw [List.length_map] at hb) <;> (try (exfalso; omega; done)) | refine k5 (fun hb => ?_) fun hb => ?_ | refine k6 (fun hb => ?_) fun hb => ?_ | refine Both.intro ?_ ?_ | refine And.intro rfl ?_ | refine s1 ?_ | refine s2 ?_ | refine s3 ?_ | refine s4 nm ?_ | refine s5 nm nm ?_ | refine s6 nm nm ?_ | refine s7 ?_ | refine And.intro (by assumption) ?_ | refine s8 nm ?_ | refine s9 nm nm ?_ | refine sa nm ?_ | refine ⟨_, _, getMapN nm, rfl, ?_⟩ | refine .inl ⟨_, getMapN nm, rfl, rfl, ?_⟩ | refine .inl ⟨rfl, rfl, bd, rfl, rfl, ?_⟩ | refine ⟨_, singles_flat _ _, ?_⟩ | refine ⟨_, singles_map _ _, ?_⟩ | refine And.intro (onesB_flat _ _ fun _ => rfl) ?_ | refine And.intro (onesB_map _ _ fun _ => rfl) ?_ | refine .inr ⟨rfl, rfl, rfl, ?_⟩ | refine ⟨⟨⟨onesB_flat _ _ fun _ => rfl, fl⟩, trivial⟩, ?_⟩ | refine And.intro bd ?_ | refine ⟨_, set_map _ _ _, ?_⟩ | refine ⟨_, set_rfl _ _ _, ?_⟩ | refine ⟨_, singles_rfl _, ?_⟩ | fail)
    refine ⟨((q % 256 : Nat) : Int), by rw [Int.tmod_eq_emod_of_nonneg (by omega)]; omega, ?_⟩
    repeat' ((try conv => whnf); first | refine k1 (fun hb => ?_) fun hb => ?_ | refine k2 (fun hb => ?_) fun hb => ?_ | (first | refine k3 (fun hb => ?_) fun hb => ?_ | refine k4 (fun hb => ?_) fun hb => ?_) <;> (try rw [List.length_map] at hb) <;> (try (exfalso; omega; done)) | refine k5 (fun hb => ?_) fun hb => ?_ | refine k6 (fun hb => ?_) fun hb => ?_ | refine Both.intro ?_ ?_ | refine And.intro rfl ?_ | refine s1 ?_ | refine s2 ?_ | refine s3 ?_ | refine s4 nm ?_ | refine s5 nm nm ?_ | refine s6 nm nm ?_ | refine s7 ?_ | refine And.intro (by assumption) ?_ | refine s8 nm ?_ | refine s9 nm nm ?_ | refine sa nm ?_ | refine ⟨_, _, getMapN nm, rfl, ?_⟩ | refine .inl ⟨_, getMapN nm, rfl, rfl, ?_⟩ | refine .inl ⟨rfl, rfl, bd, rfl, rfl, ?_⟩ | refine ⟨_, singles_flat _ _, ?_⟩ | refine ⟨_, singles_map _ _, ?_⟩ | refine And.intro (onesB_flat _ _ fun _ => rfl) ?_ | refine And.intro (onesB_map _ _ fun _ => rfl) ?_ | refine .inr ⟨rfl, rfl, rfl, ?_⟩ | refine ⟨⟨⟨onesB_flat _ _ fun _ => rfl, fl⟩, trivial⟩, ?_⟩ | refine And.intro bd ?_ | refine ⟨_, set_map _ _ _, ?_⟩ | refine ⟨_, set_rfl _ _ _, ?_⟩ | refine ⟨_, singles_rfl _, ?_⟩ | fail)
    refine ⟨((UInt8.ofNat q).toNat : Int), by rw [IntKind.wrap_u8, UInt8.toNat_ofNat']; omega, ?_⟩
    repeat' ((try conv => whnf); first | refine k1 (fun hb => ?_) fun hb => ?_ | refine k2 (fun hb => ?_) fun hb => ?_ | (first | refine k3 (fun hb => ?_) fun hb => ?_ | refine k4 (fun hb => ?_) fun hb => ?_) <;> (try rw [List.length_map] at hb) <;> (try (exfalso; omega; done)) | refine k5 (fun hb => ?_) fun hb => ?_ | refine k6 (fun hb => ?_) fun hb => ?_ | refine Both.intro ?_ ?_ | refine And.intro rfl ?_ | refine s1 ?_ | refine s2 ?_ | refine s3 ?_ | refine s4 nm ?_ | refine s5 nm nm ?_ | refine s6 nm nm ?_ | refine s7 ?_ | refine And.intro (by assumption) ?_ | refine s8 nm ?_ | refine s9 nm nm ?_ | refine sa nm ?_ | refine ⟨_, _, getMapN nm, rfl, ?_⟩ | refine .inl ⟨_, getMapN nm, rfl, rfl, ?_⟩ | refine .inl ⟨rfl, rfl, bd, rfl, rfl, ?_⟩ | refine ⟨_, singles_flat _ _, ?_⟩ | refine ⟨_, singles_map _ _, ?_⟩ | refine And.intro (onesB_flat _ _ fun _ => rfl) ?_ | refine And.intro (onesB_map _ _ fun _ => rfl) ?_ | refine .inr ⟨rfl, rfl, rfl, ?_⟩ | refine ⟨⟨⟨onesB_flat _ _ fun _ => rfl, fl⟩, trivial⟩, ?_⟩ | refine And.intro bd ?_ | refine ⟨_, set_map _ _ _, ?_⟩ | refine ⟨_, set_rfl _ _ _, ?_⟩ | refine ⟨_, singles_rfl _, ?_⟩ | fail)
    refine ⟨((q / 256 : Nat) : Int), by rw [Int.tdiv_eq_ediv_of_nonneg (by omega), wrap_u64]; omega, ?_⟩
    repeat' ((try conv => whnf); first | refine k1 (fun hb => ?_) fun hb => ?_ | refine k2 (fun hb => ?_) fun hb => ?_ | (first | refine k3 (fun hb => ?_) fun hb => ?_ | refine k4 (fun hb => ?_) fun hb => ?_) <;> (try rw [List.length_map] at hb) <;> (try (exfalso; omega; done)) | refine k5 (fun hb => ?_) fun hb => ?_ | refine k6 (fun hb => ?_) fun hb => ?_ | refine Both.intro ?_ ?_ | refine And.intro rfl ?_ | refine s1 ?_ | refine s2 ?_ | refine s3 ?_ | refine s4 nm ?_ | refine s5 nm nm ?_ | refine s6 nm nm ?_ | refine s7 ?_ | refine And.intro (by assumption) ?_ | refine s8 nm ?_ | refine s9 nm nm ?_ | refine sa nm ?_ | refine ⟨_, _, getMapN nm, rfl, ?_⟩ | refine .inl ⟨_, getMapN nm, rfl, rfl, ?_⟩ | refine .inl ⟨rfl, rfl, bd, rfl, rfl, ?_⟩ | refine ⟨_, singles_flat _ _, ?_⟩ | refine ⟨_, singles_map _ _, ?_⟩ | refine And.intro (onesB_flat _ _ fun _ => rfl) ?_ | refine And.intro (onesB_map _ _ fun _ => rfl) ?_ | refine .inr ⟨rfl, rfl, rfl, ?_⟩ | refine ⟨⟨⟨onesB_flat _ _ fun _ => rfl, fl⟩, trivial⟩, ?_⟩ | refine And.intro bd ?_ | refine ⟨_, set_map _ _ _, ?_⟩ | refine ⟨_, set_rfl _ _ _, ?_⟩ | refine ⟨_, singles_rfl _, ?_⟩ | fail)
    refine ⟨j + 1, Le.of ?_ ?_ rfl rfl rfl, by omega, by omega⟩
    · simp only [hdv]
      (repeat' (first | exact trivial | exact rfl | refine And.intro ?_ ?_ | refine Exists.intro _ (And.intro rfl ?_) | exact Or.inl rfl | exact l1 bd | exact SubA.lsl ls | exact SubA.sl sc | exact SubA.bool bo | exact l6 rfl | exact rowEq rs | fail))
    · (repeat' (first | exact trivial | exact rfl | refine And.intro ?_ ?_ | refine Exists.intro _ (And.intro rfl ?_) | exact Or.inl rfl | exact l1 bd | exact SubA.lsl ls | exact SubA.sl sc | exact SubA.bool bo | exact l6 rfl | exact rowEq rs | fail))
      all_goals (refine rowEq ?_; rw [show 0 + ((m : Int) - 1 - (j : Int)).toNat = m - j - 1 by omega, hset, hqq]; rfl)
  · have ej : j = m := by omega
    subst ej
    first | refine code_sound (more := more4 false _ _) more4_ok FOK.wide _ ?_ | refine code_sound (more := more4 false _ _) more4_ok (FOK.inRound _) _ ?_
    repeat' ((try conv => whnf); first | refine k1 (fun hb => ?_) fun hb => ?_ | refine k2 (fun hb => ?_) fun hb => ?_ | (first | refine k3 (fun hb => ?_) fun hb => ?_ | refine k4 (fun hb => ?_) fun hb => ?_) <;> (try rw [List.length_map] at hb) <;> (try (exfalso; omega; done)) | refine k5 (fun hb => ?_) fun hb => ?_ | refine k6 (fun hb => ?_) fun hb => ?_ | refine Both.intro ?_ ?_ | refine And.intro rfl ?_ | refine s1 ?_ | refine s2 ?_ | refine s3 ?_ | refine s4 nm ?_ | refine s5 nm nm ?_ | refine s6 nm nm ?_ | refine s7 ?_ | refine And.intro (by assumption) ?_ | refine s8 nm ?_ | refine s9 nm nm ?_ | refine sa nm ?_ | refine ⟨_, _, getMapN nm, rfl, ?_⟩ | refine .inl ⟨_, getMapN nm, rfl, rfl, ?_⟩ | refine .inl ⟨rfl, rfl, bd, rfl, rfl, ?_⟩ | refine ⟨_, singles_flat _ _, ?_⟩ | refine ⟨_, singles_map _ _, ?_⟩ | refine And.intro (onesB_flat _ _ fun _ => rfl) ?_ | refine And.intro (onesB_map _ _ fun _ => rfl) ?_ | refine .inr ⟨rfl, rfl, rfl, ?_⟩ | refine ⟨⟨⟨onesB_flat _ _ fun _ => rfl, fl⟩, trivial⟩, ?_⟩ | refine And.intro bd ?_ | refine ⟨_, set_map _ _ _, ?_⟩ | refine ⟨_, set_rfl _ _ _, ?_⟩ | refine ⟨_, singles_rfl _, ?_⟩ | fail)
    exact Le.of ⟨SubA.lsl rfl, trivial⟩ ⟨rowEq (by simp), trivial⟩ rfl rfl rfl
theorem sector_spec (g k : Nat) (p : List UInt8) (hg : g < 4294967296) (hk : k < 65536) (hp : p.length ≤ 112) (bg en : Bool) : PSpec Try.prog 48 [.val (.int .u64 g), .int k, .bool bg, .bool en, encB p] (encB (secOf g k bg en p)) := by
  have hk2 : (numTail k 2).length = 2 := numTail_len k 2
  have hg4 : (numTail g 4).length = 4 := numTail_len g 4
  cases bg <;> cases en
  all_goals (refine PSpec.of_vc (fun Γ => more4 false Γ.P Γ.fx) (fun Γ => more4_ok) Try.func48 rfl Try.call48 (by simp) ?_)
  all_goals (rintro ⟨P, N, w0, X, β0, fx, y, hy⟩ rfl rfl rfl hoff; change y.on = false at hoff)
  all_goals (repeat' ((try conv => whnf); first | refine k1 (fun hb => ?_) fun hb => ?_ | refine k2 (fun hb => ?_) fun hb => ?_ | (first | refine k3 (fun hb => ?_) fun hb => ?_ | refine k4 (fun hb => ?_) fun hb => ?_) <;> (try rw [List.length_map] at hb) <;> (try (exfalso; omega; done)) | refine k5 (fun hb => ?_) fun hb => ?_ | refine k6 (fun hb => ?_) fun hb => ?_ | refine Both.intro ?_ ?_ | refine And.intro rfl ?_ | refine s1 ?_ | refine s2 ?_ | refine s3 ?_ | refine s4 nm ?_ | refine s5 nm nm ?_ | refine s6 nm nm ?_ | refine s7 ?_ | refine And.intro (by assumption) ?_ | refine s8 nm ?_ | refine s9 nm nm ?_ | refine sa nm ?_ | refine ⟨_, _, getMapN nm, rfl, ?_⟩ | refine .inl ⟨_, getMapN nm, rfl, rfl, ?_⟩ | refine .inl ⟨rfl, rfl, bd, rfl, rfl, ?_⟩ | refine ⟨_, singles_flat _ _, ?_⟩ | refine ⟨_, singles_map _ _, ?_⟩ | refine And.intro (onesB_flat _ _ fun _ => rfl) ?_ | refine And.intro (onesB_map _ _ fun _ => rfl) ?_ | refine .inr ⟨rfl, rfl, rfl, ?_⟩ | refine ⟨⟨⟨onesB_flat _ _ fun _ => rfl, fl⟩, trivial⟩, ?_⟩ | refine And.intro bd ?_ | refine ⟨_, set_map _ _ _, ?_⟩ | refine ⟨_, set_rfl _ _ _, ?_⟩ | refine ⟨_, singles_rfl _, ?_⟩ | fail))
  · refine ⟨(k : Int), by rw [wrap_u64]; omega, ?_⟩
    repeat' ((try conv => whnf); first | refine k1 (fun hb => ?_) fun hb => ?_ | refine k2 (fun hb => ?_) fun hb => ?_ | (first | refine k3 (fun hb => ?_) fun hb => ?_ | refine k4 (fun hb => ?_) fun hb => ?_) <;> (try rw [List.length_map] at hb) <;> (try (exfalso; omega; done)) | refine k5 (fun hb => ?_) fun hb => ?_ | refine k6 (fun hb => ?_) fun hb => ?_ | refine Both.intro ?_ ?_ | refine And.intro rfl ?_ | refine s1 ?_ | refine s2 ?_ | refine s3 ?_ | refine s4 nm ?_ | refine s5 nm nm ?_ | refine s6 nm nm ?_ | refine s7 ?_ | refine And.intro (by assumption) ?_ | refine s8 nm ?_ | refine s9 nm nm ?_ | refine sa nm ?_ | refine ⟨_, _, getMapN nm, rfl, ?_⟩ | refine .inl ⟨_, getMapN nm, rfl, rfl, ?_⟩ | refine .inl ⟨rfl, rfl, bd, rfl, rfl, ?_⟩ | refine ⟨_, singles_flat _ _, ?_⟩ | refine ⟨_, singles_map _ _, ?_⟩ | refine And.intro (onesB_flat _ _ fun _ => rfl) ?_ | refine And.intro (onesB_map _ _ fun _ => rfl) ?_ | refine .inr ⟨rfl, rfl, rfl, ?_⟩ | refine ⟨⟨⟨onesB_flat _ _ fun _ => rfl, fl⟩, trivial⟩, ?_⟩ | refine And.intro bd ?_ | refine ⟨_, set_map _ _ _, ?_⟩ | refine ⟨_, set_rfl _ _ _, ?_⟩ | refine ⟨_, singles_rfl _, ?_⟩ | fail)
    refine .inr ⟨[(8, 22)], [.pure (.val (.int .u64 k)), .int (2 : Nat)], [], [], [], 1, _, numeral_own k 2 (by omega) (by omega) (by omega), ⟨Or.inl rfl, Or.inl rfl, trivial⟩, trivial, ?_⟩
    repeat' ((try conv => whnf); first | refine k1 (fun hb => ?_) fun hb => ?_ | refine k2 (fun hb => ?_) fun hb => ?_ | (first | refine k3 (fun hb => ?_) fun hb => ?_ | refine k4 (fun hb => ?_) fun hb => ?_) <;> (try rw [List.length_map] at hb) <;> (try (exfalso; omega; done)) | refine k5 (fun hb => ?_) fun hb => ?_ | refine k6 (fun hb => ?_) fun hb => ?_ | refine Both.intro ?_ ?_ | refine And.intro rfl ?_ | refine s1 ?_ | refine s2 ?_ | refine s3 ?_ | refine s4 nm ?_ | refine s5 nm nm ?_ | refine s6 nm nm ?_ | refine s7 ?_ | refine And.intro (by assumption) ?_ | refine s8 nm ?_ | refine s9 nm nm ?_ | refine sa nm ?_ | refine ⟨_, _, getMapN nm, rfl, ?_⟩ | refine .inl ⟨_, getMapN nm, rfl, rfl, ?_⟩ | refine .inl ⟨rfl, rfl, bd, rfl, rfl, ?_⟩ | refine ⟨_, singles_flat _ _, ?_⟩ | refine ⟨_, singles_map _ _, ?_⟩ | refine And.intro (onesB_flat _ _ fun _ => rfl) ?_ | refine And.intro (onesB_map _ _ fun _ => rfl) ?_ | refine .inr ⟨rfl, rfl, rfl, ?_⟩ | refine ⟨⟨⟨onesB_flat _ _ fun _ => rfl, fl⟩, trivial⟩, ?_⟩ | refine And.intro bd ?_ | refine ⟨_, set_map _ _ _, ?_⟩ | refine ⟨_, set_rfl _ _ _, ?_⟩ | refine ⟨_, singles_rfl _, ?_⟩ | fail)
    refine ⟨((UInt8.ofNat p.length).toNat : Int), by rw [List.length_map, byte_wrap], ?_⟩
    repeat' ((try conv => whnf); first | refine k1 (fun hb => ?_) fun hb => ?_ | refine k2 (fun hb => ?_) fun hb => ?_ | (first | refine k3 (fun hb => ?_) fun hb => ?_ | refine k4 (fun hb => ?_) fun hb => ?_) <;> (try rw [List.length_map] at hb) <;> (try (exfalso; omega; done)) | refine k5 (fun hb => ?_) fun hb => ?_ | refine k6 (fun hb => ?_) fun hb => ?_ | refine Both.intro ?_ ?_ | refine And.intro rfl ?_ | refine s1 ?_ | refine s2 ?_ | refine s3 ?_ | refine s4 nm ?_ | refine s5 nm nm ?_ | refine s6 nm nm ?_ | refine s7 ?_ | refine And.intro (by assumption) ?_ | refine s8 nm ?_ | refine s9 nm nm ?_ | refine sa nm ?_ | refine ⟨_, _, getMapN nm, rfl, ?_⟩ | refine .inl ⟨_, getMapN nm, rfl, rfl, ?_⟩ | refine .inl ⟨rfl, rfl, bd, rfl, rfl, ?_⟩ | refine ⟨_, singles_flat _ _, ?_⟩ | refine ⟨_, singles_map _ _, ?_⟩ | refine And.intro (onesB_flat _ _ fun _ => rfl) ?_ | refine And.intro (onesB_map _ _ fun _ => rfl) ?_ | refine .inr ⟨rfl, rfl, rfl, ?_⟩ | refine ⟨⟨⟨onesB_flat _ _ fun _ => rfl, fl⟩, trivial⟩, ?_⟩ | refine And.intro bd ?_ | refine ⟨_, set_map _ _ _, ?_⟩ | refine ⟨_, set_rfl _ _ _, ?_⟩ | refine ⟨_, singles_rfl _, ?_⟩ | fail)
    refine ⟨by simp [zeroText, hk2]; omega, by simp [zeroText, hk2]; omega, ?_⟩
    repeat' ((try conv => whnf); first | refine k1 (fun hb => ?_) fun hb => ?_ | refine k2 (fun hb => ?_) fun hb => ?_ | (first | refine k3 (fun hb => ?_) fun hb => ?_ | refine k4 (fun hb => ?_) fun hb => ?_) <;> (try rw [List.length_map] at hb) <;> (try (exfalso; omega; done)) | refine k5 (fun hb => ?_) fun hb => ?_ | refine k6 (fun hb => ?_) fun hb => ?_ | refine Both.intro ?_ ?_ | refine And.intro rfl ?_ | refine s1 ?_ | refine s2 ?_ | refine s3 ?_ | refine s4 nm ?_ | refine s5 nm nm ?_ | refine s6 nm nm ?_ | refine s7 ?_ | refine And.intro (by assumption) ?_ | refine s8 nm ?_ | refine s9 nm nm ?_ | refine sa nm ?_ | refine ⟨_, _, getMapN nm, rfl, ?_⟩ | refine .inl ⟨_, getMapN nm, rfl, rfl, ?_⟩ | refine .inl ⟨rfl, rfl, bd, rfl, rfl, ?_⟩ | refine ⟨_, singles_flat _ _, ?_⟩ | refine ⟨_, singles_map _ _, ?_⟩ | refine And.intro (onesB_flat _ _ fun _ => rfl) ?_ | refine And.intro (onesB_map _ _ fun _ => rfl) ?_ | refine .inr ⟨rfl, rfl, rfl, ?_⟩ | refine ⟨⟨⟨onesB_flat _ _ fun _ => rfl, fl⟩, trivial⟩, ?_⟩ | refine And.intro bd ?_ | refine ⟨_, set_map _ _ _, ?_⟩ | refine ⟨_, set_rfl _ _ _, ?_⟩ | refine ⟨_, singles_rfl _, ?_⟩ | fail)
    refine .inr ⟨[(8, 38)], [.pure (.val (.int .u64 g)), .int (4 : Nat)], [], [], [], 1, _, numeral_own g 4 (by omega) (by omega) (by omega), ⟨Or.inl rfl, Or.inl rfl, trivial⟩, trivial, ?_⟩
    repeat' ((try conv => whnf); first | refine k1 (fun hb => ?_) fun hb => ?_ | refine k2 (fun hb => ?_) fun hb => ?_ | (first | refine k3 (fun hb => ?_) fun hb => ?_ | refine k4 (fun hb => ?_) fun hb => ?_) <;> (try rw [List.length_map] at hb) <;> (try (exfalso; omega; done)) | refine k5 (fun hb => ?_) fun hb => ?_ | refine k6 (fun hb => ?_) fun hb => ?_ | refine Both.intro ?_ ?_ | refine And.intro rfl ?_ | refine s1 ?_ | refine s2 ?_ | refine s3 ?_ | refine s4 nm ?_ | refine s5 nm nm ?_ | refine s6 nm nm ?_ | refine s7 ?_ | refine And.intro (by assumption) ?_ | refine s8 nm ?_ | refine s9 nm nm ?_ | refine sa nm ?_ | refine ⟨_, _, getMapN nm, rfl, ?_⟩ | refine .inl ⟨_, getMapN nm, rfl, rfl, ?_⟩ | refine .inl ⟨rfl, rfl, bd, rfl, rfl, ?_⟩ | refine ⟨_, singles_flat _ _, ?_⟩ | refine ⟨_, singles_map _ _, ?_⟩ | refine And.intro (onesB_flat _ _ fun _ => rfl) ?_ | refine And.intro (onesB_map _ _ fun _ => rfl) ?_ | refine .inr ⟨rfl, rfl, rfl, ?_⟩ | refine ⟨⟨⟨onesB_flat _ _ fun _ => rfl, fl⟩, trivial⟩, ?_⟩ | refine And.intro bd ?_ | refine ⟨_, set_map _ _ _, ?_⟩ | refine ⟨_, set_rfl _ _ _, ?_⟩ | refine ⟨_, singles_rfl _, ?_⟩ | fail)
    have qB := rchecksum_spec (bodyOf k false false p) (by rw [bodyOf_len k _ _ p hp]; omega)
    have hCl := crc_lt (bodyOf k false false p)
    obtain ⟨CR, hCR⟩ : ∃ CR, CR = crc (bodyOf k false false p) := ⟨_, rfl⟩
    rw [← hCR] at qB hCl
    have hc4 : (numTail CR 4).length = 4 := numTail_len CR 4
    refine .inl ⟨_, qB.args ⟨sub_sl (by simp [bodyOf, numTail, kindB, zeroText]; exact List.take_of_length_le (by simp; omega)), trivial⟩, ?_⟩
    repeat' ((try conv => whnf); first | refine k1 (fun hb => ?_) fun hb => ?_ | refine k2 (fun hb => ?_) fun hb => ?_ | (first | refine k3 (fun hb => ?_) fun hb => ?_ | refine k4 (fun hb => ?_) fun hb => ?_) <;> (try rw [List.length_map] at hb) <;> (try (exfalso; omega; done)) | refine k5 (fun hb => ?_) fun hb => ?_ | refine k6 (fun hb => ?_) fun hb => ?_ | refine Both.intro ?_ ?_ | refine And.intro rfl ?_ | refine s1 ?_ | refine s2 ?_ | refine s3 ?_ | refine s4 nm ?_ | refine s5 nm nm ?_ | refine s6 nm nm ?_ | refine s7 ?_ | refine And.intro (by assumption) ?_ | refine s8 nm ?_ | refine s9 nm nm ?_ | refine sa nm ?_ | refine ⟨_, _, getMapN nm, rfl, ?_⟩ | refine .inl ⟨_, getMapN nm, rfl, rfl, ?_⟩ | refine .inl ⟨rfl, rfl, bd, rfl, rfl, ?_⟩ | refine ⟨_, singles_flat _ _, ?_⟩ | refine ⟨_, singles_map _ _, ?_⟩ | refine And.intro (onesB_flat _ _ fun _ => rfl) ?_ | refine And.intro (onesB_map _ _ fun _ => rfl) ?_ | refine .inr ⟨rfl, rfl, rfl, ?_⟩ | refine ⟨⟨⟨onesB_flat _ _ fun _ => rfl, fl⟩, trivial⟩, ?_⟩ | refine And.intro bd ?_ | refine ⟨_, set_map _ _ _, ?_⟩ | refine ⟨_, set_rfl _ _ _, ?_⟩ | refine ⟨_, singles_rfl _, ?_⟩ | fail)
    refine ⟨(CR : Int), by rw [wrap_u64]; omega, ?_⟩
    repeat' ((try conv => whnf); first | refine k1 (fun hb => ?_) fun hb => ?_ | refine k2 (fun hb => ?_) fun hb => ?_ | (first | refine k3 (fun hb => ?_) fun hb => ?_ | refine k4 (fun hb => ?_) fun hb => ?_) <;> (try rw [List.length_map] at hb) <;> (try (exfalso; omega; done)) | refine k5 (fun hb => ?_) fun hb => ?_ | refine k6 (fun hb => ?_) fun hb => ?_ | refine Both.intro ?_ ?_ | refine And.intro rfl ?_ | refine s1 ?_ | refine s2 ?_ | refine s3 ?_ | refine s4 nm ?_ | refine s5 nm nm ?_ | refine s6 nm nm ?_ | refine s7 ?_ | refine And.intro (by assumption) ?_ | refine s8 nm ?_ | refine s9 nm nm ?_ | refine sa nm ?_ | refine ⟨_, _, getMapN nm, rfl, ?_⟩ | refine .inl ⟨_, getMapN nm, rfl, rfl, ?_⟩ | refine .inl ⟨rfl, rfl, bd, rfl, rfl, ?_⟩ | refine ⟨_, singles_flat _ _, ?_⟩ | refine ⟨_, singles_map _ _, ?_⟩ | refine And.intro (onesB_flat _ _ fun _ => rfl) ?_ | refine And.intro (onesB_map _ _ fun _ => rfl) ?_ | refine .inr ⟨rfl, rfl, rfl, ?_⟩ | refine ⟨⟨⟨onesB_flat _ _ fun _ => rfl, fl⟩, trivial⟩, ?_⟩ | refine And.intro bd ?_ | refine ⟨_, set_map _ _ _, ?_⟩ | refine ⟨_, set_rfl _ _ _, ?_⟩ | refine ⟨_, singles_rfl _, ?_⟩ | fail)
    refine .inr ⟨[(8, 42)], [.pure (.val (.int .u64 CR)), .int (4 : Nat)], [], [], [], 1, _, numeral_own CR 4 (by omega) (by omega) (by omega), ⟨Or.inl rfl, Or.inl rfl, trivial⟩, trivial, ?_⟩
    repeat' ((try conv => whnf); first | refine k1 (fun hb => ?_) fun hb => ?_ | refine k2 (fun hb => ?_) fun hb => ?_ | (first | refine k3 (fun hb => ?_) fun hb => ?_ | refine k4 (fun hb => ?_) fun hb => ?_) <;> (try rw [List.length_map] at hb) <;> (try (exfalso; omega; done)) | refine k5 (fun hb => ?_) fun hb => ?_ | refine k6 (fun hb => ?_) fun hb => ?_ | refine Both.intro ?_ ?_ | refine And.intro rfl ?_ | refine s1 ?_ | refine s2 ?_ | refine s3 ?_ | refine s4 nm ?_ | refine s5 nm nm ?_ | refine s6 nm nm ?_ | refine s7 ?_ | refine And.intro (by assumption) ?_ | refine s8 nm ?_ | refine s9 nm nm ?_ | refine sa nm ?_ | refine ⟨_, _, getMapN nm, rfl, ?_⟩ | refine .inl ⟨_, getMapN nm, rfl, rfl, ?_⟩ | refine .inl ⟨rfl, rfl, bd, rfl, rfl, ?_⟩ | refine ⟨_, singles_flat _ _, ?_⟩ | refine ⟨_, singles_map _ _, ?_⟩ | refine And.intro (onesB_flat _ _ fun _ => rfl) ?_ | refine And.intro (onesB_map _ _ fun _ => rfl) ?_ | refine .inr ⟨rfl, rfl, rfl, ?_⟩ | refine ⟨⟨⟨onesB_flat _ _ fun _ => rfl, fl⟩, trivial⟩, ?_⟩ | refine And.intro bd ?_ | refine ⟨_, set_map _ _ _, ?_⟩ | refine ⟨_, set_rfl _ _ _, ?_⟩ | refine ⟨_, singles_rfl _, ?_⟩ | fail)
    refine ⟨by simp [zeroText, hk2, hg4, hc4]; omega, by simp [zeroText, hk2, hg4, hc4]; omega, ?_⟩
    repeat' ((try conv => whnf); first | refine k1 (fun hb => ?_) fun hb => ?_ | refine k2 (fun hb => ?_) fun hb => ?_ | (first | refine k3 (fun hb => ?_) fun hb => ?_ | refine k4 (fun hb => ?_) fun hb => ?_) <;> (try rw [List.length_map] at hb) <;> (try (exfalso; omega; done)) | refine k5 (fun hb => ?_) fun hb => ?_ | refine k6 (fun hb => ?_) fun hb => ?_ | refine Both.intro ?_ ?_ | refine And.intro rfl ?_ | refine s1 ?_ | refine s2 ?_ | refine s3 ?_ | refine s4 nm ?_ | refine s5 nm nm ?_ | refine s6 nm nm ?_ | refine s7 ?_ | refine And.intro (by assumption) ?_ | refine s8 nm ?_ | refine s9 nm nm ?_ | refine sa nm ?_ | refine ⟨_, _, getMapN nm, rfl, ?_⟩ | refine .inl ⟨_, getMapN nm, rfl, rfl, ?_⟩ | refine .inl ⟨rfl, rfl, bd, rfl, rfl, ?_⟩ | refine ⟨_, singles_flat _ _, ?_⟩ | refine ⟨_, singles_map _ _, ?_⟩ | refine And.intro (onesB_flat _ _ fun _ => rfl) ?_ | refine And.intro (onesB_map _ _ fun _ => rfl) ?_ | refine .inr ⟨rfl, rfl, rfl, ?_⟩ | refine ⟨⟨⟨onesB_flat _ _ fun _ => rfl, fl⟩, trivial⟩, ?_⟩ | refine And.intro bd ?_ | refine ⟨_, set_map _ _ _, ?_⟩ | refine ⟨_, set_rfl _ _ _, ?_⟩ | refine ⟨_, singles_rfl _, ?_⟩ | fail)
    refine .inr ⟨[(8, 48)], [.pure (.val (.int .u64 g)), .int (4 : Nat)], [], [], [], 1, _, numeral_own g 4 (by omega) (by omega) (by omega), ⟨Or.inl rfl, Or.inl rfl, trivial⟩, trivial, ?_⟩
    repeat' ((try conv => whnf); first | refine k1 (fun hb => ?_) fun hb => ?_ | refine k2 (fun hb => ?_) fun hb => ?_ | (first | refine k3 (fun hb => ?_) fun hb => ?_ | refine k4 (fun hb => ?_) fun hb => ?_) <;> (try rw [List.length_map] at hb) <;> (try (exfalso; omega; done)) | refine k5 (fun hb => ?_) fun hb => ?_ | refine k6 (fun hb => ?_) fun hb => ?_ | refine Both.intro ?_ ?_ | refine And.intro rfl ?_ | refine s1 ?_ | refine s2 ?_ | refine s3 ?_ | refine s4 nm ?_ | refine s5 nm nm ?_ | refine s6 nm nm ?_ | refine s7 ?_ | refine And.intro (by assumption) ?_ | refine s8 nm ?_ | refine s9 nm nm ?_ | refine sa nm ?_ | refine ⟨_, _, getMapN nm, rfl, ?_⟩ | refine .inl ⟨_, getMapN nm, rfl, rfl, ?_⟩ | refine .inl ⟨rfl, rfl, bd, rfl, rfl, ?_⟩ | refine ⟨_, singles_flat _ _, ?_⟩ | refine ⟨_, singles_map _ _, ?_⟩ | refine And.intro (onesB_flat _ _ fun _ => rfl) ?_ | refine And.intro (onesB_map _ _ fun _ => rfl) ?_ | refine .inr ⟨rfl, rfl, rfl, ?_⟩ | refine ⟨⟨⟨onesB_flat _ _ fun _ => rfl, fl⟩, trivial⟩, ?_⟩ | refine And.intro bd ?_ | refine ⟨_, set_map _ _ _, ?_⟩ | refine ⟨_, set_rfl _ _ _, ?_⟩ | refine ⟨_, singles_rfl _, ?_⟩ | fail)
    refine ⟨by simp [zeroText, hk2, hg4, hc4]; omega, by simp [zeroText, hk2, hg4, hc4]; omega, ?_⟩
    repeat' ((try conv => whnf); first | refine k1 (fun hb => ?_) fun hb => ?_ | refine k2 (fun hb => ?_) fun hb => ?_ | (first | refine k3 (fun hb => ?_) fun hb => ?_ | refine k4 (fun hb => ?_) fun hb => ?_) <;> (try rw [List.length_map] at hb) <;> (try (exfalso; omega; done)) | refine k5 (fun hb => ?_) fun hb => ?_ | refine k6 (fun hb => ?_) fun hb => ?_ | refine Both.intro ?_ ?_ | refine And.intro rfl ?_ | refine s1 ?_ | refine s2 ?_ | refine s3 ?_ | refine s4 nm ?_ | refine s5 nm nm ?_ | refine s6 nm nm ?_ | refine s7 ?_ | refine And.intro (by assumption) ?_ | refine s8 nm ?_ | refine s9 nm nm ?_ | refine sa nm ?_ | refine ⟨_, _, getMapN nm, rfl, ?_⟩ | refine .inl ⟨_, getMapN nm, rfl, rfl, ?_⟩ | refine .inl ⟨rfl, rfl, bd, rfl, rfl, ?_⟩ | refine ⟨_, singles_flat _ _, ?_⟩ | refine ⟨_, singles_map _ _, ?_⟩ | refine And.intro (onesB_flat _ _ fun _ => rfl) ?_ | refine And.intro (onesB_map _ _ fun _ => rfl) ?_ | refine .inr ⟨rfl, rfl, rfl, ?_⟩ | refine ⟨⟨⟨onesB_flat _ _ fun _ => rfl, fl⟩, trivial⟩, ?_⟩ | refine And.intro bd ?_ | refine ⟨_, set_map _ _ _, ?_⟩ | refine ⟨_, set_rfl _ _ _, ?_⟩ | refine ⟨_, singles_rfl _, ?_⟩ | fail)
    rw [secOf_eq g k false false p hp, ← hCR]
    refine sub_sl ?_
    simp [bodyOf, numTail, n4, kindB, zeroText]
    rw [List.take_of_length_le (by simp <;> omega), List.take_of_length_le (by simp <;> omega)]
    try simp
  · refine ⟨2, by decide, ?_⟩
    repeat' ((try conv => whnf); first | refine k1 (fun hb => ?_) fun hb => ?_ | refine k2 (fun hb => ?_) fun hb => ?_ | (first | refine k3 (fun hb => ?_) fun hb => ?_ | refine k4 (fun hb => ?_) fun hb => ?_) <;> (try rw [List.length_map] at hb) <;> (try (exfalso; omega; done)) | refine k5 (fun hb => ?_) fun hb => ?_ | refine k6 (fun hb => ?_) fun hb => ?_ | refine Both.intro ?_ ?_ | refine And.intro rfl ?_ | refine s1 ?_ | refine s2 ?_ | refine s3 ?_ | refine s4 nm ?_ | refine s5 nm nm ?_ | refine s6 nm nm ?_ | refine s7 ?_ | refine And.intro (by assumption) ?_ | refine s8 nm ?_ | refine s9 nm nm ?_ | refine sa nm ?_ | refine ⟨_, _, getMapN nm, rfl, ?_⟩ | refine .inl ⟨_, getMapN nm, rfl, rfl, ?_⟩ | refine .inl ⟨rfl, rfl, bd, rfl, rfl, ?_⟩ | refine ⟨_, singles_flat _ _, ?_⟩ | refine ⟨_, singles_map _ _, ?_⟩ | refine And.intro (onesB_flat _ _ fun _ => rfl) ?_ | refine And.intro (onesB_map _ _ fun _ => rfl) ?_ | refine .inr ⟨rfl, rfl, rfl, ?_⟩ | refine ⟨⟨⟨onesB_flat _ _ fun _ => rfl, fl⟩, trivial⟩, ?_⟩ | refine And.intro bd ?_ | refine ⟨_, set_map _ _ _, ?_⟩ | refine ⟨_, set_rfl _ _ _, ?_⟩ | refine ⟨_, singles_rfl _, ?_⟩ | fail)
    refine ⟨(k : Int), by rw [wrap_u64]; omega, ?_⟩
    repeat' ((try conv => whnf); first | refine k1 (fun hb => ?_) fun hb => ?_ | refine k2 (fun hb => ?_) fun hb => ?_ | (first | refine k3 (fun hb => ?_) fun hb => ?_ | refine k4 (fun hb => ?_) fun hb => ?_) <;> (try rw [List.length_map] at hb) <;> (try (exfalso; omega; done)) | refine k5 (fun hb => ?_) fun hb => ?_ | refine k6 (fun hb => ?_) fun hb => ?_ | refine Both.intro ?_ ?_ | refine And.intro rfl ?_ | refine s1 ?_ | refine s2 ?_ | refine s3 ?_ | refine s4 nm ?_ | refine s5 nm nm ?_ | refine s6 nm nm ?_ | refine s7 ?_ | refine And.intro (by assumption) ?_ | refine s8 nm ?_ | refine s9 nm nm ?_ | refine sa nm ?_ | refine ⟨_, _, getMapN nm, rfl, ?_⟩ | refine .inl ⟨_, getMapN nm, rfl, rfl, ?_⟩ | refine .inl ⟨rfl, rfl, bd, rfl, rfl, ?_⟩ | refine ⟨_, singles_flat _ _, ?_⟩ | refine ⟨_, singles_map _ _, ?_⟩ | refine And.intro (onesB_flat _ _ fun _ => rfl) ?_ | refine And.intro (onesB_map _ _ fun _ => rfl) ?_ | refine .inr ⟨rfl, rfl, rfl, ?_⟩ | refine ⟨⟨⟨onesB_flat _ _ fun _ => rfl, fl⟩, trivial⟩, ?_⟩ | refine And.intro bd ?_ | refine ⟨_, set_map _ _ _, ?_⟩ | refine ⟨_, set_rfl _ _ _, ?_⟩ | refine ⟨_, singles_rfl _, ?_⟩ | fail)
    refine .inr ⟨[(8, 22)], [.pure (.val (.int .u64 k)), .int (2 : Nat)], [], [], [], 1, _, numeral_own k 2 (by omega) (by omega) (by omega), ⟨Or.inl rfl, Or.inl rfl, trivial⟩, trivial, ?_⟩
    repeat' ((try conv => whnf); first | refine k1 (fun hb => ?_) fun hb => ?_ | refine k2 (fun hb => ?_) fun hb => ?_ | (first | refine k3 (fun hb => ?_) fun hb => ?_ | refine k4 (fun hb => ?_) fun hb => ?_) <;> (try rw [List.length_map] at hb) <;> (try (exfalso; omega; done)) | refine k5 (fun hb => ?_) fun hb => ?_ | refine k6 (fun hb => ?_) fun hb => ?_ | refine Both.intro ?_ ?_ | refine And.intro rfl ?_ | refine s1 ?_ | refine s2 ?_ | refine s3 ?_ | refine s4 nm ?_ | refine s5 nm nm ?_ | refine s6 nm nm ?_ | refine s7 ?_ | refine And.intro (by assumption) ?_ | refine s8 nm ?_ | refine s9 nm nm ?_ | refine sa nm ?_ | refine ⟨_, _, getMapN nm, rfl, ?_⟩ | refine .inl ⟨_, getMapN nm, rfl, rfl, ?_⟩ | refine .inl ⟨rfl, rfl, bd, rfl, rfl, ?_⟩ | refine ⟨_, singles_flat _ _, ?_⟩ | refine ⟨_, singles_map _ _, ?_⟩ | refine And.intro (onesB_flat _ _ fun _ => rfl) ?_ | refine And.intro (onesB_map _ _ fun _ => rfl) ?_ | refine .inr ⟨rfl, rfl, rfl, ?_⟩ | refine ⟨⟨⟨onesB_flat _ _ fun _ => rfl, fl⟩, trivial⟩, ?_⟩ | refine And.intro bd ?_ | refine ⟨_, set_map _ _ _, ?_⟩ | refine ⟨_, set_rfl _ _ _, ?_⟩ | refine ⟨_, singles_rfl _, ?_⟩ | fail)
    refine ⟨((UInt8.ofNat p.length).toNat : Int), by rw [List.length_map, byte_wrap], ?_⟩
    repeat' ((try conv => whnf); first | refine k1 (fun hb => ?_) fun hb => ?_ | refine k2 (fun hb => ?_) fun hb => ?_ | (first | refine k3 (fun hb => ?_) fun hb => ?_ | refine k4 (fun hb => ?_) fun hb => ?_) <;> (try rw [List.length_map] at hb) <;> (try (exfalso; omega; done)) | refine k5 (fun hb => ?_) fun hb => ?_ | refine k6 (fun hb => ?_) fun hb => ?_ | refine Both.intro ?_ ?_ | refine And.intro rfl ?_ | refine s1 ?_ | refine s2 ?_ | refine s3 ?_ | refine s4 nm ?_ | refine s5 nm nm ?_ | refine s6 nm nm ?_ | refine s7 ?_ | refine And.intro (by assumption) ?_ | refine s8 nm ?_ | refine s9 nm nm ?_ | refine sa nm ?_ | refine ⟨_, _, getMapN nm, rfl, ?_⟩ | refine .inl ⟨_, getMapN nm, rfl, rfl, ?_⟩ | refine .inl ⟨rfl, rfl, bd, rfl, rfl, ?_⟩ | refine ⟨_, singles_flat _ _, ?_⟩ | refine ⟨_, singles_map _ _, ?_⟩ | refine And.intro (onesB_flat _ _ fun _ => rfl) ?_ | refine And.intro (onesB_map _ _ fun _ => rfl) ?_ | refine .inr ⟨rfl, rfl, rfl, ?_⟩ | refine ⟨⟨⟨onesB_flat _ _ fun _ => rfl, fl⟩, trivial⟩, ?_⟩ | refine And.intro bd ?_ | refine ⟨_, set_map _ _ _, ?_⟩ | refine ⟨_, set_rfl _ _ _, ?_⟩ | refine ⟨_, singles_rfl _, ?_⟩ | fail)
    refine ⟨by simp [zeroText, hk2]; omega, by simp [zeroText, hk2]; omega, ?_⟩
    repeat' ((try conv => whnf); first | refine k1 (fun hb => ?_) fun hb => ?_ | refine k2 (fun hb => ?_) fun hb => ?_ | (first | refine k3 (fun hb => ?_) fun hb => ?_ | refine k4 (fun hb => ?_) fun hb => ?_) <;> (try rw [List.length_map] at hb) <;> (try (exfalso; omega; done)) | refine k5 (fun hb => ?_) fun hb => ?_ | refine k6 (fun hb => ?_) fun hb => ?_ | refine Both.intro ?_ ?_ | refine And.intro rfl ?_ | refine s1 ?_ | refine s2 ?_ | refine s3 ?_ | refine s4 nm ?_ | refine s5 nm nm ?_ | refine s6 nm nm ?_ | refine s7 ?_ | refine And.intro (by assumption) ?_ | refine s8 nm ?_ | refine s9 nm nm ?_ | refine sa nm ?_ | refine ⟨_, _, getMapN nm, rfl, ?_⟩ | refine .inl ⟨_, getMapN nm, rfl, rfl, ?_⟩ | refine .inl ⟨rfl, rfl, bd, rfl, rfl, ?_⟩ | refine ⟨_, singles_flat _ _, ?_⟩ | refine ⟨_, singles_map _ _, ?_⟩ | refine And.intro (onesB_flat _ _ fun _ => rfl) ?_ | refine And.intro (onesB_map _ _ fun _ => rfl) ?_ | refine .inr ⟨rfl, rfl, rfl, ?_⟩ | refine ⟨⟨⟨onesB_flat _ _ fun _ => rfl, fl⟩, trivial⟩, ?_⟩ | refine And.intro bd ?_ | refine ⟨_, set_map _ _ _, ?_⟩ | refine ⟨_, set_rfl _ _ _, ?_⟩ | refine ⟨_, singles_rfl _, ?_⟩ | fail)
    refine .inr ⟨[(8, 38)], [.pure (.val (.int .u64 g)), .int (4 : Nat)], [], [], [], 1, _, numeral_own g 4 (by omega) (by omega) (by omega), ⟨Or.inl rfl, Or.inl rfl, trivial⟩, trivial, ?_⟩
    repeat' ((try conv => whnf); first | refine k1 (fun hb => ?_) fun hb => ?_ | refine k2 (fun hb => ?_) fun hb => ?_ | (first | refine k3 (fun hb => ?_) fun hb => ?_ | refine k4 (fun hb => ?_) fun hb => ?_) <;> (try rw [List.length_map] at hb) <;> (try (exfalso; omega; done)) | refine k5 (fun hb => ?_) fun hb => ?_ | refine k6 (fun hb => ?_) fun hb => ?_ | refine Both.intro ?_ ?_ | refine And.intro rfl ?_ | refine s1 ?_ | refine s2 ?_ | refine s3 ?_ | refine s4 nm ?_ | refine s5 nm nm ?_ | refine s6 nm nm ?_ | refine s7 ?_ | refine And.intro (by assumption) ?_ | refine s8 nm ?_ | refine s9 nm nm ?_ | refine sa nm ?_ | refine ⟨_, _, getMapN nm, rfl, ?_⟩ | refine .inl ⟨_, getMapN nm, rfl, rfl, ?_⟩ | refine .inl ⟨rfl, rfl, bd, rfl, rfl, ?_⟩ | refine ⟨_, singles_flat _ _, ?_⟩ | refine ⟨_, singles_map _ _, ?_⟩ | refine And.intro (onesB_flat _ _ fun _ => rfl) ?_ | refine And.intro (onesB_map _ _ fun _ => rfl) ?_ | refine .inr ⟨rfl, rfl, rfl, ?_⟩ | refine ⟨⟨⟨onesB_flat _ _ fun _ => rfl, fl⟩, trivial⟩, ?_⟩ | refine And.intro bd ?_ | refine ⟨_, set_map _ _ _, ?_⟩ | refine ⟨_, set_rfl _ _ _, ?_⟩ | refine ⟨_, singles_rfl _, ?_⟩ | fail)
    have qB := rchecksum_spec (bodyOf k false true p) (by rw [bodyOf_len k _ _ p hp]; omega)
    have hCl := crc_lt (bodyOf k false true p)
    obtain ⟨CR, hCR⟩ : ∃ CR, CR = crc (bodyOf k false true p) := ⟨_, rfl⟩
    rw [← hCR] at qB hCl
    have hc4 : (numTail CR 4).length = 4 := numTail_len CR 4
    refine .inl ⟨_, qB.args ⟨sub_sl (by simp [bodyOf, numTail, kindB, zeroText]; exact List.take_of_length_le (by simp; omega)), trivial⟩, ?_⟩
    repeat' ((try conv => whnf); first | refine k1 (fun hb => ?_) fun hb => ?_ | refine k2 (fun hb => ?_) fun hb => ?_ | (first | refine k3 (fun hb => ?_) fun hb => ?_ | refine k4 (fun hb => ?_) fun hb => ?_) <;> (try rw [List.length_map] at hb) <;> (try (exfalso; omega; done)) | refine k5 (fun hb => ?_) fun hb => ?_ | refine k6 (fun hb => ?_) fun hb => ?_ | refine Both.intro ?_ ?_ | refine And.intro rfl ?_ | refine s1 ?_ | refine s2 ?_ | refine s3 ?_ | refine s4 nm ?_ | refine s5 nm nm ?_ | refine s6 nm nm ?_ | refine s7 ?_ | refine And.intro (by assumption) ?_ | refine s8 nm ?_ | refine s9 nm nm ?_ | refine sa nm ?_ | refine ⟨_, _, getMapN nm, rfl, ?_⟩ | refine .inl ⟨_, getMapN nm, rfl, rfl, ?_⟩ | refine .inl ⟨rfl, rfl, bd, rfl, rfl, ?_⟩ | refine ⟨_, singles_flat _ _, ?_⟩ | refine ⟨_, singles_map _ _, ?_⟩ | refine And.intro (onesB_flat _ _ fun _ => rfl) ?_ | refine And.intro (onesB_map _ _ fun _ => rfl) ?_ | refine .inr ⟨rfl, rfl, rfl, ?_⟩ | refine ⟨⟨⟨onesB_flat _ _ fun _ => rfl, fl⟩, trivial⟩, ?_⟩ | refine And.intro bd ?_ | refine ⟨_, set_map _ _ _, ?_⟩ | refine ⟨_, set_rfl _ _ _, ?_⟩ | refine ⟨_, singles_rfl _, ?_⟩ | fail)
    refine ⟨(CR : Int), by rw [wrap_u64]; omega, ?_⟩
    repeat' ((try conv => whnf); first | refine k1 (fun hb => ?_) fun hb => ?_ | refine k2 (fun hb => ?_) fun hb => ?_ | (first | refine k3 (fun hb => ?_) fun hb => ?_ | refine k4 (fun hb => ?_) fun hb => ?_) <;> (try rw [List.length_map] at hb) <;> (try (exfalso; omega; done)) | refine k5 (fun hb => ?_) fun hb => ?_ | refine k6 (fun hb => ?_) fun hb => ?_ | refine Both.intro ?_ ?_ | refine And.intro rfl ?_ | refine s1 ?_ | refine s2 ?_ | refine s3 ?_ | refine s4 nm ?_ | refine s5 nm nm ?_ | refine s6 nm nm ?_ | refine s7 ?_ | refine And.intro (by assumption) ?_ | refine s8 nm ?_ | refine s9 nm nm ?_ | refine sa nm ?_ | refine ⟨_, _, getMapN nm, rfl, ?_⟩ | refine .inl ⟨_, getMapN nm, rfl, rfl, ?_⟩ | refine .inl ⟨rfl, rfl, bd, rfl, rfl, ?_⟩ | refine ⟨_, singles_flat _ _, ?_⟩ | refine ⟨_, singles_map _ _, ?_⟩ | refine And.intro (onesB_flat _ _ fun _ => rfl) ?_ | refine And.intro (onesB_map _ _ fun _ => rfl) ?_ | refine .inr ⟨rfl, rfl, rfl, ?_⟩ | refine ⟨⟨⟨onesB_flat _ _ fun _ => rfl, fl⟩, trivial⟩, ?_⟩ | refine And.intro bd ?_ | refine ⟨_, set_map _ _ _, ?_⟩ | refine ⟨_, set_rfl _ _ _, ?_⟩ | refine ⟨_, singles_rfl _, ?_⟩ | fail)
    refine .inr ⟨[(8, 42)], [.pure (.val (.int .u64 CR)), .int (4 : Nat)], [], [], [], 1, _, numeral_own CR 4 (by omega) (by omega) (by omega), ⟨Or.inl rfl, Or.inl rfl, trivial⟩, trivial, ?_⟩
    repeat' ((try conv => whnf); first | refine k1 (fun hb => ?_) fun hb => ?_ | refine k2 (fun hb => ?_) fun hb => ?_ | (first | refine k3 (fun hb => ?_) fun hb => ?_ | refine k4 (fun hb => ?_) fun hb => ?_) <;> (try rw [List.length_map] at hb) <;> (try (exfalso; omega; done)) | refine k5 (fun hb => ?_) fun hb => ?_ | refine k6 (fun hb => ?_) fun hb => ?_ | refine Both.intro ?_ ?_ | refine And.intro rfl ?_ | refine s1 ?_ | refine s2 ?_ | refine s3 ?_ | refine s4 nm ?_ | refine s5 nm nm ?_ | refine s6 nm nm ?_ | refine s7 ?_ | refine And.intro (by assumption) ?_ | refine s8 nm ?_ | refine s9 nm nm ?_ | refine sa nm ?_ | refine ⟨_, _, getMapN nm, rfl, ?_⟩ | refine .inl ⟨_, getMapN nm, rfl, rfl, ?_⟩ | refine .inl ⟨rfl, rfl, bd, rfl, rfl, ?_⟩ | refine ⟨_, singles_flat _ _, ?_⟩ | refine ⟨_, singles_map _ _, ?_⟩ | refine And.intro (onesB_flat _ _ fun _ => rfl) ?_ | refine And.intro (onesB_map _ _ fun _ => rfl) ?_ | refine .inr ⟨rfl, rfl, rfl, ?_⟩ | refine ⟨⟨⟨onesB_flat _ _ fun _ => rfl, fl⟩, trivial⟩, ?_⟩ | refine And.intro bd ?_ | refine ⟨_, set_map _ _ _, ?_⟩ | refine ⟨_, set_rfl _ _ _, ?_⟩ | refine ⟨_, singles_rfl _, ?_⟩ | fail)
    refine ⟨by simp [zeroText, hk2, hg4, hc4]; omega, by simp [zeroText, hk2, hg4, hc4]; omega, ?_⟩
    repeat' ((try conv => whnf); first | refine k1 (fun hb => ?_) fun hb => ?_ | refine k2 (fun hb => ?_) fun hb => ?_ | (first | refine k3 (fun hb => ?_) fun hb => ?_ | refine k4 (fun hb => ?_) fun hb => ?_) <;> (try rw [List.length_map] at hb) <;> (try (exfalso; omega; done)) | refine k5 (fun hb => ?_) fun hb => ?_ | refine k6 (fun hb => ?_) fun hb => ?_ | refine Both.intro ?_ ?_ | refine And.intro rfl ?_ | refine s1 ?_ | refine s2 ?_ | refine s3 ?_ | refine s4 nm ?_ | refine s5 nm nm ?_ | refine s6 nm nm ?_ | refine s7 ?_ | refine And.intro (by assumption) ?_ | refine s8 nm ?_ | refine s9 nm nm ?_ | refine sa nm ?_ | refine ⟨_, _, getMapN nm, rfl, ?_⟩ | refine .inl ⟨_, getMapN nm, rfl, rfl, ?_⟩ | refine .inl ⟨rfl, rfl, bd, rfl, rfl, ?_⟩ | refine ⟨_, singles_flat _ _, ?_⟩ | refine ⟨_, singles_map _ _, ?_⟩ | refine And.intro (onesB_flat _ _ fun _ => rfl) ?_ | refine And.intro (onesB_map _ _ fun _ => rfl) ?_ | refine .inr ⟨rfl, rfl, rfl, ?_⟩ | refine ⟨⟨⟨onesB_flat _ _ fun _ => rfl, fl⟩, trivial⟩, ?_⟩ | refine And.intro bd ?_ | refine ⟨_, set_map _ _ _, ?_⟩ | refine ⟨_, set_rfl _ _ _, ?_⟩ | refine ⟨_, singles_rfl _, ?_⟩ | fail)
    refine .inr ⟨[(8, 48)], [.pure (.val (.int .u64 g)), .int (4 : Nat)], [], [], [], 1, _, numeral_own g 4 (by omega) (by omega) (by omega), ⟨Or.inl rfl, Or.inl rfl, trivial⟩, trivial, ?_⟩
    repeat' ((try conv => whnf); first | refine k1 (fun hb => ?_) fun hb => ?_ | refine k2 (fun hb => ?_) fun hb => ?_ | (first | refine k3 (fun hb => ?_) fun hb => ?_ | refine k4 (fun hb => ?_) fun hb => ?_) <;> (try rw [List.length_map] at hb) <;> (try (exfalso; omega; done)) | refine k5 (fun hb => ?_) fun hb => ?_ | refine k6 (fun hb => ?_) fun hb => ?_ | refine Both.intro ?_ ?_ | refine And.intro rfl ?_ | refine s1 ?_ | refine s2 ?_ | refine s3 ?_ | refine s4 nm ?_ | refine s5 nm nm ?_ | refine s6 nm nm ?_ | refine s7 ?_ | refine And.intro (by assumption) ?_ | refine s8 nm ?_ | refine s9 nm nm ?_ | refine sa nm ?_ | refine ⟨_, _, getMapN nm, rfl, ?_⟩ | refine .inl ⟨_, getMapN nm, rfl, rfl, ?_⟩ | refine .inl ⟨rfl, rfl, bd, rfl, rfl, ?_⟩ | refine ⟨_, singles_flat _ _, ?_⟩ | refine ⟨_, singles_map _ _, ?_⟩ | refine And.intro (onesB_flat _ _ fun _ => rfl) ?_ | refine And.intro (onesB_map _ _ fun _ => rfl) ?_ | refine .inr ⟨rfl, rfl, rfl, ?_⟩ | refine ⟨⟨⟨onesB_flat _ _ fun _ => rfl, fl⟩, trivial⟩, ?_⟩ | refine And.intro bd ?_ | refine ⟨_, set_map _ _ _, ?_⟩ | refine ⟨_, set_rfl _ _ _, ?_⟩ | refine ⟨_, singles_rfl _, ?_⟩ | fail)
    refine ⟨by simp [zeroText, hk2, hg4, hc4]; omega, by simp [zeroText, hk2, hg4, hc4]; omega, ?_⟩
    repeat' ((try conv => whnf); first | refine k1 (fun hb => ?_) fun hb => ?_ | refine k2 (fun hb => ?_) fun hb => ?_ | (first | refine k3 (fun hb => ?_) fun hb => ?_ | refine k4 (fun hb => ?_) fun hb => ?_) <;> (try rw [List.length_map] at hb) <;> (try (exfalso; omega; done)) | refine k5 (fun hb => ?_) fun hb => ?_ | refine k6 (fun hb => ?_) fun hb => ?_ | refine Both.intro ?_ ?_ | refine And.intro rfl ?_ | refine s1 ?_ | refine s2 ?_ | refine s3 ?_ | refine s4 nm ?_ | refine s5 nm nm ?_ | refine s6 nm nm ?_ | refine s7 ?_ | refine And.intro (by assumption) ?_ | refine s8 nm ?_ | refine s9 nm nm ?_ | refine sa nm ?_ | refine ⟨_, _, getMapN nm, rfl, ?_⟩ | refine .inl ⟨_, getMapN nm, rfl, rfl, ?_⟩ | refine .inl ⟨rfl, rfl, bd, rfl, rfl, ?_⟩ | refine ⟨_, singles_flat _ _, ?_⟩ | refine ⟨_, singles_map _ _, ?_⟩ | refine And.intro (onesB_flat _ _ fun _ => rfl) ?_ | refine And.intro (onesB_map _ _ fun _ => rfl) ?_ | refine .inr ⟨rfl, rfl, rfl, ?_⟩ | refine ⟨⟨⟨onesB_flat _ _ fun _ => rfl, fl⟩, trivial⟩, ?_⟩ | refine And.intro bd ?_ | refine ⟨_, set_map _ _ _, ?_⟩ | refine ⟨_, set_rfl _ _ _, ?_⟩ | refine ⟨_, singles_rfl _, ?_⟩ | fail)
    rw [secOf_eq g k false true p hp, ← hCR]
    refine sub_sl ?_
    simp [bodyOf, numTail, n4, kindB, zeroText]
    rw [List.take_of_length_le (by simp <;> omega), List.take_of_length_le (by simp <;> omega)]
    try simp
  · refine ⟨1, by decide, ?_⟩
    repeat' ((try conv => whnf); first | refine k1 (fun hb => ?_) fun hb => ?_ | refine k2 (fun hb => ?_) fun hb => ?_ | (first | refine k3 (fun hb => ?_) fun hb => ?_ | refine k4 (fun hb => ?_) fun hb => ?_) <;> (try rw [List.length_map] at hb) <;> (try (exfalso; omega; done)) | refine k5 (fun hb => ?_) fun hb => ?_ | refine k6 (fun hb => ?_) fun hb => ?_ | refine Both.intro ?_ ?_ | refine And.intro rfl ?_ | refine s1 ?_ | refine s2 ?_ | refine s3 ?_ | refine s4 nm ?_ | refine s5 nm nm ?_ | refine s6 nm nm ?_ | refine s7 ?_ | refine And.intro (by assumption) ?_ | refine s8 nm ?_ | refine s9 nm nm ?_ | refine sa nm ?_ | refine ⟨_, _, getMapN nm, rfl, ?_⟩ | refine .inl ⟨_, getMapN nm, rfl, rfl, ?_⟩ | refine .inl ⟨rfl, rfl, bd, rfl, rfl, ?_⟩ | refine ⟨_, singles_flat _ _, ?_⟩ | refine ⟨_, singles_map _ _, ?_⟩ | refine And.intro (onesB_flat _ _ fun _ => rfl) ?_ | refine And.intro (onesB_map _ _ fun _ => rfl) ?_ | refine .inr ⟨rfl, rfl, rfl, ?_⟩ | refine ⟨⟨⟨onesB_flat _ _ fun _ => rfl, fl⟩, trivial⟩, ?_⟩ | refine And.intro bd ?_ | refine ⟨_, set_map _ _ _, ?_⟩ | refine ⟨_, set_rfl _ _ _, ?_⟩ | refine ⟨_, singles_rfl _, ?_⟩ | fail)
    refine ⟨(k : Int), by rw [wrap_u64]; omega, ?_⟩
    repeat' ((try conv => whnf); first | refine k1 (fun hb => ?_) fun hb => ?_ | refine k2 (fun hb => ?_) fun hb => ?_ | (first | refine k3 (fun hb => ?_) fun hb => ?_ | refine k4 (fun hb => ?_) fun hb => ?_) <;> (try rw [List.length_map] at hb) <;> (try (exfalso; omega; done)) | refine k5 (fun hb => ?_) fun hb => ?_ | refine k6 (fun hb => ?_) fun hb => ?_ | refine Both.intro ?_ ?_ | refine And.intro rfl ?_ | refine s1 ?_ | refine s2 ?_ | refine s3 ?_ | refine s4 nm ?_ | refine s5 nm nm ?_ | refine s6 nm nm ?_ | refine s7 ?_ | refine And.intro (by assumption) ?_ | refine s8 nm ?_ | refine s9 nm nm ?_ | refine sa nm ?_ | refine ⟨_, _, getMapN nm, rfl, ?_⟩ | refine .inl ⟨_, getMapN nm, rfl, rfl, ?_⟩ | refine .inl ⟨rfl, rfl, bd, rfl, rfl, ?_⟩ | refine ⟨_, singles_flat _ _, ?_⟩ | refine ⟨_, singles_map _ _, ?_⟩ | refine And.intro (onesB_flat _ _ fun _ => rfl) ?_ | refine And.intro (onesB_map _ _ fun _ => rfl) ?_ | refine .inr ⟨rfl, rfl, rfl, ?_⟩ | refine ⟨⟨⟨onesB_flat _ _ fun _ => rfl, fl⟩, trivial⟩, ?_⟩ | refine And.intro bd ?_ | refine ⟨_, set_map _ _ _, ?_⟩ | refine ⟨_, set_rfl _ _ _, ?_⟩ | refine ⟨_, singles_rfl _, ?_⟩ | fail)
    refine .inr ⟨[(8, 22)], [.pure (.val (.int .u64 k)), .int (2 : Nat)], [], [], [], 1, _, numeral_own k 2 (by omega) (by omega) (by omega), ⟨Or.inl rfl, Or.inl rfl, trivial⟩, trivial, ?_⟩
    repeat' ((try conv => whnf); first | refine k1 (fun hb => ?_) fun hb => ?_ | refine k2 (fun hb => ?_) fun hb => ?_ | (first | refine k3 (fun hb => ?_) fun hb => ?_ | refine k4 (fun hb => ?_) fun hb => ?_) <;> (try rw [List.length_map] at hb) <;> (try (exfalso; omega; done)) | refine k5 (fun hb => ?_) fun hb => ?_ | refine k6 (fun hb => ?_) fun hb => ?_ | refine Both.intro ?_ ?_ | refine And.intro rfl ?_ | refine s1 ?_ | refine s2 ?_ | refine s3 ?_ | refine s4 nm ?_ | refine s5 nm nm ?_ | refine s6 nm nm ?_ | refine s7 ?_ | refine And.intro (by assumption) ?_ | refine s8 nm ?_ | refine s9 nm nm ?_ | refine sa nm ?_ | refine ⟨_, _, getMapN nm, rfl, ?_⟩ | refine .inl ⟨_, getMapN nm, rfl, rfl, ?_⟩ | refine .inl ⟨rfl, rfl, bd, rfl, rfl, ?_⟩ | refine ⟨_, singles_flat _ _, ?_⟩ | refine ⟨_, singles_map _ _, ?_⟩ | refine And.intro (onesB_flat _ _ fun _ => rfl) ?_ | refine And.intro (onesB_map _ _ fun _ => rfl) ?_ | refine .inr ⟨rfl, rfl, rfl, ?_⟩ | refine ⟨⟨⟨onesB_flat _ _ fun _ => rfl, fl⟩, trivial⟩, ?_⟩ | refine And.intro bd ?_ | refine ⟨_, set_map _ _ _, ?_⟩ | refine ⟨_, set_rfl _ _ _, ?_⟩ | refine ⟨_, singles_rfl _, ?_⟩ | fail)
    refine ⟨((UInt8.ofNat p.length).toNat : Int), by rw [List.length_map, byte_wrap], ?_⟩
    repeat' ((try conv => whnf); first | refine k1 (fun hb => ?_) fun hb => ?_ | refine k2 (fun hb => ?_) fun hb => ?_ | (first | refine k3 (fun hb => ?_) fun hb => ?_ | refine k4 (fun hb => ?_) fun hb => ?_) <;> (try rw [List.length_map] at hb) <;> (try (exfalso; omega; done)) | refine k5 (fun hb => ?_) fun hb => ?_ | refine k6 (fun hb => ?_) fun hb => ?_ | refine Both.intro ?_ ?_ | refine And.intro rfl ?_ | refine s1 ?_ | refine s2 ?_ | refine s3 ?_ | refine s4 nm ?_ | refine s5 nm nm ?_ | refine s6 nm nm ?_ | refine s7 ?_ | refine And.intro (by assumption) ?_ | refine s8 nm ?_ | refine s9 nm nm ?_ | refine sa nm ?_ | refine ⟨_, _, getMapN nm, rfl, ?_⟩ | refine .inl ⟨_, getMapN nm, rfl, rfl, ?_⟩ | refine .inl ⟨rfl, rfl, bd, rfl, rfl, ?_⟩ | refine ⟨_, singles_flat _ _, ?_⟩ | refine ⟨_, singles_map _ _, ?_⟩ | refine And.intro (onesB_flat _ _ fun _ => rfl) ?_ | refine And.intro (onesB_map _ _ fun _ => rfl) ?_ | refine .inr ⟨rfl, rfl, rfl, ?_⟩ | refine ⟨⟨⟨onesB_flat _ _ fun _ => rfl, fl⟩, trivial⟩, ?_⟩ | refine And.intro bd ?_ | refine ⟨_, set_map _ _ _, ?_⟩ | refine ⟨_, set_rfl _ _ _, ?_⟩ | refine ⟨_, singles_rfl _, ?_⟩ | fail)
    refine ⟨by simp [zeroText, hk2]; omega, by simp [zeroText, hk2]; omega, ?_⟩
    repeat' ((try conv => whnf); first | refine k1 (fun hb => ?_) fun hb => ?_ | refine k2 (fun hb => ?_) fun hb => ?_ | (first | refine k3 (fun hb => ?_) fun hb => ?_ | refine k4 (fun hb => ?_) fun hb => ?_) <;> (try rw [List.length_map] at hb) <;> (try (exfalso; omega; done)) | refine k5 (fun hb => ?_) fun hb => ?_ | refine k6 (fun hb => ?_) fun hb => ?_ | refine Both.intro ?_ ?_ | refine And.intro rfl ?_ | refine s1 ?_ | refine s2 ?_ | refine s3 ?_ | refine s4 nm ?_ | refine s5 nm nm ?_ | refine s6 nm nm ?_ | refine s7 ?_ | refine And.intro (by assumption) ?_ | refine s8 nm ?_ | refine s9 nm nm ?_ | refine sa nm ?_ | refine ⟨_, _, getMapN nm, rfl, ?_⟩ | refine .inl ⟨_, getMapN nm, rfl, rfl, ?_⟩ | refine .inl ⟨rfl, rfl, bd, rfl, rfl, ?_⟩ | refine ⟨_, singles_flat _ _, ?_⟩ | refine ⟨_, singles_map _ _, ?_⟩ | refine And.intro (onesB_flat _ _ fun _ => rfl) ?_ | refine And.intro (onesB_map _ _ fun _ => rfl) ?_ | refine .inr ⟨rfl, rfl, rfl, ?_⟩ | refine ⟨⟨⟨onesB_flat _ _ fun _ => rfl, fl⟩, trivial⟩, ?_⟩ | refine And.intro bd ?_ | refine ⟨_, set_map _ _ _, ?_⟩ | refine ⟨_, set_rfl _ _ _, ?_⟩ | refine ⟨_, singles_rfl _, ?_⟩ | fail)
    refine .inr ⟨[(8, 38)], [.pure (.val (.int .u64 g)), .int (4 : Nat)], [], [], [], 1, _, numeral_own g 4 (by omega) (by omega) (by omega), ⟨Or.inl rfl, Or.inl rfl, trivial⟩, trivial, ?_⟩
    repeat' ((try conv => whnf); first | refine k1 (fun hb => ?_) fun hb => ?_ | refine k2 (fun hb => ?_) fun hb => ?_ | (first | refine k3 (fun hb => ?_) fun hb => ?_ | refine k4 (fun hb => ?_) fun hb => ?_) <;> (try rw [List.length_map] at hb) <;> (try (exfalso; omega; done)) | refine k5 (fun hb => ?_) fun hb => ?_ | refine k6 (fun hb => ?_) fun hb => ?_ | refine Both.intro ?_ ?_ | refine And.intro rfl ?_ | refine s1 ?_ | refine s2 ?_ | refine s3 ?_ | refine s4 nm ?_ | refine s5 nm nm ?_ | refine s6 nm nm ?_ | refine s7 ?_ | refine And.intro (by assumption) ?_ | refine s8 nm ?_ | refine s9 nm nm ?_ | refine sa nm ?_ | refine ⟨_, _, getMapN nm, rfl, ?_⟩ | refine .inl ⟨_, getMapN nm, rfl, rfl, ?_⟩ | refine .inl ⟨rfl, rfl, bd, rfl, rfl, ?_⟩ | refine ⟨_, singles_flat _ _, ?_⟩ | refine ⟨_, singles_map _ _, ?_⟩ | refine And.intro (onesB_flat _ _ fun _ => rfl) ?_ | refine And.intro (onesB_map _ _ fun _ => rfl) ?_ | refine .inr ⟨rfl, rfl, rfl, ?_⟩ | refine ⟨⟨⟨onesB_flat _ _ fun _ => rfl, fl⟩, trivial⟩, ?_⟩ | refine And.intro bd ?_ | refine ⟨_, set_map _ _ _, ?_⟩ | refine ⟨_, set_rfl _ _ _, ?_⟩ | refine ⟨_, singles_rfl _, ?_⟩ | fail)
    have qB := rchecksum_spec (bodyOf k true false p) (by rw [bodyOf_len k _ _ p hp]; omega)
    have hCl := crc_lt (bodyOf k true false p)
    obtain ⟨CR, hCR⟩ : ∃ CR, CR = crc (bodyOf k true false p) := ⟨_, rfl⟩
    rw [← hCR] at qB hCl
    have hc4 : (numTail CR 4).length = 4 := numTail_len CR 4
    refine .inl ⟨_, qB.args ⟨sub_sl (by simp [bodyOf, numTail, kindB, zeroText]; exact List.take_of_length_le (by simp; omega)), trivial⟩, ?_⟩
    repeat' ((try conv => whnf); first | refine k1 (fun hb => ?_) fun hb => ?_ | refine k2 (fun hb => ?_) fun hb => ?_ | (first | refine k3 (fun hb => ?_) fun hb => ?_ | refine k4 (fun hb => ?_) fun hb => ?_) <;> (try rw [List.length_map] at hb) <;> (try (exfalso; omega; done)) | refine k5 (fun hb => ?_) fun hb => ?_ | refine k6 (fun hb => ?_) fun hb => ?_ | refine Both.intro ?_ ?_ | refine And.intro rfl ?_ | refine s1 ?_ | refine s2 ?_ | refine s3 ?_ | refine s4 nm ?_ | refine s5 nm nm ?_ | refine s6 nm nm ?_ | refine s7 ?_ | refine And.intro (by assumption) ?_ | refine s8 nm ?_ | refine s9 nm nm ?_ | refine sa nm ?_ | refine ⟨_, _, getMapN nm, rfl, ?_⟩ | refine .inl ⟨_, getMapN nm, rfl, rfl, ?_⟩ | refine .inl ⟨rfl, rfl, bd, rfl, rfl, ?_⟩ | refine ⟨_, singles_flat _ _, ?_⟩ | refine ⟨_, singles_map _ _, ?_⟩ | refine And.intro (onesB_flat _ _ fun _ => rfl) ?_ | refine And.intro (onesB_map _ _ fun _ => rfl) ?_ | refine .inr ⟨rfl, rfl, rfl, ?_⟩ | refine ⟨⟨⟨onesB_flat _ _ fun _ => rfl, fl⟩, trivial⟩, ?_⟩ | refine And.intro bd ?_ | refine ⟨_, set_map _ _ _, ?_⟩ | refine ⟨_, set_rfl _ _ _, ?_⟩ | refine ⟨_, singles_rfl _, ?_⟩ | fail)
    refine ⟨(CR : Int), by rw [wrap_u64]; omega, ?_⟩
    repeat' ((try conv => whnf); first | refine k1 (fun hb => ?_) fun hb => ?_ | refine k2 (fun hb => ?_) fun hb => ?_ | (first | refine k3 (fun hb => ?_) fun hb => ?_ | refine k4 (fun hb => ?_) fun hb => ?_) <;> (try rw [List.length_map] at hb) <;> (try (exfalso; omega; done)) | refine k5 (fun hb => ?_) fun hb => ?_ | refine k6 (fun hb => ?_) fun hb => ?_ | refine Both.intro ?_ ?_ | refine And.intro rfl ?_ | refine s1 ?_ | refine s2 ?_ | refine s3 ?_ | refine s4 nm ?_ | refine s5 nm nm ?_ | refine s6 nm nm ?_ | refine s7 ?_ | refine And.intro (by assumption) ?_ | refine s8 nm ?_ | refine s9 nm nm ?_ | refine sa nm ?_ | refine ⟨_, _, getMapN nm, rfl, ?_⟩ | refine .inl ⟨_, getMapN nm, rfl, rfl, ?_⟩ | refine .inl ⟨rfl, rfl, bd, rfl, rfl, ?_⟩ | refine ⟨_, singles_flat _ _, ?_⟩ | refine ⟨_, singles_map _ _, ?_⟩ | refine And.intro (onesB_flat _ _ fun _ => rfl) ?_ | refine And.intro (onesB_map _ _ fun _ => rfl) ?_ | refine .inr ⟨rfl, rfl, rfl, ?_⟩ | refine ⟨⟨⟨onesB_flat _ _ fun _ => rfl, fl⟩, trivial⟩, ?_⟩ | refine And.intro bd ?_ | refine ⟨_, set_map _ _ _, ?_⟩ | refine ⟨_, set_rfl _ _ _, ?_⟩ | refine ⟨_, singles_rfl _, ?_⟩ | fail)
    refine .inr ⟨[(8, 42)], [.pure (.val (.int .u64 CR)), .int (4 : Nat)], [], [], [], 1, _, numeral_own CR 4 (by omega) (by omega) (by omega), ⟨Or.inl rfl, Or.inl rfl, trivial⟩, trivial, ?_⟩
    repeat' ((try conv => whnf); first | refine k1 (fun hb => ?_) fun hb => ?_ | refine k2 (fun hb => ?_) fun hb => ?_ | (first | refine k3 (fun hb => ?_) fun hb => ?_ | refine k4 (fun hb => ?_) fun hb => ?_) <;> (try rw [List.length_map] at hb) <;> (try (exfalso; omega; done)) | refine k5 (fun hb => ?_) fun hb => ?_ | refine k6 (fun hb => ?_) fun hb => ?_ | refine Both.intro ?_ ?_ | refine And.intro rfl ?_ | refine s1 ?_ | refine s2 ?_ | refine s3 ?_ | refine s4 nm ?_ | refine s5 nm nm ?_ | refine s6 nm nm ?_ | refine s7 ?_ | refine And.intro (by assumption) ?_ | refine s8 nm ?_ | refine s9 nm nm ?_ | refine sa nm ?_ | refine ⟨_, _, getMapN nm, rfl, ?_⟩ | refine .inl ⟨_, getMapN nm, rfl, rfl, ?_⟩ | refine .inl ⟨rfl, rfl, bd, rfl, rfl, ?_⟩ | refine ⟨_, singles_flat _ _, ?_⟩ | refine ⟨_, singles_map _ _, ?_⟩ | refine And.intro (onesB_flat _ _ fun _ => rfl) ?_ | refine And.intro (onesB_map _ _ fun _ => rfl) ?_ | refine .inr ⟨rfl, rfl, rfl, ?_⟩ | refine ⟨⟨⟨onesB_flat _ _ fun _ => rfl, fl⟩, trivial⟩, ?_⟩ | refine And.intro bd ?_ | refine ⟨_, set_map _ _ _, ?_⟩ | refine ⟨_, set_rfl _ _ _, ?_⟩ | refine ⟨_, singles_rfl _, ?_⟩ | fail)
    refine ⟨by simp [zeroText, hk2, hg4, hc4]; omega, by simp [zeroText, hk2, hg4, hc4]; omega, ?_⟩
    repeat' ((try conv => whnf); first | refine k1 (fun hb => ?_) fun hb => ?_ | refine k2 (fun hb => ?_) fun hb => ?_ | (first | refine k3 (fun hb => ?_) fun hb => ?_ | refine k4 (fun hb => ?_) fun hb => ?_) <;> (try rw [List.length_map] at hb) <;> (try (exfalso; omega; done)) | refine k5 (fun hb => ?_) fun hb => ?_ | refine k6 (fun hb => ?_) fun hb => ?_ | refine Both.intro ?_ ?_ | refine And.intro rfl ?_ | refine s1 ?_ | refine s2 ?_ | refine s3 ?_ | refine s4 nm ?_ | refine s5 nm nm ?_ | refine s6 nm nm ?_ | refine s7 ?_ | refine And.intro (by assumption) ?_ | refine s8 nm ?_ | refine s9 nm nm ?_ | refine sa nm ?_ | refine ⟨_, _, getMapN nm, rfl, ?_⟩ | refine .inl ⟨_, getMapN nm, rfl, rfl, ?_⟩ | refine .inl ⟨rfl, rfl, bd, rfl, rfl, ?_⟩ | refine ⟨_, singles_flat _ _, ?_⟩ | refine ⟨_, singles_map _ _, ?_⟩ | refine And.intro (onesB_flat _ _ fun _ => rfl) ?_ | refine And.intro (onesB_map _ _ fun _ => rfl) ?_ | refine .inr ⟨rfl, rfl, rfl, ?_⟩ | refine ⟨⟨⟨onesB_flat _ _ fun _ => rfl, fl⟩, trivial⟩, ?_⟩ | refine And.intro bd ?_ | refine ⟨_, set_map _ _ _, ?_⟩ | refine ⟨_, set_rfl _ _ _, ?_⟩ | refine ⟨_, singles_rfl _, ?_⟩ | fail)
    refine .inr ⟨[(8, 48)], [.pure (.val (.int .u64 g)), .int (4 : Nat)], [], [], [], 1, _, numeral_own g 4 (by omega) (by omega) (by omega), ⟨Or.inl rfl, Or.inl rfl, trivial⟩, trivial, ?_⟩
    repeat' ((try conv => whnf); first | refine k1 (fun hb => ?_) fun hb => ?_ | refine k2 (fun hb => ?_) fun hb => ?_ | (first | refine k3 (fun hb => ?_) fun hb => ?_ | refine k4 (fun hb => ?_) fun hb => ?_) <;> (try rw [List.length_map] at hb) <;> (try (exfalso; omega; done)) | refine k5 (fun hb => ?_) fun hb => ?_ | refine k6 (fun hb => ?_) fun hb => ?_ | refine Both.intro ?_ ?_ | refine And.intro rfl ?_ | refine s1 ?_ | refine s2 ?_ | refine s3 ?_ | refine s4 nm ?_ | refine s5 nm nm ?_ | refine s6 nm nm ?_ | refine s7 ?_ | refine And.intro (by assumption) ?_ | refine s8 nm ?_ | refine s9 nm nm ?_ | refine sa nm ?_ | refine ⟨_, _, getMapN nm, rfl, ?_⟩ | refine .inl ⟨_, getMapN nm, rfl, rfl, ?_⟩ | refine .inl ⟨rfl, rfl, bd, rfl, rfl, ?_⟩ | refine ⟨_, singles_flat _ _, ?_⟩ | refine ⟨_, singles_map _ _, ?_⟩ | refine And.intro (onesB_flat _ _ fun _ => rfl) ?_ | refine And.intro (onesB_map _ _ fun _ => rfl) ?_ | refine .inr ⟨rfl, rfl, rfl, ?_⟩ | refine ⟨⟨⟨onesB_flat _ _ fun _ => rfl, fl⟩, trivial⟩, ?_⟩ | refine And.intro bd ?_ | refine ⟨_, set_map _ _ _, ?_⟩ | refine ⟨_, set_rfl _ _ _, ?_⟩ | refine ⟨_, singles_rfl _, ?_⟩ | fail)
    refine ⟨by simp [zeroText, hk2, hg4, hc4]; omega, by simp [zeroText, hk2, hg4, hc4]; omega, ?_⟩
    repeat' ((try conv => whnf); first | refine k1 (fun hb => ?_) fun hb => ?_ | refine k2 (fun hb => ?_) fun hb => ?_ | (first | refine k3 (fun hb => ?_) fun hb => ?_ | refine k4 (fun hb => ?_) fun hb => ?_) <;> (try rw [List.length_map] at hb) <;> (try (exfalso; omega; done)) | refine k5 (fun hb => ?_) fun hb => ?_ | refine k6 (fun hb => ?_) fun hb => ?_ | refine Both.intro ?_ ?_ | refine And.intro rfl ?_ | refine s1 ?_ | refine s2 ?_ | refine s3 ?_ | refine s4 nm ?_ | refine s5 nm nm ?_ | refine s6 nm nm ?_ | refine s7 ?_ | refine And.intro (by assumption) ?_ | refine s8 nm ?_ | refine s9 nm nm ?_ | refine sa nm ?_ | refine ⟨_, _, getMapN nm, rfl, ?_⟩ | refine .inl ⟨_, getMapN nm, rfl, rfl, ?_⟩ | refine .inl ⟨rfl, rfl, bd, rfl, rfl, ?_⟩ | refine ⟨_, singles_flat _ _, ?_⟩ | refine ⟨_, singles_map _ _, ?_⟩ | refine And.intro (onesB_flat _ _ fun _ => rfl) ?_ | refine And.intro (onesB_map _ _ fun _ => rfl) ?_ | refine .inr ⟨rfl, rfl, rfl, ?_⟩ | refine ⟨⟨⟨onesB_flat _ _ fun _ => rfl, fl⟩, trivial⟩, ?_⟩ | refine And.intro bd ?_ | refine ⟨_, set_map _ _ _, ?_⟩ | refine ⟨_, set_rfl _ _ _, ?_⟩ | refine ⟨_, singles_rfl _, ?_⟩ | fail)
    rw [secOf_eq g k true false p hp, ← hCR]
    refine sub_sl ?_
    simp [bodyOf, numTail, n4, kindB, zeroText]
    rw [List.take_of_length_le (by simp <;> omega), List.take_of_length_le (by simp <;> omega)]
    try simp
  · refine ⟨1, by decide, ?_⟩
    repeat' ((try conv => whnf); first | refine k1 (fun hb => ?_) fun hb => ?_ | refine k2 (fun hb => ?_) fun hb => ?_ | (first | refine k3 (fun hb => ?_) fun hb => ?_ | refine k4 (fun hb => ?_) fun hb => ?_) <;> (try rw [List.length_map] at hb) <;> (try (exfalso; omega; done)) | refine k5 (fun hb => ?_) fun hb => ?_ | refine k6 (fun hb => ?_) fun hb => ?_ | refine Both.intro ?_ ?_ | refine And.intro rfl ?_ | refine s1 ?_ | refine s2 ?_ | refine s3 ?_ | refine s4 nm ?_ | refine s5 nm nm ?_ | refine s6 nm nm ?_ | refine s7 ?_ | refine And.intro (by assumption) ?_ | refine s8 nm ?_ | refine s9 nm nm ?_ | refine sa nm ?_ | refine ⟨_, _, getMapN nm, rfl, ?_⟩ | refine .inl ⟨_, getMapN nm, rfl, rfl, ?_⟩ | refine .inl ⟨rfl, rfl, bd, rfl, rfl, ?_⟩ | refine ⟨_, singles_flat _ _, ?_⟩ | refine ⟨_, singles_map _ _, ?_⟩ | refine And.intro (onesB_flat _ _ fun _ => rfl) ?_ | refine And.intro (onesB_map _ _ fun _ => rfl) ?_ | refine .inr ⟨rfl, rfl, rfl, ?_⟩ | refine ⟨⟨⟨onesB_flat _ _ fun _ => rfl, fl⟩, trivial⟩, ?_⟩ | refine And.intro bd ?_ | refine ⟨_, set_map _ _ _, ?_⟩ | refine ⟨_, set_rfl _ _ _, ?_⟩ | refine ⟨_, singles_rfl _, ?_⟩ | fail)
    refine ⟨3, by decide, ?_⟩
    repeat' ((try conv => whnf); first | refine k1 (fun hb => ?_) fun hb => ?_ | refine k2 (fun hb => ?_) fun hb => ?_ | (first | refine k3 (fun hb => ?_) fun hb => ?_ | refine k4 (fun hb => ?_) fun hb => ?_) <;> (try rw [List.length_map] at hb) <;> (try (exfalso; omega; done)) | refine k5 (fun hb => ?_) fun hb => ?_ | refine k6 (fun hb => ?_) fun hb => ?_ | refine Both.intro ?_ ?_ | refine And.intro rfl ?_ | refine s1 ?_ | refine s2 ?_ | refine s3 ?_ | refine s4 nm ?_ | refine s5 nm nm ?_ | refine s6 nm nm ?_ | refine s7 ?_ | refine And.intro (by assumption) ?_ | refine s8 nm ?_ | refine s9 nm nm ?_ | refine sa nm ?_ | refine ⟨_, _, getMapN nm, rfl, ?_⟩ | refine .inl ⟨_, getMapN nm, rfl, rfl, ?_⟩ | refine .inl ⟨rfl, rfl, bd, rfl, rfl, ?_⟩ | refine ⟨_, singles_flat _ _, ?_⟩ | refine ⟨_, singles_map _ _, ?_⟩ | refine And.intro (onesB_flat _ _ fun _ => rfl) ?_ | refine And.intro (onesB_map _ _ fun _ => rfl) ?_ | refine .inr ⟨rfl, rfl, rfl, ?_⟩ | refine ⟨⟨⟨onesB_flat _ _ fun _ => rfl, fl⟩, trivial⟩, ?_⟩ | refine And.intro bd ?_ | refine ⟨_, set_map _ _ _, ?_⟩ | refine ⟨_, set_rfl _ _ _, ?_⟩ | refine ⟨_, singles_rfl _, ?_⟩ | fail)
    refine ⟨(k : Int), by rw [wrap_u64]; omega, ?_⟩
    repeat' ((try conv => whnf); first | refine k1 (fun hb => ?_) fun hb => ?_ | refine k2 (fun hb => ?_) fun hb => ?_ | (first | refine k3 (fun hb => ?_) fun hb => ?_ | refine k4 (fun hb => ?_) fun hb => ?_) <;> (try rw [List.length_map] at hb) <;> (try (exfalso; omega; done)) | refine k5 (fun hb => ?_) fun hb => ?_ | refine k6 (fun hb => ?_) fun hb => ?_ | refine Both.intro ?_ ?_ | refine And.intro rfl ?_ | refine s1 ?_ | refine s2 ?_ | refine s3 ?_ | refine s4 nm ?_ | refine s5 nm nm ?_ | refine s6 nm nm ?_ | refine s7 ?_ | refine And.intro (by assumption) ?_ | refine s8 nm ?_ | refine s9 nm nm ?_ | refine sa nm ?_ | refine ⟨_, _, getMapN nm, rfl, ?_⟩ | refine .inl ⟨_, getMapN nm, rfl, rfl, ?_⟩ | refine .inl ⟨rfl, rfl, bd, rfl, rfl, ?_⟩ | refine ⟨_, singles_flat _ _, ?_⟩ | refine ⟨_, singles_map _ _, ?_⟩ | refine And.intro (onesB_flat _ _ fun _ => rfl) ?_ | refine And.intro (onesB_map _ _ fun _ => rfl) ?_ | refine .inr ⟨rfl, rfl, rfl, ?_⟩ | refine ⟨⟨⟨onesB_flat _ _ fun _ => rfl, fl⟩, trivial⟩, ?_⟩ | refine And.intro bd ?_ | refine ⟨_, set_map _ _ _, ?_⟩ | refine ⟨_, set_rfl _ _ _, ?_⟩ | refine ⟨_, singles_rfl _, ?_⟩ | fail)
    refine .inr ⟨[(8, 22)], [.pure (.val (.int .u64 k)), .int (2 : Nat)], [], [], [], 1, _, numeral_own k 2 (by omega) (by omega) (by omega), ⟨Or.inl rfl, Or.inl rfl, trivial⟩, trivial, ?_⟩
    repeat' ((try conv => whnf); first | refine k1 (fun hb => ?_) fun hb => ?_ | refine k2 (fun hb => ?_) fun hb => ?_ | (first | refine k3 (fun hb => ?_) fun hb => ?_ | refine k4 (fun hb => ?_) fun hb => ?_) <;> (try rw [List.length_map] at hb) <;> (try (exfalso; omega; done)) | refine k5 (fun hb => ?_) fun hb => ?_ | refine k6 (fun hb => ?_) fun hb => ?_ | refine Both.intro ?_ ?_ | refine And.intro rfl ?_ | refine s1 ?_ | refine s2 ?_ | refine s3 ?_ | refine s4 nm ?_ | refine s5 nm nm ?_ | refine s6 nm nm ?_ | refine s7 ?_ | refine And.intro (by assumption) ?_ | refine s8 nm ?_ | refine s9 nm nm ?_ | refine sa nm ?_ | refine ⟨_, _, getMapN nm, rfl, ?_⟩ | refine .inl ⟨_, getMapN nm, rfl, rfl, ?_⟩ | refine .inl ⟨rfl, rfl, bd, rfl, rfl, ?_⟩ | refine ⟨_, singles_flat _ _, ?_⟩ | refine ⟨_, singles_map _ _, ?_⟩ | refine And.intro (onesB_flat _ _ fun _ => rfl) ?_ | refine And.intro (onesB_map _ _ fun _ => rfl) ?_ | refine .inr ⟨rfl, rfl, rfl, ?_⟩ | refine ⟨⟨⟨onesB_flat _ _ fun _ => rfl, fl⟩, trivial⟩, ?_⟩ | refine And.intro bd ?_ | refine ⟨_, set_map _ _ _, ?_⟩ | refine ⟨_, set_rfl _ _ _, ?_⟩ | refine ⟨_, singles_rfl _, ?_⟩ | fail)
    refine ⟨((UInt8.ofNat p.length).toNat : Int), by rw [List.length_map, byte_wrap], ?_⟩
    repeat' ((try conv => whnf); first | refine k1 (fun hb => ?_) fun hb => ?_ | refine k2 (fun hb => ?_) fun hb => ?_ | (first | refine k3 (fun hb => ?_) fun hb => ?_ | refine k4 (fun hb => ?_) fun hb => ?_) <;> (try rw [List.length_map] at hb) <;> (try (exfalso; omega; done)) | refine k5 (fun hb => ?_) fun hb => ?_ | refine k6 (fun hb => ?_) fun hb => ?_ | refine Both.intro ?_ ?_ | refine And.intro rfl ?_ | refine s1 ?_ | refine s2 ?_ | refine s3 ?_ | refine s4 nm ?_ | refine s5 nm nm ?_ | refine s6 nm nm ?_ | refine s7 ?_ | refine And.intro (by assumption) ?_ | refine s8 nm ?_ | refine s9 nm nm ?_ | refine sa nm ?_ | refine ⟨_, _, getMapN nm, rfl, ?_⟩ | refine .inl ⟨_, getMapN nm, rfl, rfl, ?_⟩ | refine .inl ⟨rfl, rfl, bd, rfl, rfl, ?_⟩ | refine ⟨_, singles_flat _ _, ?_⟩ | refine ⟨_, singles_map _ _, ?_⟩ | refine And.intro (onesB_flat _ _ fun _ => rfl) ?_ | refine And.intro (onesB_map _ _ fun _ => rfl) ?_ | refine .inr ⟨rfl, rfl, rfl, ?_⟩ | refine ⟨⟨⟨onesB_flat _ _ fun _ => rfl, fl⟩, trivial⟩, ?_⟩ | refine And.intro bd ?_ | refine ⟨_, set_map _ _ _, ?_⟩ | refine ⟨_, set_rfl _ _ _, ?_⟩ | refine ⟨_, singles_rfl _, ?_⟩ | fail)
    refine ⟨by simp [zeroText, hk2]; omega, by simp [zeroText, hk2]; omega, ?_⟩
    repeat' ((try conv => whnf); first | refine k1 (fun hb => ?_) fun hb => ?_ | refine k2 (fun hb => ?_) fun hb => ?_ | (first | refine k3 (fun hb => ?_) fun hb => ?_ | refine k4 (fun hb => ?_) fun hb => ?_) <;> (try rw [List.length_map] at hb) <;> (try (exfalso; omega; done)) | refine k5 (fun hb => ?_) fun hb => ?_ | refine k6 (fun hb => ?_) fun hb => ?_ | refine Both.intro ?_ ?_ | refine And.intro rfl ?_ | refine s1 ?_ | refine s2 ?_ | refine s3 ?_ | refine s4 nm ?_ | refine s5 nm nm ?_ | refine s6 nm nm ?_ | refine s7 ?_ | refine And.intro (by assumption) ?_ | refine s8 nm ?_ | refine s9 nm nm ?_ | refine sa nm ?_ | refine ⟨_, _, getMapN nm, rfl, ?_⟩ | refine .inl ⟨_, getMapN nm, rfl, rfl, ?_⟩ | refine .inl ⟨rfl, rfl, bd, rfl, rfl, ?_⟩ | refine ⟨_, singles_flat _ _, ?_⟩ | refine ⟨_, singles_map _ _, ?_⟩ | refine And.intro (onesB_flat _ _ fun _ => rfl) ?_ | refine And.intro (onesB_map _ _ fun _ => rfl) ?_ | refine .inr ⟨rfl, rfl, rfl, ?_⟩ | refine ⟨⟨⟨onesB_flat _ _ fun _ => rfl, fl⟩, trivial⟩, ?_⟩ | refine And.intro bd ?_ | refine ⟨_, set_map _ _ _, ?_⟩ | refine ⟨_, set_rfl _ _ _, ?_⟩ | refine ⟨_, singles_rfl _, ?_⟩ | fail)
    refine .inr ⟨[(8, 38)], [.pure (.val (.int .u64 g)), .int (4 : Nat)], [], [], [], 1, _, numeral_own g 4 (by omega) (by omega) (by omega), ⟨Or.inl rfl, Or.inl rfl, trivial⟩, trivial, ?_⟩
    repeat' ((try conv => whnf); first | refine k1 (fun hb => ?_) fun hb => ?_ | refine k2 (fun hb => ?_) fun hb => ?_ | (first | refine k3 (fun hb => ?_) fun hb => ?_ | refine k4 (fun hb => ?_) fun hb => ?_) <;> (try rw [List.length_map] at hb) <;> (try (exfalso; omega; done)) | refine k5 (fun hb => ?_) fun hb => ?_ | refine k6 (fun hb => ?_) fun hb => ?_ | refine Both.intro ?_ ?_ | refine And.intro rfl ?_ | refine s1 ?_ | refine s2 ?_ | refine s3 ?_ | refine s4 nm ?_ | refine s5 nm nm ?_ | refine s6 nm nm ?_ | refine s7 ?_ | refine And.intro (by assumption) ?_ | refine s8 nm ?_ | refine s9 nm nm ?_ | refine sa nm ?_ | refine ⟨_, _, getMapN nm, rfl, ?_⟩ | refine .inl ⟨_, getMapN nm, rfl, rfl, ?_⟩ | refine .inl ⟨rfl, rfl, bd, rfl, rfl, ?_⟩ | refine ⟨_, singles_flat _ _, ?_⟩ | refine ⟨_, singles_map _ _, ?_⟩ | refine And.intro (onesB_flat _ _ fun _ => rfl) ?_ | refine And.intro (onesB_map _ _ fun _ => rfl) ?_ | refine .inr ⟨rfl, rfl, rfl, ?_⟩ | refine ⟨⟨⟨onesB_flat _ _ fun _ => rfl, fl⟩, trivial⟩, ?_⟩ | refine And.intro bd ?_ | refine ⟨_, set_map _ _ _, ?_⟩ | refine ⟨_, set_rfl _ _ _, ?_⟩ | refine ⟨_, singles_rfl _, ?_⟩ | fail)
    have qB := rchecksum_spec (bodyOf k true true p) (by rw [bodyOf_len k _ _ p hp]; omega)
    have hCl := crc_lt (bodyOf k true true p)
    obtain ⟨CR, hCR⟩ : ∃ CR, CR = crc (bodyOf k true true p) := ⟨_, rfl⟩
    rw [← hCR] at qB hCl
    have hc4 : (numTail CR 4).length = 4 := numTail_len CR 4
    refine .inl ⟨_, qB.args ⟨sub_sl (by simp [bodyOf, numTail, kindB, zeroText]; exact List.take_of_length_le (by simp; omega)), trivial⟩, ?_⟩
    repeat' ((try conv => whnf); first | refine k1 (fun hb => ?_) fun hb => ?_ | refine k2 (fun hb => ?_) fun hb => ?_ | (first | refine k3 (fun hb => ?_) fun hb => ?_ | refine k4 (fun hb => ?_) fun hb => ?_) <;> (try rw [List.length_map] at hb) <;> (try (exfalso; omega; done)) | refine k5 (fun hb => ?_) fun hb => ?_ | refine k6 (fun hb => ?_) fun hb => ?_ | refine Both.intro ?_ ?_ | refine And.intro rfl ?_ | refine s1 ?_ | refine s2 ?_ | refine s3 ?_ | refine s4 nm ?_ | refine s5 nm nm ?_ | refine s6 nm nm ?_ | refine s7 ?_ | refine And.intro (by assumption) ?_ | refine s8 nm ?_ | refine s9 nm nm ?_ | refine sa nm ?_ | refine ⟨_, _, getMapN nm, rfl, ?_⟩ | refine .inl ⟨_, getMapN nm, rfl, rfl, ?_⟩ | refine .inl ⟨rfl, rfl, bd, rfl, rfl, ?_⟩ | refine ⟨_, singles_flat _ _, ?_⟩ | refine ⟨_, singles_map _ _, ?_⟩ | refine And.intro (onesB_flat _ _ fun _ => rfl) ?_ | refine And.intro (onesB_map _ _ fun _ => rfl) ?_ | refine .inr ⟨rfl, rfl, rfl, ?_⟩ | refine ⟨⟨⟨onesB_flat _ _ fun _ => rfl, fl⟩, trivial⟩, ?_⟩ | refine And.intro bd ?_ | refine ⟨_, set_map _ _ _, ?_⟩ | refine ⟨_, set_rfl _ _ _, ?_⟩ | refine ⟨_, singles_rfl _, ?_⟩ | fail)
    refine ⟨(CR : Int), by rw [wrap_u64]; omega, ?_⟩
    repeat' ((try conv => whnf); first | refine k1 (fun hb => ?_) fun hb => ?_ | refine k2 (fun hb => ?_) fun hb => ?_ | (first | refine k3 (fun hb => ?_) fun hb => ?_ | refine k4 (fun hb => ?_) fun hb => ?_) <;> (try rw [List.length_map] at hb) <;> (try (exfalso; omega; done)) | refine k5 (fun hb => ?_) fun hb => ?_ | refine k6 (fun hb => ?_) fun hb => ?_ | refine Both.intro ?_ ?_ | refine And.intro rfl ?_ | refine s1 ?_ | refine s2 ?_ | refine s3 ?_ | refine s4 nm ?_ | refine s5 nm nm ?_ | refine s6 nm nm ?_ | refine s7 ?_ | refine And.intro (by assumption) ?_ | refine s8 nm ?_ | refine s9 nm nm ?_ | refine sa nm ?_ | refine ⟨_, _, getMapN nm, rfl, ?_⟩ | refine .inl ⟨_, getMapN nm, rfl, rfl, ?_⟩ | refine .inl ⟨rfl, rfl, bd, rfl, rfl, ?_⟩ | refine ⟨_, singles_flat _ _, ?_⟩ | refine ⟨_, singles_map _ _, ?_⟩ | refine And.intro (onesB_flat _ _ fun _ => rfl) ?_ | refine And.intro (onesB_map _ _ fun _ => rfl) ?_ | refine .inr ⟨rfl, rfl, rfl, ?_⟩ | refine ⟨⟨⟨onesB_flat _ _ fun _ => rfl, fl⟩, trivial⟩, ?_⟩ | refine And.intro bd ?_ | refine ⟨_, set_map _ _ _, ?_⟩ | refine ⟨_, set_rfl _ _ _, ?_⟩ | refine ⟨_, singles_rfl _, ?_⟩ | fail)
    refine .inr ⟨[(8, 42)], [.pure (.val (.int .u64 CR)), .int (4 : Nat)], [], [], [], 1, _, numeral_own CR 4 (by omega) (by omega) (by omega), ⟨Or.inl rfl, Or.inl rfl, trivial⟩, trivial, ?_⟩
    repeat' ((try conv => whnf); first | refine k1 (fun hb => ?_) fun hb => ?_ | refine k2 (fun hb => ?_) fun hb => ?_ | (first | refine k3 (fun hb => ?_) fun hb => ?_ | refine k4 (fun hb => ?_) fun hb => ?_) <;> (try rw [List.length_map] at hb) <;> (try (exfalso; omega; done)) | refine k5 (fun hb => ?_) fun hb => ?_ | refine k6 (fun hb => ?_) fun hb => ?_ | refine Both.intro ?_ ?_ | refine And.intro rfl ?_ | refine s1 ?_ | refine s2 ?_ | refine s3 ?_ | refine s4 nm ?_ | refine s5 nm nm ?_ | refine s6 nm nm ?_ | refine s7 ?_ | refine And.intro (by assumption) ?_ | refine s8 nm ?_ | refine s9 nm nm ?_ | refine sa nm ?_ | refine ⟨_, _, getMapN nm, rfl, ?_⟩ | refine .inl ⟨_, getMapN nm, rfl, rfl, ?_⟩ | refine .inl ⟨rfl, rfl, bd, rfl, rfl, ?_⟩ | refine ⟨_, singles_flat _ _, ?_⟩ | refine ⟨_, singles_map _ _, ?_⟩ | refine And.intro (onesB_flat _ _ fun _ => rfl) ?_ | refine And.intro (onesB_map _ _ fun _ => rfl) ?_ | refine .inr ⟨rfl, rfl, rfl, ?_⟩ | refine ⟨⟨⟨onesB_flat _ _ fun _ => rfl, fl⟩, trivial⟩, ?_⟩ | refine And.intro bd ?_ | refine ⟨_, set_map _ _ _, ?_⟩ | refine ⟨_, set_rfl _ _ _, ?_⟩ | refine ⟨_, singles_rfl _, ?_⟩ | fail)
    refine ⟨by simp [zeroText, hk2, hg4, hc4]; omega, by simp [zeroText, hk2, hg4, hc4]; omega, ?_⟩
    repeat' ((try conv => whnf); first | refine k1 (fun hb => ?_) fun hb => ?_ | refine k2 (fun hb => ?_) fun hb => ?_ | (first | refine k3 (fun hb => ?_) fun hb => ?_ | refine k4 (fun hb => ?_) fun hb => ?_) <;> (try rw [List.length_map] at hb) <;> (try (exfalso; omega; done)) | refine k5 (fun hb => ?_) fun hb => ?_ | refine k6 (fun hb => ?_) fun hb => ?_ | refine Both.intro ?_ ?_ | refine And.intro rfl ?_ | refine s1 ?_ | refine s2 ?_ | refine s3 ?_ | refine s4 nm ?_ | refine s5 nm nm ?_ | refine s6 nm nm ?_ | refine s7 ?_ | refine And.intro (by assumption) ?_ | refine s8 nm ?_ | refine s9 nm nm ?_ | refine sa nm ?_ | refine ⟨_, _, getMapN nm, rfl, ?_⟩ | refine .inl ⟨_, getMapN nm, rfl, rfl, ?_⟩ | refine .inl ⟨rfl, rfl, bd, rfl, rfl, ?_⟩ | refine ⟨_, singles_flat _ _, ?_⟩ | refine ⟨_, singles_map _ _, ?_⟩ | refine And.intro (onesB_flat _ _ fun _ => rfl) ?_ | refine And.intro (onesB_map _ _ fun _ => rfl) ?_ | refine .inr ⟨rfl, rfl, rfl, ?_⟩ | refine ⟨⟨⟨onesB_flat _ _ fun _ => rfl, fl⟩, trivial⟩, ?_⟩ | refine And.intro bd ?_ | refine ⟨_, set_map _ _ _, ?_⟩ | refine ⟨_, set_rfl _ _ _, ?_⟩ | refine ⟨_, singles_rfl _, ?_⟩ | fail)
    refine .inr ⟨[(8, 48)], [.pure (.val (.int .u64 g)), .int (4 : Nat)], [], [], [], 1, _, numeral_own g 4 (by omega) (by omega) (by omega), ⟨Or.inl rfl, Or.inl rfl, trivial⟩, trivial, ?_⟩
    repeat' ((try conv => whnf); first | refine k1 (fun hb => ?_) fun hb => ?_ | refine k2 (fun hb => ?_) fun hb => ?_ | (first | refine k3 (fun hb => ?_) fun hb => ?_ | refine k4 (fun hb => ?_) fun hb => ?_) <;> (try rw [List.length_map] at hb) <;> (try (exfalso; omega; done)) | refine k5 (fun hb => ?_) fun hb => ?_ | refine k6 (fun hb => ?_) fun hb => ?_ | refine Both.intro ?_ ?_ | refine And.intro rfl ?_ | refine s1 ?_ | refine s2 ?_ | refine s3 ?_ | refine s4 nm ?_ | refine s5 nm nm ?_ | refine s6 nm nm ?_ | refine s7 ?_ | refine And.intro (by assumption) ?_ | refine s8 nm ?_ | refine s9 nm nm ?_ | refine sa nm ?_ | refine ⟨_, _, getMapN nm, rfl, ?_⟩ | refine .inl ⟨_, getMapN nm, rfl, rfl, ?_⟩ | refine .inl ⟨rfl, rfl, bd, rfl, rfl, ?_⟩ | refine ⟨_, singles_flat _ _, ?_⟩ | refine ⟨_, singles_map _ _, ?_⟩ | refine And.intro (onesB_flat _ _ fun _ => rfl) ?_ | refine And.intro (onesB_map _ _ fun _ => rfl) ?_ | refine .inr ⟨rfl, rfl, rfl, ?_⟩ | refine ⟨⟨⟨onesB_flat _ _ fun _ => rfl, fl⟩, trivial⟩, ?_⟩ | refine And.intro bd ?_ | refine ⟨_, set_map _ _ _, ?_⟩ | refine ⟨_, set_rfl _ _ _, ?_⟩ | refine ⟨_, singles_rfl _, ?_⟩ | fail)
    refine ⟨by simp [zeroText, hk2, hg4, hc4]; omega, by simp [zeroText, hk2, hg4, hc4]; omega, ?_⟩
    repeat' ((try conv => whnf); first | refine k1 (fun hb => ?_) fun hb => ?_ | refine k2 (fun hb => ?_) fun hb => ?_ | (first | refine k3 (fun hb => ?_) fun hb => ?_ | refine k4 (fun hb => ?_) fun hb => ?_) <;> (try rw [List.length_map] at hb) <;> (try (exfalso; omega; done)) | refine k5 (fun hb => ?_) fun hb => ?_ | refine k6 (fun hb => ?_) fun hb => ?_ | refine Both.intro ?_ ?_ | refine And.intro rfl ?_ | refine s1 ?_ | refine s2 ?_ | refine s3 ?_ | refine s4 nm ?_ | refine s5 nm nm ?_ | refine s6 nm nm ?_ | refine s7 ?_ | refine And.intro (by assumption) ?_ | refine s8 nm ?_ | refine s9 nm nm ?_ | refine sa nm ?_ | refine ⟨_, _, getMapN nm, rfl, ?_⟩ | refine .inl ⟨_, getMapN nm, rfl, rfl, ?_⟩ | refine .inl ⟨rfl, rfl, bd, rfl, rfl, ?_⟩ | refine ⟨_, singles_flat _ _, ?_⟩ | refine ⟨_, singles_map _ _, ?_⟩ | refine And.intro (onesB_flat _ _ fun _ => rfl) ?_ | refine And.intro (onesB_map _ _ fun _ => rfl) ?_ | refine .inr ⟨rfl, rfl, rfl, ?_⟩ | refine ⟨⟨⟨onesB_flat _ _ fun _ => rfl, fl⟩, trivial⟩, ?_⟩ | refine And.intro bd ?_ | refine ⟨_, set_map _ _ _, ?_⟩ | refine ⟨_, set_rfl _ _ _, ?_⟩ | refine ⟨_, singles_rfl _, ?_⟩ | fail)
    rw [secOf_eq g k true true p hp, ← hCR]
    refine sub_sl ?_
    simp [bodyOf, numTail, n4, kindB, zeroText]
    rw [List.take_of_length_le (by simp <;> omega), List.take_of_length_le (by simp <;> omega)]
    try simp
end Go.Proofs.Ytcgpikmaapallaa
