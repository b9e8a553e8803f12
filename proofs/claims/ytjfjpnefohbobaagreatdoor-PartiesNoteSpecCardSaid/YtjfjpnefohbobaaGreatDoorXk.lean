/- Disks: the reference's Read and Few; double. Conditions: none. -/
import Derived.Test.YtjfjpnefohbobaaGreatDoorWd
import Derived.Test.YtjfjpnefohbobaaGreatDoorXa
import Derived.Test.YtjfjpnefohbobaaGreatDoorXj
import Derived.Test.YtjfjpnefohbobaaGreatDoorXc
set_option linter.unusedSimpArgs false
set_option linter.unusedVariables false
set_option maxRecDepth 20000
set_option maxHeartbeats 4000000
namespace Go.Proofs.YtjfjpnefohbobaaGreatDoor.K
open Go.Avc
attribute [local irreducible] PSub Wp PSpec Le Need Both
def sumL (l : List Nat) : Nat := l.foldr (fun a b => a + 1 + b) 0
def Disk.lens (d : Disk) : List Nat := d.sectors.map List.length ++ d.pending.map fun w => w.2.length
def Disk.few (d : Disk) : Bool := decide (sumL d.lens ≤ 9000)
def Disk.fits (d : Disk) : Prop := ∀ n ∈ d.lens, n ≤ 140737488355328
end Go.Proofs.YtjfjpnefohbobaaGreatDoor.K
/- Disks: the reference's Sync. Conditions: none. -/
namespace Go.Proofs.YtjfjpnefohbobaaGreatDoor.K
open Go.Avc
attribute [local irreducible] PSub Wp PSpec Le Need Both
theorem torn2 {s w : List UInt8} : PV.sl (0 + 1) (List.take (([] ++ cut (List.map (fun b : UInt8 => [PV.val (Value.int IntKind.u8 (b.toNat : Int))]) w) 0 (Int.toNat 64)).length
     + (cut (List.map (fun b : UInt8 => [PV.val (Value.int IntKind.u8 (b.toNat : Int))]) s) (Int.toNat 64) (List.map (fun b : UInt8 => [PV.val (Value.int IntKind.u8 (b.toNat : Int))]) s).length).length)
   (List.drop 0 ([] ++ cut (List.map (fun b : UInt8 => [PV.val (Value.int IntKind.u8 (b.toNat : Int))]) w) 0 (Int.toNat 64) ++ cut (List.map (fun b : UInt8 => [PV.val (Value.int IntKind.u8 (b.toNat : Int))]) s) (Int.toNat 64) (List.map (fun b : UInt8 => [PV.val (Value.int IntKind.u8 (b.toNat : Int))]) s).length))) = encB (w.take 64 ++ s.drop 64) := by
 have e2 : Int.toNat 64 = 64 := rfl
 simp only [cut, encB, Nat.zero_add, List.drop_zero, List.nil_append, e2]
 congr 1
 rw [List.take_of_length_le (by simp)]
 rw [List.map_append, List.map_take, List.map_drop, List.take_of_length_le (i := _ - 64) (by simp)]
theorem refSync_spec (d : Disk) : PSpec Tryz.prog 90 [encD d] (encDE d.sync) := by
 refine PSpec.of_vc (fun Γ => more2 false Γ.P Γ.fx) (fun Γ => more2_ok) Tryz.func90 rfl Tryz.call90 (by simp) ?_
 rintro ⟨P, N, w0, X, β0, fx, y, hy, pk, df⟩ rfl rfl rfl hoff rfl; change y.on = false at hoff
 skip
 refine .inl ⟨_, refCheck_spec d, ?_⟩
 repeat' ((try conv => whnf); first | (first | refine k3 ?_ ?_ | refine k4 ?_ ?_) <;> intro hb <;> (try rw [lM] at hb) <;> try (exfalso; omega) | refine k6 (fun hb => ?_) fun hb => ?_ | refine aq rfl ?_ | fail)
 · exact sub_zero (by simp only [Disk.sync, ready_stopped hb]; rfl)
 · have hr := ready_ok (d := d) (by assumption) (by assumption)
   obtain ⟨lq1, lq2, lq3, lq4⟩ := ready_le hr
   have hl0 : -1 ≤ d.left := by have := (ready_of hr).1.2.2.2.1; omega
   have hl3 := (ready_of hr).1.2.2.2.2.1
   have hl1 : d.left.toNat < d.pending.length := by omega
   have h8 := lq4 _ (List.getElem_mem hl1)
   have e : d.sync = (⟨tear (perform d.sectors (d.pending.take d.left.toNat)) d.pending[d.left.toNat], [], 0, true⟩, 470) := by simp only [Disk.sync, if_pos hr]; rw [if_neg (by omega)]; simp [List.getD, hl1]
   refine Wp.draw (more := more2 true _ _) more2_det more2_ok FOK.wide rfl (by decide +kernel) (by conv => lhs; reduce) ?_
   repeat' ((try conv => whnf); first | refine aq rfl ?_ | refine aq bd ?_ | fail)
   refine Wp.loop (fun k : Nat => ⟨[(1, .loc 1 0 0), (2, .loc 2 0 0), (4, .int (d.left.toNat : Nat)), (5, .bool (decide (d.left < (d.pending.length : Int)))), (6, .loc 6 0 0), (7, .int k)],
       [(1, some (.box [.pure (encS d.sectors), .pure (encWs d.pending), .int d.left, .bool d.stopped])), (2, some (.box [.pure (.val (.slice none 0 0)), .pure (.val (.slice none 0 0)), .int 0, .bool false])),
        (6, some (.box [.lsl 35 0 d.sectors.length, .pure (.val (.slice none 0 0)), .int d.left, .bool false])), (35, some (.row 1 ((perform d.sectors (d.pending.take k)).map fun s => [encB s])))], [1, 2, 6, 35]⟩)
     (fun k => k ≤ d.left.toNat) (fun k => d.left.toNat - k) 0 (Le.of ?_ ?_ rfl rfl rfl) (by omega) ?_
   · (repeat' (first | exact trivial | refine aq ?_ ?_ | exact oq | exact l1 bd | exact SubA.bool bo | fail))
   · (repeat' (first | exact trivial | exact rfl | refine aq ?_ ?_ | refine Exists.intro _ (aq rfl ?_) | exact oq | exact SubA.lsl ls | fail))
   intro k hk
   have hplen := perform_len d.sectors (d.pending.take k)
   by_cases hkm : k < d.left.toNat
   · have hkm' : k < d.pending.length := by omega
     have h5 := lq4 _ (List.getElem_mem hkm')
     have h7 := perform_take d.sectors d.pending hkm'
     refine code_sound (more := more2 false _ _) more2_ok FOK.wide _ ?_
     repeat' ((try conv => whnf); first | (first | refine k3 ?_ ?_ | refine k4 ?_ ?_) <;> intro hb <;> (try rw [lM] at hb) <;> try (exfalso; omega) | fail)
     refine Wp.draw (more := more2 true _ _) more2_det more2_ok FOK.wide rfl (by decide +kernel) (by conv => lhs; reduce) ?_
     repeat' ((try conv => whnf); first | refine aq rfl ?_ | refine s4 nm ?_ | refine s5 nm nm ?_ | refine aq bd ?_ | refine .inl ⟨rfl, rfl, bd, rfl, rfl, ?_⟩ | fail)
     refine ⟨k + 1, Le.of ?_ ?_ rfl rfl rfl, by omega, by omega⟩
     · (repeat' (first | exact trivial | refine aq ?_ ?_ | exact oq | fail))
     · (repeat' (first | exact trivial | refine aq ?_ ?_ | refine Exists.intro _ (aq rfl ?_) | exact oq | fail))
       refine rowEq ?_
       simp only [h7, List.map_set, Nat.zero_add]
   have ek : k = d.left.toNat := by omega
   subst ek
   refine code_sound (more := more2 false _ _) more2_ok FOK.wide _ ?_
   repeat' ((try conv => whnf); first | (first | refine k3 ?_ ?_ | refine k4 ?_ ?_) <;> intro hb <;> (try rw [lM] at hb) <;> try (exfalso; omega) | refine aq rfl ?_ | refine s5 nm nm ?_ | fail)
   have hidx : 0 + d.pending[d.left.toNat].fst.toNat < (perform d.sectors (List.take d.left.toNat d.pending)).length := by omega
   have h12 : ((perform d.sectors (List.take d.left.toNat d.pending))[0 + d.pending[d.left.toNat].fst.toNat]'hidx).length = 128 := perform_128 lq3 (fun w hw => (lq4 w (List.mem_of_mem_take hw)).2.2) _ (List.getElem_mem _)
   have h13 := h8.2.2
   refine Wp.draw (more := more2 true _ _) more2_det more2_ok FOK.wide rfl (by decide +kernel) (by conv => lhs; reduce) ?_
   repeat' ((try conv => whnf); first | refine aq rfl ?_ | refine aq bd ?_ | refine ⟨_, _, getMapN nm, rfl, ?_⟩ | refine .inl ⟨rfl, rfl, bd, rfl, rfl, ?_⟩ | fail)
   rw [e]
   refine sub_de (sub_disk (sub_sl ?_) (PSub.nil 2) rfl rfl) rfl
   have h9 : (perform d.sectors (List.take d.left.toNat d.pending))[0 + d.pending[d.left.toNat].fst.toNat]'(by omega) = (perform d.sectors (List.take d.left.toNat d.pending)).getD d.pending[d.left.toNat].fst.toNat [] := by
     have : d.pending[d.left.toNat].fst.toNat < (perform d.sectors (List.take d.left.toNat d.pending)).length := by omega
     simp [List.getD, this]
   have h10 : ((perform d.sectors (List.take d.left.toNat d.pending)).getD d.pending[d.left.toNat].fst.toNat []).length = 128 := by
     rw [← h9]
     exact perform_128 lq3 (fun w hw => (lq4 w (List.mem_of_mem_take hw)).2.2) _ (List.getElem_mem _)
   have h11 := h8.2.2
   simp only [h9, tear]
   clear h9
   generalize (perform d.sectors (List.take d.left.toNat d.pending)).getD d.pending[d.left.toNat].fst.toNat [] = s at h10 ⊢
   generalize d.pending[d.left.toNat] = w at h11 ⊢
   rw [torn2]
   simp only [List.drop_zero, Nat.zero_add, ← List.map_set]
   exact List.take_of_length_le (by simp; omega)
 · have hr := ready_ok (d := d) (by assumption) (by assumption)
   obtain ⟨lq1, lq2, lq3, lq4⟩ := ready_le hr
   have hl0 : -1 ≤ d.left := by have := (ready_of hr).1.2.2.2.1; omega
   have hl3 := (ready_of hr).1.2.2.2.2.1
   have hw : ¬ d.left = -1 := by omega
   have hw2 : (d.pending.length : Int) ≤ d.left := by omega
   have e : d.sync = (⟨perform d.sectors d.pending, [], d.left - d.pending.length, false⟩, 0) := by simp only [Disk.sync, if_pos hr]; rw [if_pos (by omega), if_neg hw]
   refine Wp.draw (more := more2 true _ _) more2_det more2_ok FOK.wide rfl (by decide +kernel) (by conv => lhs; reduce) ?_
   repeat' ((try conv => whnf); first | refine aq rfl ?_ | refine aq bd ?_ | fail)
   refine Wp.loop (fun k : Nat => ⟨[(1, .loc 1 0 0), (2, .loc 2 0 0), (4, .int (d.pending.length : Nat)), (5, .bool (decide (d.left < (d.pending.length : Int)))), (6, .loc 6 0 0), (7, .int k)],
       [(1, some (.box [.pure (encS d.sectors), .pure (encWs d.pending), .int d.left, .bool d.stopped])), (2, some (.box [.pure (.val (.slice none 0 0)), .pure (.val (.slice none 0 0)), .int 0, .bool false])),
        (6, some (.box [.lsl 35 0 d.sectors.length, .pure (.val (.slice none 0 0)), .int d.left, .bool false])), (35, some (.row 1 ((perform d.sectors (d.pending.take k)).map fun s => [encB s])))], [1, 2, 6, 35]⟩)
     (fun k => k ≤ d.pending.length) (fun k => d.pending.length - k) 0 (Le.of ?_ ?_ rfl rfl rfl) (by omega) ?_
   · (repeat' (first | exact trivial | refine aq ?_ ?_ | exact oq | exact l1 bd | exact SubA.bool bo | fail))
   · (repeat' (first | exact trivial | exact rfl | refine aq ?_ ?_ | refine Exists.intro _ (aq rfl ?_) | exact oq | exact SubA.lsl ls | fail))
   intro k hk
   have hplen := perform_len d.sectors (d.pending.take k)
   by_cases hkm : k < d.pending.length
   · have hkm' : k < d.pending.length := by omega
     have h5 := lq4 _ (List.getElem_mem hkm')
     have h7 := perform_take d.sectors d.pending hkm'
     refine code_sound (more := more2 false _ _) more2_ok FOK.wide _ ?_
     repeat' ((try conv => whnf); first | (first | refine k3 ?_ ?_ | refine k4 ?_ ?_) <;> intro hb <;> (try rw [lM] at hb) <;> try (exfalso; omega) | fail)
     refine Wp.draw (more := more2 true _ _) more2_det more2_ok FOK.wide rfl (by decide +kernel) (by conv => lhs; reduce) ?_
     repeat' ((try conv => whnf); first | refine aq rfl ?_ | refine s4 nm ?_ | refine s5 nm nm ?_ | refine aq bd ?_ | refine .inl ⟨rfl, rfl, bd, rfl, rfl, ?_⟩ | fail)
     refine ⟨k + 1, Le.of ?_ ?_ rfl rfl rfl, by omega, by omega⟩
     · (repeat' (first | exact trivial | refine aq ?_ ?_ | exact oq | fail))
     · (repeat' (first | exact trivial | refine aq ?_ ?_ | refine Exists.intro _ (aq rfl ?_) | exact oq | fail))
       refine rowEq ?_
       simp only [h7, List.map_set, Nat.zero_add]
   have ek : k = d.pending.length := by omega
   subst ek
   refine code_sound (more := more2 false _ _) more2_ok FOK.wide _ ?_
   repeat' ((try conv => whnf); first | (first | refine k3 ?_ ?_ | refine k4 ?_ ?_) <;> intro hb <;> (try rw [lM] at hb) <;> try (exfalso; omega) | refine aq rfl ?_ | refine s4 nm ?_ | fail)
   rw [e]
   refine sub_de (sub_disk (sub_sl ?_) (PSub.nil 2) rfl rfl) rfl
   simp only [List.drop_zero, List.take_length] at hplen ⊢
   exact List.take_of_length_le (by simp; omega)
 · have hr := ready_ok (d := d) (by assumption) (by assumption)
   obtain ⟨lq1, lq2, lq3, lq4⟩ := ready_le hr
   have hl0 : -1 ≤ d.left := by have := (ready_of hr).1.2.2.2.1; omega
   have hl3 := (ready_of hr).1.2.2.2.2.1
   have hw : d.left = -1 := by omega
   have e : d.sync = (⟨perform d.sectors d.pending, [], -1, false⟩, 0) := by simp only [Disk.sync, if_pos hr]; rw [if_pos (by omega), if_pos hw]
   refine Wp.draw (more := more2 true _ _) more2_det more2_ok FOK.wide rfl (by decide +kernel) (by conv => lhs; reduce) ?_
   repeat' ((try conv => whnf); first | refine aq rfl ?_ | refine aq bd ?_ | fail)
   refine Wp.loop (fun k : Nat => ⟨[(1, .loc 1 0 0), (2, .loc 2 0 0), (4, .int (d.pending.length : Nat)), (5, .bool false), (6, .loc 6 0 0), (7, .int k)],
       [(1, some (.box [.pure (encS d.sectors), .pure (encWs d.pending), .int d.left, .bool d.stopped])), (2, some (.box [.pure (.val (.slice none 0 0)), .pure (.val (.slice none 0 0)), .int 0, .bool false])),
        (6, some (.box [.lsl 35 0 d.sectors.length, .pure (.val (.slice none 0 0)), .int d.left, .bool false])), (35, some (.row 1 ((perform d.sectors (d.pending.take k)).map fun s => [encB s])))], [1, 2, 6, 35]⟩)
     (fun k => k ≤ d.pending.length) (fun k => d.pending.length - k) 0 (Le.of ?_ ?_ rfl rfl rfl) (by omega) ?_
   · (repeat' (first | exact trivial | refine aq ?_ ?_ | exact oq | exact l1 bd | fail))
   · (repeat' (first | exact trivial | exact rfl | refine aq ?_ ?_ | refine Exists.intro _ (aq rfl ?_) | exact oq | exact SubA.lsl ls | fail))
   intro k hk
   have hplen := perform_len d.sectors (d.pending.take k)
   by_cases hkm : k < d.pending.length
   · have hkm' : k < d.pending.length := by omega
     have h5 := lq4 _ (List.getElem_mem hkm')
     have h7 := perform_take d.sectors d.pending hkm'
     refine code_sound (more := more2 false _ _) more2_ok FOK.wide _ ?_
     repeat' ((try conv => whnf); first | (first | refine k3 ?_ ?_ | refine k4 ?_ ?_) <;> intro hb <;> (try rw [lM] at hb) <;> try (exfalso; omega) | fail)
     refine Wp.draw (more := more2 true _ _) more2_det more2_ok FOK.wide rfl (by decide +kernel) (by conv => lhs; reduce) ?_
     repeat' ((try conv => whnf); first | refine aq rfl ?_ | refine s4 nm ?_ | refine s5 nm nm ?_ | refine aq bd ?_ | refine .inl ⟨rfl, rfl, bd, rfl, rfl, ?_⟩ | fail)
     refine ⟨k + 1, Le.of ?_ ?_ rfl rfl rfl, by omega, by omega⟩
     · (repeat' (first | exact trivial | refine aq ?_ ?_ | exact oq | fail))
     · (repeat' (first | exact trivial | refine aq ?_ ?_ | refine Exists.intro _ (aq rfl ?_) | exact oq | fail))
       refine rowEq ?_
       simp only [h7, List.map_set, Nat.zero_add]
   have ek : k = d.pending.length := by omega
   subst ek
   refine code_sound (more := more2 false _ _) more2_ok FOK.wide _ ?_
   repeat' ((try conv => whnf); first | (first | refine k3 ?_ ?_ | refine k4 ?_ ?_) <;> intro hb <;> (try rw [lM] at hb) <;> try (exfalso; omega) | refine aq rfl ?_ | fail)
   rw [e]
   refine sub_de (sub_disk (sub_sl ?_) (PSub.nil 2) hw rfl) rfl
   simp only [List.drop_zero, List.take_length] at hplen ⊢
   exact List.take_of_length_le (by simp; omega)
 · exact sub_zero (by simp only [Disk.sync, ready_bad hb]; rfl)
end Go.Proofs.YtjfjpnefohbobaaGreatDoor.K
/- Journals: the reference's generation and numeral are walked. Conditions: none. -/
namespace Go.Proofs.YtjfjpnefohbobaaGreatDoor.K
open Go.Avc
def numTail (n : Nat) : Nat → List UInt8
 | 0 => []
 | j + 1 => UInt8.ofNat (n / 256 ^ j) :: numTail n j
theorem numTail_len (n : Nat) : ∀ j, (numTail n j).length = j
 | 0 => rfl
 | j + 1 => by rw [numTail, List.length_cons, numTail_len n j]
theorem repl_set (k : Nat) (b : UInt8) (l : List UInt8) : (List.replicate (k + 1) 0 ++ l).set k b = List.replicate k 0 ++ b :: l := by
 rw [List.replicate_succ', List.append_assoc, List.set_append_right _ _ (by simp)]
 simp
attribute [local irreducible] PSub Wp PSpec Le Need Both
attribute [local irreducible] four greatL
theorem generation_spec (l : List (List UInt8)) (h128 : ∀ s ∈ l, s.length = 128) (hl : l.length ≤ 4096) : PSpec Tryz.prog 86 [encS l] (.val (.int .u64 (greatL l + 1 : Nat))) := by
 have hgl := greatL_lt l
 refine PSpec.of_vc (fun Γ => more4 false Γ.P Γ.fx) (fun Γ => more4_ok) Tryz.func86 rfl Tryz.call86 (by simp) ?_
 rintro ⟨P, N, w0, X, β0, fx, y, hy, pk, df⟩ rfl rfl rfl hoff rfl; change y.on = false at hoff
 skip
 refine Wp.loop (fun k : Nat => ⟨[(0, .pure (encS l)), (3, .pure (.val (.int .u64 (greatL (l.take k))))), (4, .int k)], [], []⟩) (fun k => k ≤ l.length) (fun k => l.length - k) 0 (Le.of ?_ ?_ rfl rfl rfl) (by omega) ?_
 · (repeat' (first | exact trivial | refine aq ?_ ?_ | exact oq | fail))
   all_goals (refine SubA.int ?_; simp [greatL]; done)
 · (repeat' (first | exact trivial | fail))
 intro k hk
 by_cases hk2 : k < l.length
 · have hs := h128 _ (List.getElem_mem hk2)
   have q0 := numAt_spec l[k] 0 (by omega) (x := cut (l[k].map fun b => [PV.val (.int .u8 b.toNat)]) 0 (Int.toNat 4)) (by simp [cut, List.map_take])
   have q1 := numAt_spec l[k] 124 (by omega) (x := cut (l[k].map fun b => [PV.val (.int .u8 b.toNat)]) (Int.toNat 124) (l[k].map fun b => [PV.val (.int .u8 b.toNat)]).length) (by simp [cut, List.map_take, List.map_drop, hs])
   have hn := greatL_take l hk2
   obtain ⟨m0, hm0⟩ : ∃ m, m = four l[k] 0 := ⟨_, rfl⟩
   obtain ⟨m1, hm1⟩ : ∃ m, m = four l[k] 124 := ⟨_, rfl⟩
   rw [← hm0] at q0 hn
   rw [← hm1] at q1 hn
   refine code_sound (more := more4 false _ _) more4_ok FOK.wide _ ?_
   repeat' ((try conv => whnf); first | (first | refine k3 ?_ ?_ | refine k4 ?_ ?_) <;> intro hb <;> (try rw [lM] at hb) <;> try (exfalso; omega) | fail)
   refine Wp.draw (more := more4 true _ _) more4_det more4_ok FOK.wide rfl (by decide +kernel) (by conv => lhs; reduce) ?_
   repeat' ((try conv => whnf); first | refine s5 nm nm ?_ | refine aq bd ?_ | fail)
   refine ⟨_, q0, ?_⟩
   repeat' ((try conv => whnf); first | refine s5 nm nm ?_ | refine aq bd ?_ | fail)
   refine ⟨_, q1, ?_⟩
   repeat' ((try conv => whnf); first | refine s4 nm ?_ | fail)
   refine ⟨k + 1, Le.of ?_ (by (repeat' (first | exact trivial | fail))) rfl rfl rfl, by omega, by omega⟩
   (repeat' (first | exact trivial | refine aq ?_ ?_ | exact oq | exact l1 bd | fail))
   all_goals (refine SubA.int ?_; rw [hn]; omega)
 · have ek : k = l.length := by omega
   subst ek
   rw [List.take_length]
   refine code_sound (more := more4 false _ _) more4_ok FOK.wide _ ?_
   repeat' ((try conv => whnf); first | (first | refine k3 ?_ ?_ | refine k4 ?_ ?_) <;> intro hb <;> (try rw [lM] at hb) <;> try (exfalso; omega) | fail)
   refine ⟨((greatL l + 1 : Nat) : Int), by rw [wrap_u64]; omega, ?_⟩
   skip
   exact PSub.refl _
theorem numeral_own (n m : Nat) (hn : n < 18446744073709551616) (hm : m ≤ 8) (h1 : 1 ≤ m) : GSpec Tryz.prog 115 2 ⟨[(0, .pure (.val (.int .u64 n))), (1, .int m)], [], []⟩ [] 1 ⟨[(0, .lsl 8 0 m)], [(8, some (.row 1 ((numTail n m).map fun b => [.val (.int .u8 b.toNat)])))], [8]⟩ := by
 refine GSpec.of_vc (fun Γ => more4 false Γ.P Γ.fx) (fun Γ => more4_ok) Tryz.func115 rfl Tryz.call115 (by simp) ?_
 rintro ⟨P, N, w0, X, β0, fx, y, hy, pk, df⟩ rfl rfl rfl hoff rfl; change y.on = false at hoff
 repeat' ((try conv => whnf); first | refine s4 nm ?_ | refine aq bd ?_ | fail)
 refine Wp.loop (fun j : Nat => ⟨[(0, .pure (.val (.int .u64 (n / 256 ^ j : Nat)))), (5, .lsl 8 0 m), (6, .int ((m : Int) - 1 - j))], [(8, some (.row 1 ((List.replicate (m - j) (0 : UInt8) ++ numTail n j).map fun b : UInt8 => [PV.val (.int .u8 b.toNat)])))], [8]⟩)
   (fun j => j ≤ m) (fun j => m - j) 0 (Le.of ?_ ?_ rfl rfl rfl) (by omega) ?_
 · (repeat' (first | exact trivial | refine aq ?_ ?_ | exact oq | exact l1 bd | fail))
   all_goals (refine SubA.int ?_; simp; done)
 · (repeat' (first | exact trivial | refine aq ?_ ?_ | fail))
   all_goals (refine rowEq ?_; simp [numTail]; done)
 intro j hj
 have hlen : (List.replicate (m - j) (0 : UInt8) ++ numTail n j).length = m := by rw [List.length_append, List.length_replicate, numTail_len]; omega
 have hq : n / 256 ^ j < 18446744073709551616 := Nat.lt_of_le_of_lt (Nat.div_le_self _ _) hn
 by_cases hj2 : j < m
 · have hset := repl_set (m - j - 1) (UInt8.ofNat (n / 256 ^ j)) (numTail n j)
   rw [show m - j - 1 + 1 = m - j by omega] at hset
   have hdv : n / 256 ^ (j + 1) = n / 256 ^ j / 256 := by rw [Nat.pow_succ, Nat.div_div_eq_div_mul]
   obtain ⟨q, hqq⟩ : ∃ q, q = n / 256 ^ j := ⟨_, rfl⟩
   rw [← hqq] at hq hset hdv ⊢
   refine code_sound (more := more4 false _ _) more4_ok FOK.wide _ ?_
   repeat' ((try conv => whnf); first | (first | refine k3 ?_ ?_ | refine k4 ?_ ?_) <;> intro hb <;> (try rw [lM] at hb) <;> try (exfalso; omega) | refine aq bd ?_ | fail)
   refine ⟨((q % 256 : Nat) : Int), by rw [Int.tmod_eq_emod_of_nonneg (by omega)]; omega, ?_⟩
   skip
   refine ⟨((UInt8.ofNat q).toNat : Int), by rw [IntKind.wrap_u8, UInt8.toNat_ofNat']; omega, ?_⟩
   repeat' ((try conv => whnf); first | refine aq rfl ?_ | refine aq bd ?_ | refine ⟨_, set_map _ _ _, ?_⟩ | fail)
   refine ⟨((q / 256 : Nat) : Int), by rw [Int.tdiv_eq_ediv_of_nonneg (by omega), wrap_u64]; omega, ?_⟩
   repeat' ((try conv => whnf); first | refine s4 nm ?_ | fail)
   refine ⟨j + 1, Le.of ?_ ?_ rfl rfl rfl, by omega, by omega⟩
   · simp only [hdv]
     (repeat' (first | exact trivial | refine aq ?_ ?_ | exact oq | exact l1 bd | fail))
   · (repeat' (first | exact trivial | refine aq ?_ ?_ | fail))
     all_goals (refine rowEq ?_; rw [show 0 + ((m : Int) - 1 - (j : Int)).toNat = m - j - 1 by omega, hset, hqq]; rfl)
 · have ej : j = m := by omega
   subst ej
   refine code_sound (more := more4 false _ _) more4_ok FOK.wide _ ?_
   repeat' ((try conv => whnf); first | (first | refine k3 ?_ ?_ | refine k4 ?_ ?_) <;> intro hb <;> (try rw [lM] at hb) <;> try (exfalso; omega) | fail)
   exact Le.of ⟨SubA.lsl rfl, trivial⟩ ⟨rowEq (by simp), trivial⟩ rfl rfl rfl
theorem sector_spec (g k : Nat) (p : List UInt8) (hg : g < 4294967296) (hk : k < 65536) (hp : p.length ≤ 112) (bg en : Bool) : PSpec Tryz.prog 89 [.val (.int .u64 g), .int k, .bool bg, .bool en, encB p] (encB (secOf g k bg en p)) := by
 have hk2 : (numTail k 2).length = 2 := numTail_len k 2
 have hg4 : (numTail g 4).length = 4 := numTail_len g 4
 cases bg <;> cases en
 all_goals (refine PSpec.of_vc (fun Γ => more4 false Γ.P Γ.fx) (fun Γ => more4_ok) Tryz.func89 rfl Tryz.call89 (by simp) ?_)
 all_goals (rintro ⟨P, N, w0, X, β0, fx, y, hy, pk, df⟩ rfl rfl rfl hoff rfl; change y.on = false at hoff)
 all_goals (skip)
 · refine ⟨(k : Int), by rw [wrap_u64]; omega, ?_⟩
   skip
   refine .inr ⟨[(8, 22)], [.pure (.val (.int .u64 k)), .int (2 : Nat)], [], [], [], 1, _, numeral_own k 2 (by omega) (by omega) (by omega), ⟨Or.inl rfl, Or.inl rfl, trivial⟩, trivial, ?_⟩
   skip
   refine ⟨((UInt8.ofNat p.length).toNat : Int), by rw [List.length_map, byte_wrap], ?_⟩
   repeat' ((try conv => whnf); first | refine aq rfl ?_ | refine s4 nm ?_ | refine aq bd ?_ | fail)
   refine ⟨by simp [zeroText, hk2]; omega, by simp [zeroText, hk2]; omega, ?_⟩
   skip
   refine .inr ⟨[(8, 38)], [.pure (.val (.int .u64 g)), .int (4 : Nat)], [], [], [], 1, _, numeral_own g 4 (by omega) (by omega) (by omega), ⟨Or.inl rfl, Or.inl rfl, trivial⟩, trivial, ?_⟩
   skip
   have qB := rchecksum_spec (bodyOf k false false p) (by rw [bodyOf_len k _ _ p hp]; omega)
   have hCl := crc_lt (bodyOf k false false p)
   obtain ⟨CR, hCR⟩ : ∃ CR, CR = crc (bodyOf k false false p) := ⟨_, rfl⟩
   rw [← hCR] at qB hCl
   have hc4 : (numTail CR 4).length = 4 := numTail_len CR 4
   refine .inl ⟨_, qB.args ⟨sub_sl (by simp [bodyOf, numTail, kindB, zeroText]; exact List.take_of_length_le (by simp; omega)), trivial⟩, ?_⟩
   skip
   refine ⟨(CR : Int), by rw [wrap_u64]; omega, ?_⟩
   skip
   refine .inr ⟨[(8, 42)], [.pure (.val (.int .u64 CR)), .int (4 : Nat)], [], [], [], 1, _, numeral_own CR 4 (by omega) (by omega) (by omega), ⟨Or.inl rfl, Or.inl rfl, trivial⟩, trivial, ?_⟩
   repeat' ((try conv => whnf); first | refine aq rfl ?_ | refine aq bd ?_ | fail)
   refine ⟨by simp [zeroText, hk2, hg4, hc4]; omega, by simp [zeroText, hk2, hg4, hc4]; omega, ?_⟩
   skip
   refine .inr ⟨[(8, 48)], [.pure (.val (.int .u64 g)), .int (4 : Nat)], [], [], [], 1, _, numeral_own g 4 (by omega) (by omega) (by omega), ⟨Or.inl rfl, Or.inl rfl, trivial⟩, trivial, ?_⟩
   repeat' ((try conv => whnf); first | refine aq bd ?_ | fail)
   refine ⟨by simp [zeroText, hk2, hg4, hc4]; omega, by simp [zeroText, hk2, hg4, hc4]; omega, ?_⟩
   skip
   rw [secOf_eq g k false false p hp, ← hCR]
   refine sub_sl ?_
   simp [bodyOf, numTail, n4, kindB, zeroText]
   rw [List.take_of_length_le (by simp <;> omega), List.take_of_length_le (by simp <;> omega)]
   try simp
 · refine ⟨2, by decide, ?_⟩
   skip
   refine ⟨(k : Int), by rw [wrap_u64]; omega, ?_⟩
   skip
   refine .inr ⟨[(8, 22)], [.pure (.val (.int .u64 k)), .int (2 : Nat)], [], [], [], 1, _, numeral_own k 2 (by omega) (by omega) (by omega), ⟨Or.inl rfl, Or.inl rfl, trivial⟩, trivial, ?_⟩
   skip
   refine ⟨((UInt8.ofNat p.length).toNat : Int), by rw [List.length_map, byte_wrap], ?_⟩
   repeat' ((try conv => whnf); first | refine aq rfl ?_ | refine s4 nm ?_ | refine aq bd ?_ | fail)
   refine ⟨by simp [zeroText, hk2]; omega, by simp [zeroText, hk2]; omega, ?_⟩
   skip
   refine .inr ⟨[(8, 38)], [.pure (.val (.int .u64 g)), .int (4 : Nat)], [], [], [], 1, _, numeral_own g 4 (by omega) (by omega) (by omega), ⟨Or.inl rfl, Or.inl rfl, trivial⟩, trivial, ?_⟩
   skip
   have qB := rchecksum_spec (bodyOf k false true p) (by rw [bodyOf_len k _ _ p hp]; omega)
   have hCl := crc_lt (bodyOf k false true p)
   obtain ⟨CR, hCR⟩ : ∃ CR, CR = crc (bodyOf k false true p) := ⟨_, rfl⟩
   rw [← hCR] at qB hCl
   have hc4 : (numTail CR 4).length = 4 := numTail_len CR 4
   refine .inl ⟨_, qB.args ⟨sub_sl (by simp [bodyOf, numTail, kindB, zeroText]; exact List.take_of_length_le (by simp; omega)), trivial⟩, ?_⟩
   skip
   refine ⟨(CR : Int), by rw [wrap_u64]; omega, ?_⟩
   skip
   refine .inr ⟨[(8, 42)], [.pure (.val (.int .u64 CR)), .int (4 : Nat)], [], [], [], 1, _, numeral_own CR 4 (by omega) (by omega) (by omega), ⟨Or.inl rfl, Or.inl rfl, trivial⟩, trivial, ?_⟩
   repeat' ((try conv => whnf); first | refine aq rfl ?_ | refine aq bd ?_ | fail)
   refine ⟨by simp [zeroText, hk2, hg4, hc4]; omega, by simp [zeroText, hk2, hg4, hc4]; omega, ?_⟩
   skip
   refine .inr ⟨[(8, 48)], [.pure (.val (.int .u64 g)), .int (4 : Nat)], [], [], [], 1, _, numeral_own g 4 (by omega) (by omega) (by omega), ⟨Or.inl rfl, Or.inl rfl, trivial⟩, trivial, ?_⟩
   repeat' ((try conv => whnf); first | refine aq bd ?_ | fail)
   refine ⟨by simp [zeroText, hk2, hg4, hc4]; omega, by simp [zeroText, hk2, hg4, hc4]; omega, ?_⟩
   skip
   rw [secOf_eq g k false true p hp, ← hCR]
   refine sub_sl ?_
   simp [bodyOf, numTail, n4, kindB, zeroText]
   rw [List.take_of_length_le (by simp <;> omega), List.take_of_length_le (by simp <;> omega)]
   try simp
 · refine ⟨1, by decide, ?_⟩
   skip
   refine ⟨(k : Int), by rw [wrap_u64]; omega, ?_⟩
   skip
   refine .inr ⟨[(8, 22)], [.pure (.val (.int .u64 k)), .int (2 : Nat)], [], [], [], 1, _, numeral_own k 2 (by omega) (by omega) (by omega), ⟨Or.inl rfl, Or.inl rfl, trivial⟩, trivial, ?_⟩
   skip
   refine ⟨((UInt8.ofNat p.length).toNat : Int), by rw [List.length_map, byte_wrap], ?_⟩
   repeat' ((try conv => whnf); first | refine aq rfl ?_ | refine s4 nm ?_ | refine aq bd ?_ | fail)
   refine ⟨by simp [zeroText, hk2]; omega, by simp [zeroText, hk2]; omega, ?_⟩
   skip
   refine .inr ⟨[(8, 38)], [.pure (.val (.int .u64 g)), .int (4 : Nat)], [], [], [], 1, _, numeral_own g 4 (by omega) (by omega) (by omega), ⟨Or.inl rfl, Or.inl rfl, trivial⟩, trivial, ?_⟩
   skip
   have qB := rchecksum_spec (bodyOf k true false p) (by rw [bodyOf_len k _ _ p hp]; omega)
   have hCl := crc_lt (bodyOf k true false p)
   obtain ⟨CR, hCR⟩ : ∃ CR, CR = crc (bodyOf k true false p) := ⟨_, rfl⟩
   rw [← hCR] at qB hCl
   have hc4 : (numTail CR 4).length = 4 := numTail_len CR 4
   refine .inl ⟨_, qB.args ⟨sub_sl (by simp [bodyOf, numTail, kindB, zeroText]; exact List.take_of_length_le (by simp; omega)), trivial⟩, ?_⟩
   skip
   refine ⟨(CR : Int), by rw [wrap_u64]; omega, ?_⟩
   skip
   refine .inr ⟨[(8, 42)], [.pure (.val (.int .u64 CR)), .int (4 : Nat)], [], [], [], 1, _, numeral_own CR 4 (by omega) (by omega) (by omega), ⟨Or.inl rfl, Or.inl rfl, trivial⟩, trivial, ?_⟩
   repeat' ((try conv => whnf); first | refine aq rfl ?_ | refine aq bd ?_ | fail)
   refine ⟨by simp [zeroText, hk2, hg4, hc4]; omega, by simp [zeroText, hk2, hg4, hc4]; omega, ?_⟩
   skip
   refine .inr ⟨[(8, 48)], [.pure (.val (.int .u64 g)), .int (4 : Nat)], [], [], [], 1, _, numeral_own g 4 (by omega) (by omega) (by omega), ⟨Or.inl rfl, Or.inl rfl, trivial⟩, trivial, ?_⟩
   repeat' ((try conv => whnf); first | refine aq bd ?_ | fail)
   refine ⟨by simp [zeroText, hk2, hg4, hc4]; omega, by simp [zeroText, hk2, hg4, hc4]; omega, ?_⟩
   skip
   rw [secOf_eq g k true false p hp, ← hCR]
   refine sub_sl ?_
   simp [bodyOf, numTail, n4, kindB, zeroText]
   rw [List.take_of_length_le (by simp <;> omega), List.take_of_length_le (by simp <;> omega)]
   try simp
 · refine ⟨1, by decide, ?_⟩
   skip
   refine ⟨3, by decide, ?_⟩
   skip
   refine ⟨(k : Int), by rw [wrap_u64]; omega, ?_⟩
   skip
   refine .inr ⟨[(8, 22)], [.pure (.val (.int .u64 k)), .int (2 : Nat)], [], [], [], 1, _, numeral_own k 2 (by omega) (by omega) (by omega), ⟨Or.inl rfl, Or.inl rfl, trivial⟩, trivial, ?_⟩
   skip
   refine ⟨((UInt8.ofNat p.length).toNat : Int), by rw [List.length_map, byte_wrap], ?_⟩
   repeat' ((try conv => whnf); first | refine aq rfl ?_ | refine s4 nm ?_ | refine aq bd ?_ | fail)
   refine ⟨by simp [zeroText, hk2]; omega, by simp [zeroText, hk2]; omega, ?_⟩
   skip
   refine .inr ⟨[(8, 38)], [.pure (.val (.int .u64 g)), .int (4 : Nat)], [], [], [], 1, _, numeral_own g 4 (by omega) (by omega) (by omega), ⟨Or.inl rfl, Or.inl rfl, trivial⟩, trivial, ?_⟩
   skip
   have qB := rchecksum_spec (bodyOf k true true p) (by rw [bodyOf_len k _ _ p hp]; omega)
   have hCl := crc_lt (bodyOf k true true p)
   obtain ⟨CR, hCR⟩ : ∃ CR, CR = crc (bodyOf k true true p) := ⟨_, rfl⟩
   rw [← hCR] at qB hCl
   have hc4 : (numTail CR 4).length = 4 := numTail_len CR 4
   refine .inl ⟨_, qB.args ⟨sub_sl (by simp [bodyOf, numTail, kindB, zeroText]; exact List.take_of_length_le (by simp; omega)), trivial⟩, ?_⟩
   skip
   refine ⟨(CR : Int), by rw [wrap_u64]; omega, ?_⟩
   skip
   refine .inr ⟨[(8, 42)], [.pure (.val (.int .u64 CR)), .int (4 : Nat)], [], [], [], 1, _, numeral_own CR 4 (by omega) (by omega) (by omega), ⟨Or.inl rfl, Or.inl rfl, trivial⟩, trivial, ?_⟩
   repeat' ((try conv => whnf); first | refine aq rfl ?_ | refine aq bd ?_ | fail)
   refine ⟨by simp [zeroText, hk2, hg4, hc4]; omega, by simp [zeroText, hk2, hg4, hc4]; omega, ?_⟩
   skip
   refine .inr ⟨[(8, 48)], [.pure (.val (.int .u64 g)), .int (4 : Nat)], [], [], [], 1, _, numeral_own g 4 (by omega) (by omega) (by omega), ⟨Or.inl rfl, Or.inl rfl, trivial⟩, trivial, ?_⟩
   repeat' ((try conv => whnf); first | refine aq bd ?_ | fail)
   refine ⟨by simp [zeroText, hk2, hg4, hc4]; omega, by simp [zeroText, hk2, hg4, hc4]; omega, ?_⟩
   skip
   rw [secOf_eq g k true true p hp, ← hCR]
   refine sub_sl ?_
   simp [bodyOf, numTail, n4, kindB, zeroText]
   rw [List.take_of_length_le (by simp <;> omega), List.take_of_length_le (by simp <;> omega)]
   try simp
end Go.Proofs.YtjfjpnefohbobaaGreatDoor.K
/- Journals: the reference's Sync. Conditions: none. -/
namespace Go.Proofs.YtjfjpnefohbobaaGreatDoor.K
open Go.Avc
theorem write_one {d : Disk} (hl : 1 ≤ d.sectors.length ∧ d.sectors.length ≤ 4096) (hleft : -1 ≤ d.left ∧ d.left ≤ 65536) (h128 : ∀ s ∈ d.sectors, s.length = 128) (hrun : d.stopped = false) {P : List (Int × List UInt8)}
   (hP : ∀ p ∈ P, 0 ≤ p.1 ∧ p.1 < d.sectors.length ∧ p.2.length = 128) (hPl : P.length < 4096) {a : Nat} (ha : a < d.sectors.length) {s : List UInt8} (hs : s.length = 128) :
   (⟨d.sectors, P, d.left, d.stopped⟩ : Disk).write (a : Int) s = (⟨d.sectors, P ++ [((a : Int), s)], d.left, d.stopped⟩, 0) := by
 have hgood : (⟨d.sectors, P, d.left, d.stopped⟩ : Disk).good := by
   refine ⟨(show ¬ d.sectors.length < 1 by omega), (show ¬ 4096 < d.sectors.length by omega), (show ¬ 4096 < P.length by omega), (show ¬ d.left < -1 by omega), (show ¬ 65536 < d.left by omega), h128, fun p hp => ?_⟩
   obtain ⟨h1, h2, h3⟩ := hP p hp
   exact ⟨by omega, (show ¬ (d.sectors.length : Int) ≤ p.1 by omega), h3⟩
 unfold Disk.write
 rw [if_pos (ready_ok (check_good hgood) hrun), if_neg (show ¬ ((a : Int) < 0 ∨ (d.sectors.length : Int) ≤ a) by omega), if_neg (by omega), if_neg (show ¬ P.length = 4096 by omega)]
 have : put128 s = s := by unfold put128; simp [hs]
 rw [this]
theorem wrL_mem {g a : Nat} {b : List UInt8} {p : Int × List UInt8} (h : p ∈ wrL g a b) : (a : Int) ≤ p.1 ∧ p.1 < ((a + piecesN b.length : Nat) : Int) ∧ p.2.length = 128 := by
 obtain ⟨⟨s, i⟩, hx, rfl⟩ := List.mem_map.1 h
 obtain ⟨h1, h2⟩ := List.mem_zipIdx_iff_le_and_getElem?_sub.1 hx
 obtain ⟨h3, h4⟩ := List.getElem?_eq_some_iff.1 h2
 rw [encodeL_len] at h3
 refine ⟨by simp only; omega, by simp only; omega, encodeL_128 b a g _ (h4 ▸ List.getElem_mem _)⟩
theorem putL_mem {g : Nat} : ∀ {l : List (List UInt8)} {a : Nat} {p : Int × List UInt8}, p ∈ putL g a l → (a : Int) ≤ p.1 ∧ p.1 < ((a + occN l : Nat) : Int) ∧ p.2.length = 128
 | [], a, p, h => by simp [putL] at h
 | b :: l, a, p, h => by
   have ho : occN (b :: l) = piecesN b.length + occN l := by simp [occN]
   rcases List.mem_append.1 (show p ∈ wrL g a b ++ putL g (a + piecesN b.length) l from h) with h | h
   · obtain ⟨h1, h2, h3⟩ := wrL_mem h
     exact ⟨h1, by omega, h3⟩
   · obtain ⟨h1, h2, h3⟩ := putL_mem h
     exact ⟨by omega, by omega, h3⟩
theorem encodeL_getW (b : List UInt8) (a g m : Nat) (h : m < (encodeL b a g).length) : (encodeL b a g)[m] = secOf g (a + m) (m == 0) (m + 1 == piecesN b.length) (partOf b m) := by simp [encodeL]
attribute [local irreducible] PSub Wp PSpec Le Need Both
attribute [local irreducible] greatL recs encodeL occN piecesN putL
theorem rsync_spec (j : Jour) (d : Disk) (h : lensN j.records ≤ 100000) : PSpec Tryz.prog 29 [encJ j, encD d] (encJDE (j.sync d)) := by
 have qc := rcheck_spec j (by omega)
 have qd := refCheck_spec d
 obtain ⟨S, hS⟩ : ∃ S, S = j.sync d := ⟨_, rfl⟩
 rw [← hS]
 unfold Jour.sync at hS
 obtain ⟨C, hC⟩ : ∃ C, C = j.check := ⟨_, rfl⟩
 obtain ⟨D, hD⟩ : ∃ D, D = d.check := ⟨_, rfl⟩
 rw [← hC] at qc
 rw [← hD] at qd hS
 by_cases hg : j.good
 rotate_left
 · have e : C = 1 := by rw [hC]; unfold Jour.check; rw [if_neg hg]
   rw [if_pos hg] at hS
   refine PSpec.of_vc (fun Γ => more4 false Γ.P Γ.fx) (fun Γ => more4_ok) Tryz.func29 rfl Tryz.call29 (by simp) ?_
   rintro ⟨P, N, w0, X, β0, fx, y, hy, pk, df⟩ rfl rfl rfl hoff rfl; change y.on = false at hoff
   skip
   refine .inl ⟨_, qc, ?_⟩
   repeat' ((try conv => whnf); first | (first | refine k3 ?_ ?_ | refine k4 ?_ ?_) <;> intro hb <;> (try rw [lM] at hb) <;> try (exfalso; omega) | refine aq rfl ?_ | fail)
   exact sub_jdz (by rw [hS, e])
 have e : C = 0 := by rw [hC]; unfold Jour.check; rw [if_pos hg]
 rw [if_neg (by simpa using hg)] at hS
 by_cases hd0 : D = 0
 rotate_left
 · rw [if_pos hd0] at hS
   refine PSpec.of_vc (fun Γ => more4 false Γ.P Γ.fx) (fun Γ => more4_ok) Tryz.func29 rfl Tryz.call29 (by simp) ?_
   rintro ⟨P, N, w0, X, β0, fx, y, hy, pk, df⟩ rfl rfl rfl hoff rfl; change y.on = false at hoff
   skip
   refine .inl ⟨_, qc, ?_⟩
   repeat' ((try conv => whnf); first | (first | refine k3 ?_ ?_ | refine k4 ?_ ?_) <;> intro hb <;> (try rw [lM] at hb) <;> try (exfalso; omega) | fail)
   refine .inl ⟨_, qd, ?_⟩
   repeat' ((try conv => whnf); first | (first | refine k3 ?_ ?_ | refine k4 ?_ ?_) <;> intro hb <;> (try rw [lM] at hb) <;> try (exfalso; omega) | refine aq rfl ?_ | fail)
   exact sub_jdz (by rw [hS])
 rw [if_neg (by simpa using hd0)] at hS
 have hgood := good_of (hD.symm.trans hd0)
 have hrl := recs_len d.sectors
 have hdl : d.sectors.length ≤ 4096 := by have := hgood.2.1; omega
 have hit := rrecords_spec d.sectors hgood.2.2.2.2.2.1 hdl
 have qg := generation_spec d.sectors hgood.2.2.2.2.2.1 hdl
 have hgl := greatL_lt d.sectors
 obtain ⟨RR, hRR⟩ : ∃ RR, RR = recs d.sectors := ⟨_, rfl⟩
 obtain ⟨G, hG⟩ : ∃ G, G = greatL d.sectors := ⟨_, rfl⟩
 rw [← hRR] at hit hrl hS
 rw [← hG] at qg hgl hS
 obtain ⟨g1, g2, g3, g4, g5⟩ := hg
 have hq := sameRecords_spec RR (j.records.take j.synced.toNat) (by omega)
 obtain ⟨E, hE⟩ : ∃ E, E = (RR == j.records.take j.synced.toNat) := ⟨_, rfl⟩
 rw [← hE] at hq
 have hERof : E = true → RR = j.records.take j.synced.toNat := fun hh => eq_of_beq (hE.symm.trans hh)
 refine PSpec.of_vc (fun Γ => more4 false Γ.P Γ.fx) (fun Γ => more4_ok) Tryz.func29 rfl Tryz.call29 (by simp) ?_
 rintro ⟨P, N, w0, X, β0, fx, y, hy, pk, df⟩ rfl rfl rfl hoff rfl; change y.on = false at hoff
 skip
 refine .inl ⟨_, qc, ?_⟩
 repeat' ((try conv => whnf); first | (first | refine k3 ?_ ?_ | refine k4 ?_ ?_) <;> intro hb <;> (try rw [lM] at hb) <;> try (exfalso; omega) | fail)
 refine .inl ⟨_, qd, ?_⟩
 repeat' ((try conv => whnf); first | (first | refine k3 ?_ ?_ | refine k4 ?_ ?_) <;> intro hb <;> (try rw [lM] at hb) <;> try (exfalso; omega) | refine k6 (fun hb => ?_) fun hb => ?_ | refine aq rfl ?_ | fail)
 · exact sub_jdz (by rw [hS, if_pos (by assumption)])
 · exact sub_jdz (by rw [hS, if_neg (by simp_all), if_pos (.inr (by omega))])
 rotate_left
 · exact sub_jdz (by rw [hS, if_neg (by simp_all), if_pos (.inl (by assumption))])
 refine .inl ⟨_, qg, ?_⟩
 skip
 refine Wp.draw (more := more4 true _ _) more4_det more4_ok FOK.wide rfl (by decide +kernel) (by conv => lhs; reduce) ?_
 skip
 refine ⟨_, hit, ?_⟩
 repeat' ((try conv => whnf); first | refine aq rfl ?_ | refine aq bd ?_ | fail)
 have e1 : cut (List.map (fun s => [encB s]) j.records) 0 j.synced.toNat = (j.records.take j.synced.toNat).map fun s => [encB s] := by simp [cut, List.map_take]
 refine ⟨.bool E, by simp only [e1]; exact hq, ?_⟩
 repeat' ((try conv => whnf); first | (first | refine k3 ?_ ?_ | refine k4 ?_ ?_) <;> intro hb <;> (try rw [lM] at hb) <;> try (exfalso; omega) | refine k5 (fun hb => ?_) fun hb => ?_ | refine aq rfl ?_ | refine aq bd ?_ | fail)
 rotate_right
 · have hER : ¬ RR = j.records.take j.synced.toNat := fun hh => by
     have hbE : E = false := by assumption
     rw [hh] at hE; rw [hbE] at hE; simp at hE
   exact sub_jdz (by rw [hS, if_neg (by simp_all), if_neg (by omega), if_pos hER])
 all_goals have hER := hERof (by assumption)
 all_goals rw [if_neg (by simp_all), if_neg (by omega), if_neg (by simpa using hER)] at hS
 · exact sub_jdz (by rw [hS, if_pos (by omega)])
 all_goals rw [if_neg (show ¬ G = 4294967295 by omega)] at hS
 · rw [if_pos (show j.synced = (j.records.length : Int) by omega)] at hS
   refine Wp.draw (more := more4 true _ _) more4_det more4_ok FOK.wide rfl (by decide +kernel) (by conv => lhs; reduce) ?_
   repeat' ((try conv => whnf); first | refine aq rfl ?_ | fail)
   exact sub_jde (PSub.of_eq (by rw [hS]; rfl)) (PSub.of_eq (by rw [hS]; rfl)) (by rw [hS])
 rw [if_neg (show ¬ j.synced = (j.records.length : Int) by omega)] at hS
 have hsn : j.synced.toNat ≤ j.records.length := by omega
 have hlt := lensN_take j.records j.synced.toNat
 have qo := used_spec (j.records.take j.synced.toNat) (by omega)
 obtain ⟨R1, hR1⟩ : ∃ R1, R1 = j.records.take j.synced.toNat := ⟨_, rfl⟩
 obtain ⟨R2, hR2⟩ : ∃ R2, R2 = j.records.drop j.synced.toNat := ⟨_, rfl⟩
 have hoc : occN j.records = occN R1 + occN R2 := by
   rw [hR1, hR2]; unfold occN; conv => lhs; rw [← List.take_append_drop j.synced.toNat j.records, List.map_append, List.sum_append]
 have hR2l : R2.length = j.records.length - j.synced.toNat := by rw [hR2]; simp
 have hl2 : lensN R2 ≤ lensN j.records := by
   rw [hR2]; unfold lensN
   conv => rhs; rw [← List.take_append_drop j.synced.toNat j.records, List.map_append, List.sum_append]
   omega
 have hlj := lensN_len j.records
 rw [← hR1, ← hR2] at hS
 rw [← hR1] at qo
 obtain ⟨a0, ha0⟩ : ∃ a0, a0 = occN R1 := ⟨_, rfl⟩
 rw [← ha0] at qo hoc hS
 have hput0 : putL (G + 1) a0 [] = [] := by unfold putL; rfl
 have hpn : d.pending = [] := List.eq_nil_of_length_eq_zero (by omega)
 have hocc0 : occN ([] : List (List UInt8)) = 0 := by unfold occN; rfl
 refine .inl ⟨.int a0, by simp only [e1, ← hR1]; exact qo, ?_⟩
 skip
 refine Wp.loop (fun k : Nat => ⟨[(2, .loc 2 0 0), (3, .loc 3 0 0), (4, .loc 4 0 0), (5, .loc 5 0 0), (9, .pure (.val (.int .u64 (G + 1 : Nat)))), (10, .int (a0 + occN (R2.take k) : Nat)), (11, .int (j.synced + k))],
     [(2, some (.box [.pure (encS j.records), .int j.many, .int j.synced])), (3, some (.box [.pure (encS d.sectors), .pure (encWs (putL (G + 1) a0 (R2.take k))), .int d.left, .bool d.stopped])),
      (4, some (.box [.pure (.val (.slice none 0 0)), .int 0, .int 0])), (5, some (.box [.pure (.val (.slice none 0 0)), .pure (.val (.slice none 0 0)), .int 0, .bool false]))], [2, 3, 4, 5]⟩)
   (fun k => k ≤ R2.length) (fun k => R2.length - k) 0 (Le.of ?_ ?_ rfl rfl rfl) (by omega) ?_
 · simp only [List.take_zero, hocc0]
   (repeat' (first | exact trivial | refine aq ?_ ?_ | exact oq | exact l1 bd | fail))
 · simp only [List.take_zero, hput0, ← hpn]
   (repeat' (first | exact trivial | refine aq ?_ ?_ | refine Exists.intro _ (aq rfl ?_) | exact oq | fail))
 intro k hk
 by_cases hk2 : k < R2.length
 · have hbl := lensN_mem (List.getElem_mem hk2)
   have qn := sectors_spec R2[k].length (by omega)
   have hgk : j.records[(j.synced + (k : Int)).toNat]'(by omega) = R2[k] := by
     have hx : (j.synced + (k : Int)).toNat = j.synced.toNat + k := by omega
     simp only [hR2, List.getElem_drop, hx]
   have hPl : (putL (G + 1) a0 (R2.take k)).length = occN (R2.take k) := putL_len _ _ _
   have hA2 : occN (R2.take (k + 1)) = occN (R2.take k) + piecesN R2[k].length := occN_take R2 hk2
   have hpl := piecesN_le R2[k].length
   have hot : occN (R2.take (k + 1)) ≤ occN R2 := by
     unfold occN
     conv => rhs; rw [← List.take_append_drop (k + 1) R2, List.map_append, List.sum_append]
     omega
   obtain ⟨pn, hpnn⟩ : ∃ pn, pn = piecesN R2[k].length := ⟨_, rfl⟩
   rw [← hpnn] at qn hA2 hpl
   refine code_sound (more := more4 false _ _) more4_ok FOK.wide _ ?_
   repeat' ((try conv => whnf); first | (first | refine k3 ?_ ?_ | refine k4 ?_ ?_) <;> intro hb <;> (try rw [lM] at hb) <;> try (exfalso; omega) | refine s6 nm nm ?_ | fail)
   simp only [hgk]
   refine .inl ⟨.int pn, by simp only [List.length_map]; exact qn, ?_⟩
   skip
   obtain ⟨A, hA⟩ : ∃ A, A = a0 + occN (R2.take k) := ⟨_, rfl⟩
   obtain ⟨PL, hPL⟩ : ∃ PL, PL = putL (G + 1) a0 (R2.take k) := ⟨_, rfl⟩
   obtain ⟨W, hW⟩ : ∃ W, W = wrL (G + 1) A R2[k] := ⟨_, rfl⟩
   have hWl : W.length = pn := by rw [hW, wrL_len, hpnn]
   have hP2 : putL (G + 1) a0 (R2.take (k + 1)) = PL ++ W := by
     rw [List.take_succ_eq_append_getElem hk2, putL_snoc, hPL, hW, hA]
   have hm112 : ∀ m, m < pn → 112 * m ≤ R2[k].length := fun m hm => by rw [hpnn] at hm; unfold piecesN at hm; omega
   rw [← hPL] at hPl
   rw [← hA, ← hPL]
   refine Wp.loop (fun m : Nat => ⟨[(2, .loc 2 0 0), (3, .loc 3 0 0), (4, .loc 4 0 0), (5, .loc 5 0 0), (9, .pure (.val (.int .u64 (G + 1 : Nat)))), (10, .int (A + m : Nat)), (11, .int (j.synced + k)), (12, .pure (encB R2[k])), (13, .int pn), (14, .int m)],
       [(2, some (.box [.pure (encS j.records), .int j.many, .int j.synced])), (3, some (.box [.pure (encS d.sectors), .pure (encWs (PL ++ W.take m)), .int d.left, .bool d.stopped])),
        (4, some (.box [.pure (.val (.slice none 0 0)), .int 0, .int 0])), (5, some (.box [.pure (.val (.slice none 0 0)), .pure (.val (.slice none 0 0)), .int 0, .bool false]))], [2, 3, 4, 5]⟩)
     (fun m => m ≤ pn) (fun m => pn - m) 0 (Le.of ?_ ?_ rfl rfl rfl) (by omega) ?_
   · (repeat' (first | exact trivial | refine aq ?_ ?_ | exact oq | fail))
   · simp only [List.take_zero, List.append_nil]
     (repeat' (first | exact trivial | refine aq ?_ ?_ | refine Exists.intro _ (aq rfl ?_) | exact oq | fail))
   intro m hm
   by_cases hm2 : m < pn
   · have hm3 := hm112 m hm2
     have qs := sector_spec (G + 1) (A + m) (partOf R2[k] m) (by omega) (by omega) (partOf_le _ _) (m == 0) (m + 1 == pn)
     refine code_sound (more := more4 false _ _) more4_ok FOK.wide _ ?_
     repeat' ((try conv => whnf); first | (first | refine k3 ?_ ?_ | refine k4 ?_ ?_) <;> intro hb <;> (try rw [lM] at hb) <;> try (exfalso; omega) | refine s4 nm ?_ | refine aq bd ?_ | fail)
     refine Wp.draw (more := more4 true _ _) more4_det more4_ok FOK.wide rfl (by decide +kernel) (by conv => lhs; reduce) ?_
     repeat' ((try conv => whnf); first | refine s4 nm ?_ | fail)
     have hlm : m < (encodeL R2[k] A (G + 1)).length := by rw [encodeL_len, ← hpnn]; exact hm2
     have hget := encodeL_getW R2[k] A (G + 1) m hlm
     have hWt := wrL_take (G + 1) A R2[k] hlm
     rw [← hW] at hWt
     rw [← hpnn] at hget
     obtain ⟨SB, hSB⟩ : ∃ SB, SB = (encodeL R2[k] A (G + 1))[m] := ⟨_, rfl⟩
     have hSBl : SB.length = 128 := by rw [hSB]; exact encodeL_128 _ _ _ _ (List.getElem_mem _)
     rw [← hSB] at hWt hget
     rw [← hget] at qs
     have hmem : ∀ p ∈ PL ++ W.take m, 0 ≤ p.1 ∧ p.1 < d.sectors.length ∧ p.2.length = 128 := by
       intro p hp
       rcases List.mem_append.1 hp with hp | hp
       · rw [hPL] at hp
         obtain ⟨h1, h2, h3⟩ := putL_mem hp
         exact ⟨by omega, by omega, h3⟩
       · have hp := List.mem_of_mem_take hp
         rw [hW] at hp
         obtain ⟨h1, h2, h3⟩ := wrL_mem hp
         exact ⟨by omega, by omega, h3⟩
     have hlen : (PL ++ W.take m).length < 4096 := by simp; omega
     have qw := refWrite_spec ⟨d.sectors, PL ++ W.take m, d.left, d.stopped⟩ ((A + m : Nat) : Int) SB
     rw [write_one ⟨by omega, hdl⟩ (by have h1 := hgood.2.2.2.1; have h2 := hgood.2.2.2.2.1; omega) hgood.2.2.2.2.2.1 (by assumption) hmem hlen (show A + m < d.sectors.length by omega) hSBl] at qw
     obtain ⟨NP, hNP⟩ : ∃ NP, NP = PL ++ W.take m ++ [(((A + m : Nat) : Int), SB)] := ⟨_, rfl⟩
     rw [← hNP] at qw
     have hNP2 : PL ++ W.take (m + 1) = NP := by rw [hNP, hWt, List.append_assoc]
     refine ⟨encB SB, qs.args ⟨PSub.refl _, PSub.refl _, PSub.val_bool (Bool.eq_iff_iff.2 (by simp)), PSub.val_bool (Bool.eq_iff_iff.2 (by simp; omega)), sub_sl (by simp only [cut, partOf, List.map_take, List.map_drop]; rw [show ((m : Int) * 112).toNat = 112 * m by omega, List.take_eq_take_iff]; simp only [List.length_drop, List.length_map]; omega), trivial⟩, ?_⟩
     repeat' ((try conv => whnf); first | refine aq rfl ?_ | fail)
     refine ⟨_, qw, ?_⟩
     repeat' ((try conv => whnf); first | refine aq rfl ?_ | refine s4 nm ?_ | fail)
     rw [← hNP2]
     exact ⟨m + 1, Le.of (by (repeat' (first | exact trivial | refine aq ?_ ?_ | exact oq | fail))) (by (repeat' (first | exact trivial | refine aq ?_ ?_ | refine Exists.intro _ (aq rfl ?_) | exact oq | fail))) rfl rfl rfl, by omega, by omega⟩
   · have em : m = pn := by omega
     have hWf : W.take m = W := List.take_of_length_le (by omega)
     rw [hWf, ← hP2, em, hA, Nat.add_assoc, ← hA2]
     refine code_sound (more := more4 false _ _) more4_ok FOK.wide _ ?_
     repeat' ((try conv => whnf); first | (first | refine k3 ?_ ?_ | refine k4 ?_ ?_) <;> intro hb <;> (try rw [lM] at hb) <;> try (exfalso; omega) | refine s4 nm ?_ | fail)
     exact ⟨k + 1, Le.of (by (repeat' (first | exact trivial | refine aq ?_ ?_ | exact oq | exact l1 bd | fail))) (by (repeat' (first | exact trivial | refine aq ?_ ?_ | refine Exists.intro _ (aq rfl ?_) | exact oq | fail))) rfl rfl rfl, by omega, by omega⟩
 · have ek : k = R2.length := by omega
   subst ek
   rw [List.take_length]
   have qs := refSync_spec { d with pending := putL (G + 1) a0 R2 }
   obtain ⟨Y, hY⟩ : ∃ Y, Y = ({ d with pending := putL (G + 1) a0 R2 } : Disk).sync := ⟨_, rfl⟩
   rw [← hY] at qs
   have hS2 : S = if Y.2 = 0 then (⟨j.records, j.many, j.records.length⟩, Y.1, 0) else (zeroJ, Y.1, Y.2) := by rw [hS]; simp only [hY]
   refine code_sound (more := more4 false _ _) more4_ok FOK.wide _ ?_
   repeat' ((try conv => whnf); first | (first | refine k3 ?_ ?_ | refine k4 ?_ ?_) <;> intro hb <;> (try rw [lM] at hb) <;> try (exfalso; omega) | fail)
   refine .inl ⟨_, qs, ?_⟩
   repeat' ((try conv => whnf); first | (first | refine k3 ?_ ?_ | refine k4 ?_ ?_) <;> intro hb <;> (try rw [lM] at hb) <;> try (exfalso; omega) | refine aq rfl ?_ | fail)
   all_goals (refine Wp.draw (more := more4 true _ _) more4_det more4_ok FOK.wide rfl (by decide +kernel) (by conv => lhs; reduce) ?_)
   all_goals (repeat' ((try conv => whnf); first | refine aq rfl ?_ | fail))
   rotate_left
   · rw [if_neg (show ¬ Y.2 = 0 by assumption)] at hS2
     rw [hS2]
     exact sub_jde (PSub.agg ⟨PSub.nil 1, PSub.refl _, PSub.refl _, trivial⟩) (PSub.refl _) rfl
   · rw [if_pos (show Y.2 = 0 by assumption)] at hS2
     rw [hS2]
     exact sub_jde (PSub.agg ⟨PSub.refl _, PSub.refl _, PSub.of_eq (by simp), trivial⟩) (PSub.refl _) rfl
end Go.Proofs.YtjfjpnefohbobaaGreatDoor.K
