/- Codec: the reference's reader; next. Conditions: none. -/
import Derived.Test.YtjfjpnefohbobaaGreatDoorWd
import Derived.Test.YtjfjpnefohbobaaGreatDoorWg
set_option linter.unusedSimpArgs false
set_option linter.unusedVariables false
set_option maxRecDepth 20000
set_option maxHeartbeats 4000000
namespace Go.Proofs.YtjfjpnefohbobaaGreatDoor
open Go.Avc
abbrev rdB (b : List UInt8) (i : Nat) : Option Blk := some (.box [.pure (encB b), .int i, .bool false])
abbrev rdX (b : List UInt8) : Option Blk := some (.box [.pure (encB b), .junk, .bool true])
attribute [local irreducible] PSub Wp PSpec Le Need Both
theorem next_ok (b : List UInt8) (i : Nat) (hb : b.length ≤ 1000000) (hi : i < b.length) : GSpec Tryz.prog 142 1 ⟨[(0, .loc 300 0 0)], [(300, rdB b i)], [300]⟩ [300] 1
   ⟨[(0, .pure (.val (.int .u8 (b[i].toNat : Int))))], [(300, rdB b (i + 1))], [300]⟩ := by
 refine GSpec.of_vc (fun Γ => more5 false Γ.P Γ.fx) (fun Γ => more5_ok) Tryz.func142 rfl Tryz.call142 (by decide) ?_
 rintro ⟨P, N, w0, X, β0, fx, y, hy, pk, df⟩ rfl rfl rfl hoff rfl; change y.on = false at hoff
 skip
 refine Wp.draw (more := more5 true _ _) more5_det more5_ok FOK.wide rfl (by decide +kernel) (by conv => lhs; reduce) ?_
 repeat' ((try conv => whnf); first|(first|refine k3 ?_ ?_|refine k4 ?_ ?_) <;> intro hb <;> (try rw [lM] at hb) <;> try (exfalso; omega)|refine aq rfl ?_|refine s4 nm ?_|fail)
 all_goals first | (exfalso; omega) | skip
 refine Wp.draw (more := more5 true _ _) more5_det more5_ok FOK.wide rfl (by decide +kernel) (by conv => lhs; reduce) ?_
 repeat' ((try conv => whnf); first|refine s4 nm ?_|refine s6 nm nm ?_|fail)
 all_goals first | (exfalso; omega) | skip
 refine Le.of ?_ ?_ rfl rfl rfl
 · (repeat' (first|exact trivial|refine aq ?_ ?_|exact l1 bd|fail))
   all_goals exact Or.inr (Or.inl rfl)
 · (repeat' (first|exact trivial|refine aq ?_ ?_|refine Exists.intro _ (aq rfl ?_)|exact oq|fail))
   all_goals exact Or.inr (Or.inl rfl)
theorem next_no (b : List UInt8) (hb : b.length ≤ 1000000) : GSpec Tryz.prog 142 1 ⟨[(0, .loc 300 0 0)], [(300, rdB b b.length)], [300]⟩ [300] 1
   ⟨[(0, .pure (.val (.int .u8 0)))], [(300, rdX b)], [300]⟩ := by
 refine GSpec.of_vc (fun Γ => more5 false Γ.P Γ.fx) (fun Γ => more5_ok) Tryz.func142 rfl Tryz.call142 (by decide) ?_
 rintro ⟨P, N, w0, X, β0, fx, y, hy, pk, df⟩ rfl rfl rfl hoff rfl; change y.on = false at hoff
 skip
 refine Wp.draw (more := more5 true _ _) more5_det more5_ok FOK.wide rfl (by decide +kernel) (by conv => lhs; reduce) ?_
 repeat' ((try conv => whnf); first|(first|refine k3 ?_ ?_|refine k4 ?_ ?_) <;> intro hb <;> (try rw [lM] at hb) <;> try (exfalso; omega)|refine aq rfl ?_|fail)
 all_goals first | (exfalso; simp at hb; omega) | skip
 refine Le.of ?_ ?_ rfl rfl rfl
 · (repeat' (first|exact trivial|refine aq ?_ ?_|exact oq|fail))
   all_goals exact Or.inr (Or.inl rfl)
 · (repeat' (first|exact trivial|refine aq ?_ ?_|refine Exists.intro _ (aq rfl ?_)|exact oq|fail))
   all_goals exact Or.inr (Or.inl rfl)
end Go.Proofs.YtjfjpnefohbobaaGreatDoor
/- Codec: the reference's reader; number. Conditions: none. -/
namespace Go.Proofs.YtjfjpnefohbobaaGreatDoor
open Go.Avc
theorem drop_c {b : List UInt8} {i : Nat} {c : UInt8} {m : List UInt8} (h : b.drop i = c :: m) : ∃ hi : i < b.length, b[i] = c ∧ b.drop (i + 1) = m := by
 have hi : i < b.length := Nat.lt_of_not_le fun hn => by rw [List.drop_eq_nil_of_le hn] at h; cases h
 rw [List.drop_eq_getElem_cons hi] at h
 exact ⟨hi, (List.cons.inj h).1, (List.cons.inj h).2⟩
theorem drop_n {b : List UInt8} {i : Nat} (hi : i ≤ b.length) (h : b.drop i = []) : i = b.length := by
 have := congrArg List.length h
 rw [List.length_drop, List.length_nil] at this
 omega
theorem rem_128 (c : UInt8) : (c.toNat : Int).tmod 128 = ((c.toNat % 128 : Nat) : Int) := by
 rw [show (128 : Int) = ((128 : Nat) : Int) from rfl]; exact (Int.ofNat_tmod c.toNat 128).symm
theorem conv_64 (n : Nat) (h : n < 128) : IntKind.u64.wrap ((n : Nat) : Int) = ((n : Nat) : Int) := by rw [wrap_u64]; omega
theorem add_64 (v x : Nat) (h : v + x < 18446744073709551616) : IntKind.u64.wrap ((v : Int) + (x : Int)) = ((v + x : Nat) : Int) := by rw [wrap_u64]; omega
attribute [local irreducible] PSub Wp PSpec Le Need Both
theorem rnumber_ok (b : List UInt8) (hb0 : b.length ≤ 1000000) (i : Nat) (hi0 : i ≤ b.length) (u : Nat) (r : List UInt8) (h : pnum 0 0 (b.drop i) = some (u, r)) : GSpec Tryz.prog 143 1 ⟨[(0, .loc 300 0 0)], [(300, rdB b i)], [300]⟩ [300] 1
   ⟨[(0, .pure (.val (.int .u64 u)))], [(300, rdB b (b.length - r.length))], [300]⟩ := by
 refine GSpec.of_vc (fun Γ => more5 false Γ.P Γ.fx) (fun Γ => more5_ok) Tryz.func143 rfl Tryz.call143 (by decide) ?_
 rintro ⟨P, N, w0, X, β0, fx, y, hy, pk, df⟩ rfl rfl rfl hoff rfl; change y.on = false at hoff
 skip
 refine Wp.loop (fun x : Nat × Nat => ⟨[(0, .loc 300 0 0), (3, .pure (.val (.int .u64 x.2))), (4, .int x.1)], [(300, rdB b (i + x.1))], [300]⟩) (fun x => x.1 ≤ 9 ∧ x.2 < 2 ^ (7 * x.1) ∧ i + x.1 ≤ b.length ∧ pnum x.1 x.2 (b.drop (i + x.1)) = some (u, r)) (fun x => 10 - x.1) (0, 0) (Le.of ?_ ?_ rfl rfl rfl) ⟨by simp, by simp, hi0, h⟩ ?_
 · (repeat' (first|exact trivial|refine aq ?_ ?_|exact oq|fail))
 · (repeat' (first|exact trivial|refine aq ?_ ?_|refine Exists.intro _ (aq rfl ?_)|exact oq|fail))
 rintro ⟨k, v⟩ ⟨hk, hv, hik, hp⟩
 dsimp only at hk hv hik hp ⊢
 cases hm : b.drop (i + k) with
 | nil => rw [hm] at hp; cases hp
 | cons c m =>
   obtain ⟨hlt, hc1, hm2⟩ := drop_c hm
   rw [hm, pnum_cons] at hp
   have qt := next_ok b (i + k) hb0 hlt
   rw [hc1] at qt
   have hcl := UInt8.toNat_lt c
   have hml : m.length = b.length - (i + k + 1) := by rw [← hm2, List.length_drop]
   split at hp
   · cases hp
   rename_i hno
   have hs := seven_lt (i := k) (c := c.toNat % 128) hk (by omega) (by omega)
   have hnx := seven_next (i := k) (c := c.toNat % 128) hv (by omega)
   have h64 : v + c.toNat % 128 * 2 ^ (7 * k) < 18446744073709551616 := by
     by_cases h9 : k = 9
     · subst h9
       have h1 : c.toNat % 128 ≤ 1 := by omega
       have h2 : c.toNat % 128 * 2 ^ (7 * 9) ≤ 1 * 2 ^ (7 * 9) := Nat.mul_le_mul_right _ h1
       have h3 : 2 ^ (7 * 9) + 1 * 2 ^ (7 * 9) ≤ (18446744073709551616 : Nat) := by decide
       omega
     · have h1 : 2 ^ (7 * (k + 1)) ≤ 2 ^ 63 := Nat.pow_le_pow_right (by decide) (by omega)
       have h3 : 2 ^ 63 < (18446744073709551616 : Nat) := by decide
       omega
   by_cases hc : c.toNat < 128
   · rw [if_pos hc] at hp
     have h1 := congrArg Prod.fst (Option.some.inj hp)
     have h2 := congrArg Prod.snd (Option.some.inj hp)
     dsimp only at h1 h2
     subst h2
     rw [← h1]
     refine code_sound (more := more5 false _ _) more5_ok FOK.wide _ ?_
     skip
     refine .inr ⟨[(300, 300)], [.loc 300 0 0], [(300, rdB b (i + k))], [300], [300], 1, _, qt, ⟨Or.inl rfl, trivial⟩, ⟨rfl, trivial⟩, ?_⟩
     repeat' ((try conv => whnf); first|(first|refine k3 ?_ ?_|refine k4 ?_ ?_) <;> intro hb <;> (try rw [lM] at hb) <;> try (exfalso; omega)|refine aq bd ?_|fail)
     all_goals first | (exfalso; omega) | skip
     all_goals refine ⟨_, rem_128 c, ?_⟩
     all_goals (skip)
     all_goals refine ⟨_, conv_64 _ (by omega), ?_⟩
     all_goals (repeat' ((try conv => whnf); first|refine s4 nm ?_|refine aq bd ?_|fail))
     all_goals refine ⟨((c.toNat % 128 * 2 ^ (7 * k) : Nat) : Int), by rw [show (7 * (k : Int)) = ((7 * k : Nat) : Int) from by omega]; exact shl_u64 (by omega) hs, ?_⟩
     all_goals (skip)
     all_goals refine ⟨_, add_64 v _ h64, ?_⟩
     all_goals (repeat' ((try conv => whnf); first|(first|refine k3 ?_ ?_|refine k4 ?_ ?_) <;> intro hb <;> (try rw [lM] at hb) <;> try (exfalso; omega)|fail))
     all_goals first | (exfalso; omega) | skip
     all_goals (refine Le.of ?_ ?_ rfl rfl rfl)
     all_goals ((repeat' (first|exact trivial|refine aq ?_ ?_|refine Exists.intro _ (aq rfl ?_)|exact oq|exact l1 bd|fail)))
     all_goals exact l1 (by omega)
   · rw [if_neg hc] at hp
     refine code_sound (more := more5 false _ _) more5_ok FOK.wide _ ?_
     skip
     refine .inr ⟨[(300, 300)], [.loc 300 0 0], [(300, rdB b (i + k))], [300], [300], 1, _, qt, ⟨Or.inl rfl, trivial⟩, ⟨rfl, trivial⟩, ?_⟩
     repeat' ((try conv => whnf); first|(first|refine k3 ?_ ?_|refine k4 ?_ ?_) <;> intro hb <;> (try rw [lM] at hb) <;> try (exfalso; omega)|refine aq bd ?_|fail)
     all_goals first | (exfalso; omega) | skip
     all_goals refine ⟨_, rem_128 c, ?_⟩
     all_goals (skip)
     all_goals refine ⟨_, conv_64 _ (by omega), ?_⟩
     all_goals (repeat' ((try conv => whnf); first|refine s4 nm ?_|refine aq bd ?_|fail))
     all_goals refine ⟨((c.toNat % 128 * 2 ^ (7 * k) : Nat) : Int), by rw [show (7 * (k : Int)) = ((7 * k : Nat) : Int) from by omega]; exact shl_u64 (by omega) hs, ?_⟩
     all_goals (skip)
     all_goals refine ⟨_, add_64 v _ h64, ?_⟩
     all_goals (repeat' ((try conv => whnf); first|(first|refine k3 ?_ ?_|refine k4 ?_ ?_) <;> intro hb <;> (try rw [lM] at hb) <;> try (exfalso; omega)|refine s4 nm ?_|fail))
     all_goals first | (exfalso; omega) | skip
     all_goals exact ⟨(k + 1, v + c.toNat % 128 * 2 ^ (7 * k)), Le.of (by (repeat' (first|exact trivial|refine aq ?_ ?_|exact oq|fail))) (by (repeat' (first|exact trivial|refine aq ?_ ?_|refine Exists.intro _ (aq rfl ?_)|exact oq|fail))) rfl rfl rfl, ⟨by simp only; omega, hnx, by simp only; omega, by rw [show i + (k + 1) = i + k + 1 by omega, hm2]; exact hp⟩, by simp only; omega⟩
end Go.Proofs.YtjfjpnefohbobaaGreatDoor
/- Codec: the reference's reader; there is no number. Conditions: none. -/
namespace Go.Proofs.YtjfjpnefohbobaaGreatDoor
open Go.Avc
attribute [local irreducible] PSub Wp PSpec Le Need Both
theorem rnumber_no (b : List UInt8) (hb0 : b.length ≤ 1000000) (i : Nat) (hi0 : i ≤ b.length) (h : pnum 0 0 (b.drop i) = none) : GSpec Tryz.prog 143 1 ⟨[(0, .loc 300 0 0)], [(300, rdB b i)], [300]⟩ [300] 1
   ⟨[(0, .pure (.val (.int .u64 (0 : Nat))))], [(300, rdX b)], [300]⟩ := by
 refine GSpec.of_vc (fun Γ => more5 false Γ.P Γ.fx) (fun Γ => more5_ok) Tryz.func143 rfl Tryz.call143 (by decide) ?_
 rintro ⟨P, N, w0, X, β0, fx, y, hy, pk, df⟩ rfl rfl rfl hoff rfl; change y.on = false at hoff
 skip
 refine Wp.loop (fun x : Nat × Nat => ⟨[(0, .loc 300 0 0), (3, .pure (.val (.int .u64 x.2))), (4, .int x.1)], [(300, rdB b (i + x.1))], [300]⟩) (fun x => x.1 ≤ 9 ∧ x.2 < 2 ^ (7 * x.1) ∧ i + x.1 ≤ b.length ∧ pnum x.1 x.2 (b.drop (i + x.1)) = none) (fun x => 10 - x.1) (0, 0) (Le.of ?_ ?_ rfl rfl rfl) ⟨by simp, by simp, hi0, h⟩ ?_
 · (repeat' (first|exact trivial|refine aq ?_ ?_|exact oq|fail))
 · (repeat' (first|exact trivial|refine aq ?_ ?_|refine Exists.intro _ (aq rfl ?_)|exact oq|fail))
 rintro ⟨k, v⟩ ⟨hk, hv, hik, hp⟩
 dsimp only at hk hv hik hp ⊢
 cases hm : b.drop (i + k) with
 | nil =>
   have hkl := drop_n hik hm
   have qt := next_no b hb0
   rw [← hkl] at qt
   rw [hkl] at qt
   by_cases hk0 : k = 0
   · subst hk0
     have hv0 : v = 0 := by simpa using hv
     subst hv0
     rw [hkl]
     refine code_sound (more := more5 false _ _) more5_ok FOK.wide _ ?_
     skip
     refine .inr ⟨[(300, 300)], [.loc 300 0 0], [(300, rdB b b.length)], [300], [300], 1, _, qt, ⟨Or.inl rfl, trivial⟩, ⟨rfl, trivial⟩, ?_⟩
     repeat' ((try conv => whnf); first|refine aq bd ?_|fail)
     all_goals first | (exfalso; omega) | skip
     refine ⟨0, by decide, ?_⟩
     skip
     refine ⟨0, by decide, ?_⟩
     repeat' ((try conv => whnf); first|refine s4 nm ?_|refine aq bd ?_|fail)
     refine ⟨0, by first | decide | (rw [Int.zero_mul]; decide), ?_⟩
     skip
     refine ⟨0, by decide, ?_⟩
     skip
     all_goals (refine Le.of ?_ ?_ rfl rfl rfl)
     all_goals ((repeat' (first|exact trivial|refine aq ?_ ?_|refine Exists.intro _ (aq rfl ?_)|exact oq|fail)))
     all_goals exact Or.inr (Or.inl rfl)
   · rw [hkl]
     refine code_sound (more := more5 false _ _) more5_ok FOK.wide _ ?_
     skip
     refine .inr ⟨[(300, 300)], [.loc 300 0 0], [(300, rdB b b.length)], [300], [300], 1, _, qt, ⟨Or.inl rfl, trivial⟩, ⟨rfl, trivial⟩, ?_⟩
     repeat' ((try conv => whnf); first|(first|refine k3 ?_ ?_|refine k4 ?_ ?_) <;> intro hb <;> (try rw [lM] at hb) <;> try (exfalso; omega)|refine aq rfl ?_|fail)
     all_goals first | (exfalso; omega) | skip
     all_goals (refine Le.of ?_ ?_ rfl rfl rfl)
     all_goals ((repeat' (first|exact trivial|refine aq ?_ ?_|refine Exists.intro _ (aq rfl ?_)|exact oq|fail)))
     all_goals exact Or.inr (Or.inl rfl)
 | cons c m =>
   obtain ⟨hlt, hc1, hm2⟩ := drop_c hm
   rw [hm, pnum_cons] at hp
   have qt := next_ok b (i + k) hb0 hlt
   rw [hc1] at qt
   have hcl := UInt8.toNat_lt c
   have hml : m.length = b.length - (i + k + 1) := by rw [← hm2, List.length_drop]
   split at hp
   · rename_i hno
     refine code_sound (more := more5 false _ _) more5_ok FOK.wide _ ?_
     skip
     refine .inr ⟨[(300, 300)], [.loc 300 0 0], [(300, rdB b (i + k))], [300], [300], 1, _, qt, ⟨Or.inl rfl, trivial⟩, ⟨rfl, trivial⟩, ?_⟩
     repeat' ((try conv => whnf); first|(first|refine k3 ?_ ?_|refine k4 ?_ ?_) <;> intro hb <;> (try rw [lM] at hb) <;> try (exfalso; omega)|refine aq rfl ?_|fail)
     all_goals first | (exfalso; omega) | skip
     all_goals (refine Le.of ?_ ?_ rfl rfl rfl)
     all_goals ((repeat' (first|exact trivial|refine aq ?_ ?_|refine Exists.intro _ (aq rfl ?_)|exact oq|fail)))
     all_goals exact Or.inr (Or.inl rfl)
   rename_i hno
   have hs := seven_lt (i := k) (c := c.toNat % 128) hk (by omega) (by omega)
   have hnx := seven_next (i := k) (c := c.toNat % 128) hv (by omega)
   by_cases hc : c.toNat < 128
   · rw [if_pos hc] at hp; cases hp
   · rw [if_neg hc] at hp
     have h9 : k ≠ 9 := by omega
     have h64 : v + c.toNat % 128 * 2 ^ (7 * k) < 18446744073709551616 := by
       have h1 : 2 ^ (7 * (k + 1)) ≤ 2 ^ 63 := Nat.pow_le_pow_right (by decide) (by omega)
       have h3 : 2 ^ 63 < (18446744073709551616 : Nat) := by decide
       omega
     refine code_sound (more := more5 false _ _) more5_ok FOK.wide _ ?_
     skip
     refine .inr ⟨[(300, 300)], [.loc 300 0 0], [(300, rdB b (i + k))], [300], [300], 1, _, qt, ⟨Or.inl rfl, trivial⟩, ⟨rfl, trivial⟩, ?_⟩
     repeat' ((try conv => whnf); first|(first|refine k3 ?_ ?_|refine k4 ?_ ?_) <;> intro hb <;> (try rw [lM] at hb) <;> try (exfalso; omega)|refine aq bd ?_|fail)
     all_goals first | (exfalso; omega) | skip
     all_goals refine ⟨_, rem_128 c, ?_⟩
     all_goals (skip)
     all_goals refine ⟨_, conv_64 _ (by omega), ?_⟩
     all_goals (repeat' ((try conv => whnf); first|refine s4 nm ?_|refine aq bd ?_|fail))
     all_goals refine ⟨((c.toNat % 128 * 2 ^ (7 * k) : Nat) : Int), by rw [show (7 * (k : Int)) = ((7 * k : Nat) : Int) from by omega]; exact shl_u64 (by omega) hs, ?_⟩
     all_goals (skip)
     all_goals refine ⟨_, add_64 v _ h64, ?_⟩
     all_goals (repeat' ((try conv => whnf); first|(first|refine k3 ?_ ?_|refine k4 ?_ ?_) <;> intro hb <;> (try rw [lM] at hb) <;> try (exfalso; omega)|refine s4 nm ?_|fail))
     all_goals first | (exfalso; omega) | skip
     all_goals exact ⟨(k + 1, v + c.toNat % 128 * 2 ^ (7 * k)), Le.of (by (repeat' (first|exact trivial|refine aq ?_ ?_|exact oq|fail))) (by (repeat' (first|exact trivial|refine aq ?_ ?_|refine Exists.intro _ (aq rfl ?_)|exact oq|fail))) rfl rfl rfl, ⟨by simp only; omega, hnx, by simp only; omega, by rw [show i + (k + 1) = i + k + 1 by omega, hm2]; exact hp⟩, by simp only; omega⟩
end Go.Proofs.YtjfjpnefohbobaaGreatDoor
/- Codec: the reference's reader, by what is left to read. Conditions: none. -/
namespace Go.Proofs.YtjfjpnefohbobaaGreatDoor
open Go.Avc
theorem suf_drop {m b : List UInt8} (h : m <:+ b) : b.drop (b.length - m.length) = m := by
 obtain ⟨t, rfl⟩ := h
 rw [List.length_append, Nat.add_sub_cancel, List.drop_left]
theorem suf_cons {c : UInt8} {m b : List UInt8} (h : c :: m <:+ b) : m <:+ b := by
 obtain ⟨t, rfl⟩ := h
 exact ⟨t ++ [c], by simp⟩
theorem next_S {b m : List UInt8} {c : UInt8} (hb : b.length ≤ 1000000) (h : c :: m <:+ b) : GSpec Tryz.prog 142 1 ⟨[(0, .loc 300 0 0)], [(300, rdB b (b.length - (m.length + 1)))], [300]⟩ [300] 1
   ⟨[(0, .pure (.val (.int .u8 (c.toNat : Int))))], [(300, rdB b (b.length - m.length))], [300]⟩ := by
 have hl := h.length_le
 simp only [List.length_cons] at hl
 obtain ⟨hi, h1, h2⟩ := drop_c (suf_drop h)
 have := next_ok b _ hb hi
 rw [h1] at this
 simp only [List.length_cons] at this
 rwa [show b.length - (m.length + 1) + 1 = b.length - m.length by omega] at this
theorem next_N {b : List UInt8} (hb : b.length ≤ 1000000) : GSpec Tryz.prog 142 1 ⟨[(0, .loc 300 0 0)], [(300, rdB b (b.length - 0))], [300]⟩ [300] 1
   ⟨[(0, .pure (.val (.int .u8 0)))], [(300, rdX b)], [300]⟩ := by rw [Nat.sub_zero]; exact next_no b hb
theorem rnumber_S {b m r : List UInt8} {u : Nat} (hb : b.length ≤ 1000000) (h : m <:+ b) (hp : pnum 0 0 m = some (u, r)) : r <:+ m ∧ GSpec Tryz.prog 143 1 ⟨[(0, .loc 300 0 0)], [(300, rdB b (b.length - m.length))], [300]⟩ [300] 1
   ⟨[(0, .pure (.val (.int .u64 u)))], [(300, rdB b (b.length - r.length))], [300]⟩ := by
 refine ⟨⟨_, (pnum_got hp).symm⟩, rnumber_ok b hb _ (Nat.sub_le _ _) u r ?_⟩
 rw [suf_drop h]; exact hp
theorem rnumber_N {b m : List UInt8} (hb : b.length ≤ 1000000) (h : m <:+ b) (hp : pnum 0 0 m = none) : GSpec Tryz.prog 143 1 ⟨[(0, .loc 300 0 0)], [(300, rdB b (b.length - m.length))], [300]⟩ [300] 1
   ⟨[(0, .pure (.val (.int .u64 (0 : Nat))))], [(300, rdX b)], [300]⟩ := by
 refine rnumber_no b hb _ (Nat.sub_le _ _) ?_
 rw [suf_drop h]; exact hp
def rdO (b : List UInt8) (o : Option (List UInt8)) : Option Blk := match o with
 | some r => rdB b (b.length - r.length)
 | none => rdX b
theorem rdO_none (b : List UInt8) : rdO b none = rdX b := rfl
theorem rdO_some (b r : List UInt8) : rdO b (some r) = rdB b (b.length - r.length) := rfl
def RSpec (f : Nat) : Prop := ∀ (b m : List UInt8) (v : Val) (o : Option (List UInt8)), b.length ≤ 1000000 → m <:+ b → rval f m = (v, o) → GSpec Tryz.prog 118 2 ⟨[(0, .loc 300 0 0), (1, .int (16 - (f : Int)))], [(300, rdB b (b.length - m.length))], [300]⟩ [300] 1
   ⟨[(0, .pure (.agg (encV v)))], [(300, rdO b o)], [300]⟩
theorem sg_odd {u : Nat} (h : (u : Int).tmod 2 = 1) : -((u / 2 : Nat) : Int) - 1 = sg u := by
 unfold sg
 rw [show (u : Int).tmod 2 = ((u % 2 : Nat) : Int) from (Int.ofNat_tmod u 2).symm] at h
 rw [if_neg (by omega)]
theorem sg_even {u : Nat} (h : ¬ (u : Int).tmod 2 = 1) : ((u / 2 : Nat) : Int) = sg u := by
 unfold sg
 rw [show (u : Int).tmod 2 = ((u % 2 : Nat) : Int) from (Int.ofNat_tmod u 2).symm] at h
 rw [if_pos (by omega)]
theorem half_nat {u : Nat} (h : u < 18446744073709551616) : IntKind.u64.wrap ((u : Int).tdiv 2) = ((u / 2 : Nat) : Int) := by
 rw [show (u : Int).tdiv 2 = ((u / 2 : Nat) : Int) from (Int.ofNat_tdiv u 2).symm, wrap_u64]
 omega
theorem left_u64 {b r : List UInt8} (h : r.length ≤ b.length) (hb : b.length ≤ 1000000) : IntKind.u64.wrap ((((b.map fun c => [PV.val (.int .u8 (c.toNat : Int))]).length : Nat) : Int) - ((b.length - r.length : Nat) : Int)) = ((r.length : Nat) : Int) := by
 rw [List.length_map, wrap_u64]; omega
theorem sub_str {b r : List UInt8} (h : r <:+ b) (u : Nat) : cut (b.map fun c => [PV.val (.int .u8 (c.toNat : Int))]) ((((b.length - r.length : Nat) : Int) + (u : Int)) - (u : Int)).toNat (((b.length - r.length : Nat) : Int) + (u : Int)).toNat = byteRows (r.take u) := by
 rw [show ((((b.length - r.length : Nat) : Int) + (u : Int)) - (u : Int)).toNat = b.length - r.length by omega, show (((b.length - r.length : Nat) : Int) + (u : Int)).toNat = b.length - r.length + u by omega]
 unfold cut byteRows
 rw [Nat.add_sub_cancel_left, ← List.map_drop, suf_drop h, List.map_take]
def rdQ (b : List UInt8) : Bool → List UInt8 → Option Blk
 | true, _ => rdX b
 | false, q => rdB b (b.length - q.length)
def rdP (f u : Nat) (r : List UInt8) (L : List Val) (O : Option (List UInt8)) (x : Bool × Nat × List Val × List UInt8) : Prop :=
 x.2.1 ≤ u ∧ x.2.2.1.length = x.2.1 ∧ match x.1 with
   | false => x.2.2.2 <:+ r ∧ ∃ lr, rvals (rval f) (u - x.2.1) x.2.2.2 = (lr, O) ∧ L = x.2.2.1 ++ lr
   | true => L = x.2.2.1 ∧ O = none
theorem rval_suf {f : Nat} {q q' : List UInt8} {x : Val} (hq : q.length ≤ 1000000) (h : rval f q = (x, some q')) : q' <:+ q := ⟨_, (rval_got f q x q' hq h).2.2.1.symm⟩
end Go.Proofs.YtjfjpnefohbobaaGreatDoor
/- Codec: the reference's reader; Value. Conditions: none. -/
namespace Go.Proofs.YtjfjpnefohbobaaGreatDoor
open Go.Avc
theorem zero_end (B : Nat → Option Blk) : SubA B (.agg [.pure (.val (.int .i64 0)), .pure (.val (.int .i64 0)), .pure (.val (.string ⟨#[]⟩)), .pure (.val (.slice none 0 0))]) (.pure (.agg (encV zeroV))) := end_val rfl rfl rfl (PSub.nil 4)
attribute [local irreducible] PSub Wp PSpec Le Need Both
attribute [local irreducible] rval rone rlist rvals pnum sg zz
theorem rvalue_step (f : Nat) (hf : f ≤ 16) (ih : ∀ f', f = f' + 1 → RSpec f') : RSpec f := by
 intro b m v o hb0 hm h
 rw [rval_eq] at h
 cases m with
 | nil =>
   rw [rone_nil] at h
   obtain ⟨rfl, rfl⟩ := Prod.mk.inj h
   rw [rdO_none]
   refine GSpec.of_vc (fun Γ => more5 false Γ.P Γ.fx) (fun Γ => more5_ok) Tryz.func118 rfl Tryz.call118 (by decide) ?_
   rintro ⟨P, N, w0, X, β0, fx, y, hy, pk, df⟩ rfl rfl rfl hoff rfl; change y.on = false at hoff
   skip
   refine .inr ⟨[(300, 300)], [.loc 300 0 0], [(300, rdB b (b.length - 0))], [300], [300], 1, _, next_N hb0, ⟨Or.inl rfl, trivial⟩, ⟨rfl, trivial⟩, ?_⟩
   repeat' ((try conv => whnf); first|refine aq rfl ?_|fail)
   all_goals refine Le.of ⟨zero_end _, trivial⟩ ?_ rfl rfl rfl
   all_goals ((repeat' (first|exact trivial|refine aq ?_ ?_|refine Exists.intro _ (aq rfl ?_)|exact oq|fail)))
   all_goals first | exact Or.inr (Or.inl rfl) | skip
 | cons c m =>
   rw [rone_cons] at h
   have hm' := suf_cons hm
   have hcl := UInt8.toNat_lt c
   have hml := hm'.length_le
   refine GSpec.of_vc (fun Γ => more5 false Γ.P Γ.fx) (fun Γ => more5_ok) Tryz.func118 rfl Tryz.call118 (by decide) ?_
   rintro ⟨P, N, w0, X, β0, fx, y, hy, pk, df⟩ rfl rfl rfl hoff rfl; change y.on = false at hoff
   skip
   refine .inr ⟨[(300, 300)], [.loc 300 0 0], [(300, rdB b (b.length - (m.length + 1)))], [300], [300], 1, _, next_S hb0 hm, ⟨Or.inl rfl, trivial⟩, ⟨rfl, trivial⟩, ?_⟩
   repeat' ((try conv => whnf); first|(first|refine k3 ?_ ?_|refine k4 ?_ ?_) <;> intro hb <;> (try rw [lM] at hb) <;> try (exfalso; omega)|refine aq rfl ?_|fail)
   · rw [if_pos (by omega)] at h
     cases hn : pnum 0 0 m with
     | none =>
       rw [hn] at h
       obtain ⟨rfl, rfl⟩ := Prod.mk.inj h
       rw [rdO_none]
       refine .inr ⟨[(300, 300)], [.loc 300 0 0], [(300, rdB b (b.length - m.length))], [300], [300], 1, _, (rnumber_N hb0 hm' hn), ⟨Or.inl rfl, trivial⟩, ⟨rfl, trivial⟩, ?_⟩
       repeat' ((try conv => whnf); first|refine aq bd ?_|fail)
       refine ⟨0, by decide, ?_⟩
       repeat' ((try conv => whnf); first|refine aq bd ?_|fail)
       refine ⟨0, by decide, ?_⟩
       repeat' ((try conv => whnf); first|refine aq rfl ?_|refine s4 nm ?_|fail)
       exact Le.of ⟨end_val (v := .mk 1 0 ⟨#[]⟩ []) rfl rfl rfl (PSub.nil 4), trivial⟩ (by (repeat' (first|exact trivial|refine aq ?_ ?_|refine Exists.intro _ (aq rfl ?_)|exact oq|fail))) rfl rfl rfl
     | some p =>
       obtain ⟨u, r⟩ := p
       rw [hn] at h
       obtain ⟨rfl, rfl⟩ := Prod.mk.inj h
       rw [rdO_some]
       have hu := pnum_lt m 0 0 (by omega) (by decide) hn
       refine .inr ⟨[(300, 300)], [.loc 300 0 0], [(300, rdB b (b.length - m.length))], [300], [300], 1, _, ((rnumber_S hb0 hm' hn).2), ⟨Or.inl rfl, trivial⟩, ⟨rfl, trivial⟩, ?_⟩
       repeat' ((try conv => whnf); first|refine aq bd ?_|fail)
       refine ⟨_, rfl, ?_⟩
       repeat' ((try conv => whnf); first|(first|refine k3 ?_ ?_|refine k4 ?_ ?_) <;> intro hb <;> (try rw [lM] at hb) <;> try (exfalso; omega)|refine aq bd ?_|fail)
       · refine ⟨_, half_nat hu, ?_⟩
         repeat' ((try conv => whnf); first|refine aq rfl ?_|refine s4 nm ?_|fail)
         exact Le.of ⟨end_val (v := .mk 1 (sg u) ⟨#[]⟩ []) rfl (by have := sg_odd (u := u) (by assumption); show _ = sg u; omega) rfl (PSub.nil 4), trivial⟩ (by (repeat' (first|exact trivial|refine aq ?_ ?_|refine Exists.intro _ (aq rfl ?_)|exact oq|fail))) rfl rfl rfl
       · refine ⟨_, half_nat hu, ?_⟩
         repeat' ((try conv => whnf); first|refine aq rfl ?_|refine s4 nm ?_|fail)
         exact Le.of ⟨end_val (v := .mk 1 (sg u) ⟨#[]⟩ []) rfl (sg_even (by assumption)) rfl (PSub.nil 4), trivial⟩ (by (repeat' (first|exact trivial|refine aq ?_ ?_|refine Exists.intro _ (aq rfl ?_)|exact oq|fail))) rfl rfl rfl
   · rw [if_neg (by omega), if_pos (by omega)] at h
     cases hn : pnum 0 0 m with
     | none =>
       rw [hn] at h
       obtain ⟨rfl, rfl⟩ := Prod.mk.inj h
       rw [rdO_none]
       refine .inr ⟨[(300, 300)], [.loc 300 0 0], [(300, rdB b (b.length - m.length))], [300], [300], 1, _, (rnumber_N hb0 hm' hn), ⟨Or.inl rfl, trivial⟩, ⟨rfl, trivial⟩, ?_⟩
       skip
       refine Wp.draw (more := more5 true _ _) more5_det more5_ok FOK.wide rfl (by decide +kernel) (by conv => lhs; reduce) ?_
       repeat' ((try conv => whnf); first|refine aq rfl ?_|fail)
       all_goals refine Le.of ⟨zero_end _, trivial⟩ ?_ rfl rfl rfl
       all_goals ((repeat' (first|exact trivial|refine aq ?_ ?_|refine Exists.intro _ (aq rfl ?_)|exact oq|fail)))
       all_goals first | exact Or.inr (Or.inl rfl) | skip
     | some p =>
       obtain ⟨u, r⟩ := p
       rw [hn] at h
       have hu := pnum_lt m 0 0 (by omega) (by decide) hn
       obtain ⟨hrm, q⟩ := rnumber_S hb0 hm' hn
       have hrl := hrm.length_le
       dsimp only at h
       split at h
       · obtain ⟨rfl, rfl⟩ := Prod.mk.inj h
         rw [rdO_some]
         refine .inr ⟨[(300, 300)], [.loc 300 0 0], [(300, rdB b (b.length - m.length))], [300], [300], 1, _, q, ⟨Or.inl rfl, trivial⟩, ⟨rfl, trivial⟩, ?_⟩
         skip
         refine Wp.draw (more := more5 true _ _) more5_det more5_ok FOK.wide rfl (by decide +kernel) (by conv => lhs; reduce) ?_
         repeat' ((try conv => whnf); first|refine s4 nm ?_|fail)
         refine ⟨_, left_u64 (by omega) hb0, ?_⟩
         repeat' ((try conv => whnf); first|(first|refine k3 ?_ ?_|refine k4 ?_ ?_) <;> intro hb <;> (try rw [lM] at hb) <;> try (exfalso; omega)|refine aq rfl ?_|refine s4 nm ?_|fail)
         all_goals first | (exfalso; omega) | skip
         refine Wp.draw (more := more5 true _ _) more5_det more5_ok FOK.wide rfl (by decide +kernel) (by conv => lhs; reduce) ?_
         repeat' ((try conv => whnf); first|refine s4 nm ?_|refine aq bd ?_|fail)
         all_goals first | (exfalso; omega) | skip
         refine ⟨_, sub_str (hrm.trans hm') u, ?_⟩
         repeat' ((try conv => whnf); first|refine aq rfl ?_|fail)
         refine Le.of ⟨end_val (v := .mk 2 0 ⟨(r.take u).toArray⟩ []) rfl rfl rfl (PSub.nil 4), trivial⟩ ?_ rfl rfl rfl
         (repeat' (first|exact trivial|refine aq ?_ ?_|refine Exists.intro _ (aq rfl ?_)|exact oq|exact l1 bd|fail))
         all_goals exact l1 (by rw [List.length_drop]; omega)
       · obtain ⟨rfl, rfl⟩ := Prod.mk.inj h
         rw [rdO_none]
         refine .inr ⟨[(300, 300)], [.loc 300 0 0], [(300, rdB b (b.length - m.length))], [300], [300], 1, _, q, ⟨Or.inl rfl, trivial⟩, ⟨rfl, trivial⟩, ?_⟩
         skip
         refine Wp.draw (more := more5 true _ _) more5_det more5_ok FOK.wide rfl (by decide +kernel) (by conv => lhs; reduce) ?_
         repeat' ((try conv => whnf); first|refine s4 nm ?_|fail)
         refine ⟨_, left_u64 (by omega) hb0, ?_⟩
         repeat' ((try conv => whnf); first|(first|refine k3 ?_ ?_|refine k4 ?_ ?_) <;> intro hb <;> (try rw [lM] at hb) <;> try (exfalso; omega)|refine aq rfl ?_|fail)
         all_goals first | (exfalso; omega) | skip
         all_goals refine Le.of ⟨zero_end _, trivial⟩ ?_ rfl rfl rfl
         all_goals ((repeat' (first|exact trivial|refine aq ?_ ?_|refine Exists.intro _ (aq rfl ?_)|exact oq|fail)))
         all_goals first | exact Or.inr (Or.inl rfl) | skip
   · rw [if_neg (by omega), if_neg (by omega), if_pos (by omega)] at h
     unfold rlist at h
     cases hn : pnum 0 0 m with
     | none =>
       rw [hn] at h
       obtain ⟨rfl, rfl⟩ := Prod.mk.inj h
       rw [rdO_none]
       refine .inr ⟨[(300, 300)], [.loc 300 0 0], [(300, rdB b (b.length - m.length))], [300], [300], 1, _, (rnumber_N hb0 hm' hn), ⟨Or.inl rfl, trivial⟩, ⟨rfl, trivial⟩, ?_⟩
       skip
       refine Wp.draw (more := more5 true _ _) more5_det more5_ok FOK.wide rfl (by decide +kernel) (by conv => lhs; reduce) ?_
       repeat' ((try conv => whnf); first|refine aq rfl ?_|fail)
       all_goals refine Le.of ⟨zero_end _, trivial⟩ ?_ rfl rfl rfl
       all_goals ((repeat' (first|exact trivial|refine aq ?_ ?_|refine Exists.intro _ (aq rfl ?_)|exact oq|fail)))
       all_goals first | exact Or.inr (Or.inl rfl) | skip
     | some p =>
       obtain ⟨u, r⟩ := p
       rw [hn] at h
       have hu := pnum_lt m 0 0 (by omega) (by decide) hn
       obtain ⟨hrm, q⟩ := rnumber_S hb0 hm' hn
       have hrl := hrm.length_le
       dsimp only at h
       cases f with
       | zero =>
         rw [pf_zero] at h
         obtain ⟨rfl, rfl⟩ := Prod.mk.inj h
         rw [rdO_none]
         refine .inr ⟨[(300, 300)], [.loc 300 0 0], [(300, rdB b (b.length - m.length))], [300], [300], 1, _, q, ⟨Or.inl rfl, trivial⟩, ⟨rfl, trivial⟩, ?_⟩
         skip
         refine Wp.draw (more := more5 true _ _) more5_det more5_ok FOK.wide rfl (by decide +kernel) (by conv => lhs; reduce) ?_
         repeat' ((try conv => whnf); first|refine s4 nm ?_|fail)
         refine ⟨_, left_u64 (by omega) hb0, ?_⟩
         repeat' ((try conv => whnf); first|(first|refine k3 ?_ ?_|refine k4 ?_ ?_) <;> intro hb <;> (try rw [lM] at hb) <;> try (exfalso; omega)|refine aq rfl ?_|fail)
         all_goals first | (exfalso; omega) | skip
         all_goals refine Le.of ⟨zero_end _, trivial⟩ ?_ rfl rfl rfl
         all_goals ((repeat' (first|exact trivial|refine aq ?_ ?_|refine Exists.intro _ (aq rfl ?_)|exact oq|fail)))
         all_goals first | exact Or.inr (Or.inl rfl) | skip
       | succ f =>
         rw [pf_succ] at h
         have ih1 := ih f rfl
         dsimp only at h
         split at h
         case isFalse =>
           obtain ⟨rfl, rfl⟩ := Prod.mk.inj h
           rw [rdO_none]
           refine .inr ⟨[(300, 300)], [.loc 300 0 0], [(300, rdB b (b.length - m.length))], [300], [300], 1, _, q, ⟨Or.inl rfl, trivial⟩, ⟨rfl, trivial⟩, ?_⟩
           skip
           refine Wp.draw (more := more5 true _ _) more5_det more5_ok FOK.wide rfl (by decide +kernel) (by conv => lhs; reduce) ?_
           repeat' ((try conv => whnf); first|refine s4 nm ?_|fail)
           refine ⟨_, left_u64 (by omega) hb0, ?_⟩
           repeat' ((try conv => whnf); first|(first|refine k3 ?_ ?_|refine k4 ?_ ?_) <;> intro hb <;> (try rw [lM] at hb) <;> try (exfalso; omega)|refine aq rfl ?_|fail)
           all_goals first | (exfalso; omega) | skip
           all_goals refine Le.of ⟨zero_end _, trivial⟩ ?_ rfl rfl rfl
           all_goals ((repeat' (first|exact trivial|refine aq ?_ ?_|refine Exists.intro _ (aq rfl ?_)|exact oq|fail)))
           all_goals first | exact Or.inr (Or.inl rfl) | skip
         rename_i hle
         obtain ⟨⟨L, O⟩, hR⟩ : ∃ R, rvals (rval f) u r = R := ⟨_, rfl⟩
         rw [hR] at h
         obtain ⟨rfl, rfl⟩ := Prod.mk.inj h
         refine .inr ⟨[(300, 300)], [.loc 300 0 0], [(300, rdB b (b.length - m.length))], [300], [300], 1, _, q, ⟨Or.inl rfl, trivial⟩, ⟨rfl, trivial⟩, ?_⟩
         skip
         refine Wp.draw (more := more5 true _ _) more5_det more5_ok FOK.wide rfl (by decide +kernel) (by conv => lhs; reduce) ?_
         repeat' ((try conv => whnf); first|refine s4 nm ?_|fail)
         refine ⟨_, left_u64 (by omega) hb0, ?_⟩
         repeat' ((try conv => whnf); first|(first|refine k3 ?_ ?_|refine k4 ?_ ?_) <;> intro hb <;> (try rw [lM] at hb) <;> try (exfalso; omega)|refine aq rfl ?_|fail)
         all_goals first | (exfalso; omega) | skip
         refine Wp.loop (fun x : Bool × Nat × List Val × List UInt8 => ⟨[(0, .loc 300 0 0), (1, .int (16 - ((f + 1 : Nat) : Int))), (4, .loc 4 0 0), (7, .pure (.val (.int .u64 u))), (8, .loc 8 0 0), (9, .pure (.val (.int .u64 x.2.1)))],
             [(300, rdQ b x.1 x.2.2.2), (4, some (.box [.int 0, .int 0, .pure (.val (.string ⟨#[]⟩)), .pure (.val (.slice none 0 0))])), (8, some (.box [.int 3, .int 0, .pure (.val (.string ⟨#[]⟩)), .lsl 301 0 x.2.2.1.length])), (301, some (.row 4 (x.2.2.1.map encV)))], [300, 4, 8, 301]⟩)
           (rdP f u r L O) (fun x => u - x.2.1) (false, 0, [], r)
           (Le.trans (Le.virt (k := 301) (sz := 4) rfl rfl (by omega)) (Le.of ?_ ?_ rfl rfl rfl)) ⟨Nat.zero_le _, rfl, List.suffix_refl _, L, hR, rfl⟩ ?_
         · (repeat' (first|exact trivial|refine aq ?_ ?_|exact oq|fail))
         · (repeat' (first|exact trivial|exact rfl|refine aq ?_ ?_|refine Exists.intro _ (aq rfl ?_)|exact oq|exact l6 rfl|fail))
         rintro ⟨bd, k, l, q⟩ ⟨hk, hlk, hq⟩
         dsimp only at hk hlk hq ⊢
         cases bd with
         | true =>
           obtain ⟨rfl, rfl⟩ := hq
           rw [rdO_none]
           refine code_sound (more := more5 false _ _) more5_ok FOK.wide _ ?_
           repeat' ((try conv => whnf); first|(first|refine k3 ?_ ?_|refine k4 ?_ ?_) <;> intro hb <;> (try rw [lM] at hb) <;> try (exfalso; omega)|refine aq rfl ?_|fail)
           all_goals exact Le.trans (Le.frz 301 rfl) (Le.of ⟨end_val (v := .mk 3 0 ⟨#[]⟩ _) rfl rfl rfl (sub_sl (List.take_of_length_le (by simp))), trivial⟩ (by (repeat' (first|exact trivial|refine aq ?_ ?_|refine Exists.intro _ (aq rfl ?_)|exact oq|fail))) rfl rfl rfl)
         | false =>
           obtain ⟨hqr, lr, hrv, hall⟩ := hq
           have hql := hqr.length_le
           by_cases hk2 : k < u
           · rw [show u - k = (u - (k + 1)) + 1 by omega, rvals_succ] at hrv
             cases hc : rval f q with
             | mk x o' =>
               have q1 := ih1 b q x o' hb0 ((hqr.trans hrm).trans hm') hc
               rw [hc] at hrv
               cases o' with
               | none =>
                 dsimp only at hrv
                 obtain ⟨rfl, rfl⟩ := Prod.mk.inj hrv
                 rw [rdO_none] at q1
                 refine code_sound (more := more5 false _ _) more5_ok FOK.wide _ ?_
                 repeat' ((try conv => whnf); first|(first|refine k3 ?_ ?_|refine k4 ?_ ?_) <;> intro hb <;> (try rw [lM] at hb) <;> try (exfalso; omega)|fail)
                 all_goals first | (exfalso; omega) | skip
                 refine Wp.drawG (more := more5 true _ _) more5_det more5_ok FOK.wide rfl (by decide +kernel) (by conv => lhs; reduce) ?_
                 repeat' ((try conv => whnf); first|refine s4 nm ?_|fail)
                 refine .inr ⟨[(300, 300)], [.loc 300 0 0, .int (16 - (f : Int))], [(300, rdB b (b.length - q.length))], [300], [300], 1, _, q1, ⟨Or.inl rfl, Or.inl (congrArg (fun z => AV.int z) (show (16 : Int) - ((f + 1 : Nat) : Int) + 1 = 16 - (f : Int) by omega)), trivial⟩, ⟨rfl, trivial⟩, ?_⟩
                 repeat' ((try conv => whnf); first|refine aq rfl ?_|refine aq bd ?_|fail)
                 refine ⟨((k + 1 : Nat) : Int), by rw [wrap_u64]; omega, ?_⟩
                 skip
                 refine ⟨(true, k + 1, l ++ [x], q), Le.map [(301, 135)] ?_ ?_ rfl rfl rfl rfl, ⟨by simp only; omega, by simp; omega, hall, rfl⟩, by simp only; omega⟩
                 · (repeat' (first|exact trivial|refine aq ?_ ?_|exact oq|fail))
                 · (repeat' (first|exact trivial|refine aq ?_ ?_|refine Exists.intro _ (aq rfl ?_)|exact oq|exact SubA.lsl ls|fail))
                   all_goals (refine rowEq ?_; rw [List.map_append]; rfl)
               | some q' =>
                 rw [rdO_some] at q1
                 dsimp only at hrv
                 cases hc2 : rvals (rval f) (u - (k + 1)) q' with
                 | mk l' o' =>
                   rw [hc2] at hrv
                   obtain ⟨rfl, rfl⟩ := Prod.mk.inj hrv
                   have hqq := rval_suf (by omega) hc
                   refine code_sound (more := more5 false _ _) more5_ok FOK.wide _ ?_
                   repeat' ((try conv => whnf); first|(first|refine k3 ?_ ?_|refine k4 ?_ ?_) <;> intro hb <;> (try rw [lM] at hb) <;> try (exfalso; omega)|fail)
                   all_goals first | (exfalso; omega) | skip
                   refine Wp.drawG (more := more5 true _ _) more5_det more5_ok FOK.wide rfl (by decide +kernel) (by conv => lhs; reduce) ?_
                   repeat' ((try conv => whnf); first|refine s4 nm ?_|fail)
                   refine .inr ⟨[(300, 300)], [.loc 300 0 0, .int (16 - (f : Int))], [(300, rdB b (b.length - q.length))], [300], [300], 1, _, q1, ⟨Or.inl rfl, Or.inl (congrArg (fun z => AV.int z) (show (16 : Int) - ((f + 1 : Nat) : Int) + 1 = 16 - (f : Int) by omega)), trivial⟩, ⟨rfl, trivial⟩, ?_⟩
                   repeat' ((try conv => whnf); first|refine aq rfl ?_|refine aq bd ?_|fail)
                   refine ⟨((k + 1 : Nat) : Int), by rw [wrap_u64]; omega, ?_⟩
                   skip
                   refine ⟨(false, k + 1, l ++ [x], q'), Le.map [(301, 135)] ?_ ?_ rfl rfl rfl rfl, ⟨by simp only; omega, by simp; omega, hqq.trans hqr, l', hc2, by rw [hall]; simp⟩, by simp only; omega⟩
                   · (repeat' (first|exact trivial|refine aq ?_ ?_|exact oq|fail))
                   · (repeat' (first|exact trivial|refine aq ?_ ?_|refine Exists.intro _ (aq rfl ?_)|exact oq|exact SubA.lsl ls|fail))
                     all_goals (refine rowEq ?_; rw [List.map_append]; rfl)
           · have ek : k = u := by omega
             subst ek
             rw [Nat.sub_self, rvals_zero] at hrv
             obtain ⟨rfl, rfl⟩ := Prod.mk.inj hrv
             rw [rdO_some, hall, List.append_nil]
             refine code_sound (more := more5 false _ _) more5_ok FOK.wide _ ?_
             repeat' ((try conv => whnf); first|(first|refine k3 ?_ ?_|refine k4 ?_ ?_) <;> intro hb <;> (try rw [lM] at hb) <;> try (exfalso; omega)|refine aq rfl ?_|fail)
             all_goals first | (exfalso; omega) | skip
             all_goals exact Le.trans (Le.frz 301 rfl) (Le.of ⟨end_val (v := .mk 3 0 ⟨#[]⟩ _) rfl rfl rfl (sub_sl (List.take_of_length_le (by simp))), trivial⟩ (by (repeat' (first|exact trivial|refine aq ?_ ?_|refine Exists.intro _ (aq rfl ?_)|exact oq|fail))) rfl rfl rfl)
   · rw [if_neg (by omega), if_neg (by omega), if_neg (by omega)] at h
     obtain ⟨rfl, rfl⟩ := Prod.mk.inj h
     rw [rdO_none]
     skip
     all_goals refine Le.of ⟨zero_end _, trivial⟩ ?_ rfl rfl rfl
     all_goals ((repeat' (first|exact trivial|refine aq ?_ ?_|refine Exists.intro _ (aq rfl ?_)|exact oq|fail)))
     all_goals first | exact Or.inr (Or.inl rfl) | skip
theorem rvalue_spec : ∀ f : Nat, f ≤ 16 → RSpec f := by
 intro f
 induction f with
 | zero => exact fun h => rvalue_step 0 h fun f' e => by omega
 | succ f ih => exact fun h => rvalue_step (f + 1) h fun f' e => by rw [show f' = f by omega]; exact ih (by omega)
end Go.Proofs.YtjfjpnefohbobaaGreatDoor
/- Codec: the reference's Decode. Conditions: none. -/
namespace Go.Proofs.YtjfjpnefohbobaaGreatDoor
open Go.Avc
attribute [local irreducible] PSub Wp PSpec Le Need Both
attribute [local irreducible] rval
theorem rDecode_spec (b : List UInt8) (hb0 : b.length ≤ 1000000) : PSpec Tryz.prog 97 [encB b] (encVE (decode b)) := by
 have hd : decode b = match rval 16 b with
   | (v, some []) => (v, 0)
   | _ => (zeroV, 10) := rfl
 obtain ⟨⟨v, o⟩, hR⟩ : ∃ R, rval 16 b = R := ⟨_, rfl⟩
 have q := rvalue_spec 16 (Nat.le_refl _) b b v o hb0 (List.suffix_refl _) hR
 rw [hR] at hd
 rw [Nat.sub_self, show (16 : Int) - ((16 : Nat) : Int) = 0 from by decide] at q
 cases o with
 | none =>
   rw [rdO_none] at q
   dsimp only at hd
   rw [hd]
   refine PSpec.of_vc (fun Γ => more5 false Γ.P Γ.fx) (fun Γ => more5_ok) Tryz.func97 rfl Tryz.call97 (by simp) ?_
   rintro ⟨P, N, w0, X, β0, fx, y, hy, pk, df⟩ rfl rfl rfl hoff rfl; change y.on = false at hoff
   skip
   refine .inr ⟨[(300, 8)], [.loc 300 0 0, .int 0], [(300, rdB b 0)], [300], [300], 1, _, q, ⟨Or.inl rfl, Or.inl rfl, trivial⟩, ⟨rfl, trivial⟩, ?_⟩
   repeat' ((try conv => whnf); first|refine aq rfl ?_|fail)
   refine Wp.draw (more := more5 true _ _) more5_det more5_ok FOK.wide rfl (by decide +kernel) (by conv => lhs; reduce) ?_
   repeat' ((try conv => whnf); first|refine aq rfl ?_|fail)
   exact PSub.tup ⟨PSub.agg ⟨PSub.refl _, PSub.refl _, PSub.refl _, PSub.nil 4, trivial⟩, PSub.refl _, trivial⟩
 | some r =>
   rw [rdO_some] at q
   cases r with
   | cons c r =>
     dsimp only at hd
     rw [hd]
     have hrl := (rval_suf hb0 hR).length_le
     simp only [List.length_cons] at hrl q
     refine PSpec.of_vc (fun Γ => more5 false Γ.P Γ.fx) (fun Γ => more5_ok) Tryz.func97 rfl Tryz.call97 (by simp) ?_
     rintro ⟨P, N, w0, X, β0, fx, y, hy, pk, df⟩ rfl rfl rfl hoff rfl; change y.on = false at hoff
     skip
     refine .inr ⟨[(300, 8)], [.loc 300 0 0, .int 0], [(300, rdB b 0)], [300], [300], 1, _, q, ⟨Or.inl rfl, Or.inl rfl, trivial⟩, ⟨rfl, trivial⟩, ?_⟩
     repeat' ((try conv => whnf); first|refine aq rfl ?_|fail)
     refine Wp.draw (more := more5 true _ _) more5_det more5_ok FOK.wide rfl (by decide +kernel) (by conv => lhs; reduce) ?_
     repeat' ((try conv => whnf); first|(first|refine k3 ?_ ?_|refine k4 ?_ ?_) <;> intro hb <;> (try rw [lM] at hb) <;> try (exfalso; omega)|refine aq rfl ?_|fail)
     all_goals first | (exfalso; omega) | skip
     exact PSub.tup ⟨PSub.agg ⟨PSub.refl _, PSub.refl _, PSub.refl _, PSub.nil 4, trivial⟩, PSub.refl _, trivial⟩
   | nil =>
     dsimp only at hd
     rw [hd]
     have hg := rval_got 16 b v [] hb0 hR
     have hf := Val.got_fits hg hb0
     have hc : v.check = 0 := check_iff.2 ⟨hg.1, hg.2.1⟩
     have he : v.enc = b := by have := hg.2.2.1; rw [List.append_nil] at this; exact this.symm
     have q1 := rcheck_spec v (by have := hg.2.1; omega)
     have q2 := rencode_spec v hf (by rw [he]; exact hb0)
     rw [hc] at q1
     rw [he] at q2
     simp only [List.length_nil, Nat.sub_zero] at q
     refine PSpec.of_vc (fun Γ => more5 false Γ.P Γ.fx) (fun Γ => more5_ok) Tryz.func97 rfl Tryz.call97 (by simp) ?_
     rintro ⟨P, N, w0, X, β0, fx, y, hy, pk, df⟩ rfl rfl rfl hoff rfl; change y.on = false at hoff
     skip
     refine .inr ⟨[(300, 8)], [.loc 300 0 0, .int 0], [(300, rdB b 0)], [300], [300], 1, _, q, ⟨Or.inl rfl, Or.inl rfl, trivial⟩, ⟨rfl, trivial⟩, ?_⟩
     repeat' ((try conv => whnf); first|refine aq rfl ?_|fail)
     refine Wp.draw (more := more5 true _ _) more5_det more5_ok FOK.wide rfl (by decide +kernel) (by conv => lhs; reduce) ?_
     repeat' ((try conv => whnf); first|(first|refine k3 ?_ ?_|refine k4 ?_ ?_) <;> intro hb <;> (try rw [lM] at hb) <;> try (exfalso; omega)|fail)
     all_goals first | (exfalso; omega) | skip
     refine ⟨_, q1, ?_⟩
     skip
     refine ⟨_, q2, ?_⟩
     repeat' ((try conv => whnf); first|(first|refine k3 ?_ ?_|refine k4 ?_ ?_) <;> intro hb <;> (try rw [lM] at hb) <;> try (exfalso; omega)|refine aq rfl ?_|refine s7 ?_|fail)
     all_goals first | (exfalso; simp at hb; done) | skip
     exact PSub.tup ⟨PSub.refl (.agg (encV v)), PSub.refl _, trivial⟩
end Go.Proofs.YtjfjpnefohbobaaGreatDoor
