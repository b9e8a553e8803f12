/- Codec: what is read; take, number. Conditions: none. -/
import Derived.Test.YtigfakjppicdlaaWd
import Derived.Test.YtigfakjppicdlaaWf
set_option linter.unusedSimpArgs false
set_option linter.unusedVariables false
namespace Go.Proofs.Ytigfakjppicdlaa
open Go.Avc
/-- The number whose numeral begins at byte i, and what is left. -/
def pnum : Nat → Nat → List UInt8 → Option (Nat × List UInt8)
  | _, _, [] => none
  | i, u, c :: r => if (i = 9 ∧ 1 < c.toNat) ∨ (0 < i ∧ c.toNat = 0) then none else if c.toNat < 128 then some (u + c.toNat % 128 * 2 ^ (7 * i), r) else pnum (i + 1) (u + c.toNat % 128 * 2 ^ (7 * i)) r
def sg (u : Nat) : Int := if u % 2 = 0 then ((u / 2 : Nat) : Int) else -((u / 2 : Nat) : Int) - 1
def zeroV : Val := .mk 0 0 ⟨#[]⟩ []
def rvals (p : List UInt8 → Val × Option (List UInt8)) : Nat → List UInt8 → List Val × Option (List UInt8)
  | 0, r => ([], some r)
  | n + 1, r => match p r with
    | (v, none) => ([v], none)
    | (v, some r') => match rvals p n r' with
      | (l, o) => (v :: l, o)
def rlist (p : Option (List UInt8 → Val × Option (List UInt8))) (r : List UInt8) : Val × Option (List UInt8) := match pnum 0 0 r with
  | none => (zeroV, none)
  | some (n, r') => match p with
    | none => (zeroV, none)
    | some p => if n ≤ r'.length then (match rvals p n r' with | (l, o) => (.mk 3 0 ⟨#[]⟩ l, o)) else (zeroV, none)
def rone (p : Option (List UInt8 → Val × Option (List UInt8))) : List UInt8 → Val × Option (List UInt8)
  | [] => (zeroV, none)
  | c :: r => if c.toNat = 1 then (match pnum 0 0 r with
      | none => (.mk 1 0 ⟨#[]⟩ [], none)
      | some (u, r') => (.mk 1 (sg u) ⟨#[]⟩ [], some r'))
    else if c.toNat = 2 then (match pnum 0 0 r with
      | none => (zeroV, none)
      | some (n, r') => if n ≤ r'.length then (.mk 2 0 ⟨(r'.take n).toArray⟩ [], some (r'.drop n)) else (zeroV, none))
    else if c.toNat = 3 then rlist p r
    else (zeroV, none)
/-- The value that begins here, at so many levels to go, and what is left: none: there is no value. -/
def rval : Nat → List UInt8 → Val × Option (List UInt8)
  | 0 => rone none
  | f + 1 => rone (some (rval f))
def brk : Value := .iface 56 (.agg #[])
set_option maxRecDepth 20000
set_option maxHeartbeats 4000000
set_option linter.unusedSimpArgs false
attribute [local irreducible] PSub Wp PSpec Le Need Both
theorem take_spec (r : List UInt8) (n : Nat) (hr : r.length ≤ 1000000) (hn : n ≤ r.length) : GSpec Try.prog 45 2 ⟨[(0, .loc 100 0 0), (1, .pure (.val (.int .u64 n)))], [(100, some (.box [.pure (encB r)]))], [100]⟩ [100] 1
    ⟨[(0, .pure (encB (r.take n)))], [(100, some (.box [.pure (encB (r.drop n))]))], [100]⟩ := by
  refine GSpec.of_vc (fun Γ => more5 false Γ.P Γ.fx) (fun Γ => more5_ok) Try.func45 rfl Try.call45 (by decide) ?_
  rintro ⟨P, N, w0, X, β0, fx, y, hy, pk, df⟩ rfl rfl rfl hoff rfl; change y.on = false at hoff
  repeat' ((try conv => whnf); first | refine k1 (fun hb => ?_) fun hb => ?_ | refine k2 (fun hb => ?_) fun hb => ?_ | (first | refine k3 (fun hb => ?_) fun hb => ?_ | refine k4 (fun hb => ?_) fun hb => ?_) <;> (try rw [List.length_map] at hb) <;> (try (exfalso; omega; done)) | refine k5 (fun hb => ?_) fun hb => ?_ | refine k6 (fun hb => ?_) fun hb => ?_ | refine Both.intro ?_ ?_ | refine And.intro rfl ?_ | refine s1 ?_ | refine s2 ?_ | refine s3 ?_ | refine s4 nm ?_ | refine s5 nm nm ?_ | refine s6 nm nm ?_ | refine s7 ?_ | refine And.intro (by assumption) ?_ | refine s8 nm ?_ | refine s9 nm nm ?_ | refine sa nm ?_ | refine ⟨_, _, getMapN nm, rfl, ?_⟩ | refine .inl ⟨_, getMapN nm, rfl, rfl, ?_⟩ | refine .inl ⟨rfl, rfl, bd, rfl, rfl, ?_⟩ | refine ⟨_, singles_flat _ _, ?_⟩ | refine ⟨_, singles_map _ _, ?_⟩ | refine And.intro (onesB_flat _ _ fun _ => rfl) ?_ | refine And.intro (onesB_map _ _ fun _ => rfl) ?_ | refine .inr ⟨rfl, rfl, rfl, ?_⟩ | refine ⟨⟨⟨onesB_flat _ _ fun _ => rfl, fl⟩, trivial⟩, ?_⟩ | refine And.intro bd ?_ | refine ⟨_, set_map _ _ _, ?_⟩ | refine ⟨_, set_rfl _ _ _, ?_⟩ | refine ⟨_, singles_rfl _, ?_⟩ | fail)
  refine ⟨((r.length : Nat) : Int), by rw [wrap_u64]; simp <;> omega, ?_⟩
  repeat' ((try conv => whnf); first | refine k1 (fun hb => ?_) fun hb => ?_ | refine k2 (fun hb => ?_) fun hb => ?_ | (first | refine k3 (fun hb => ?_) fun hb => ?_ | refine k4 (fun hb => ?_) fun hb => ?_) <;> (try rw [List.length_map] at hb) <;> (try (exfalso; omega; done)) | refine k5 (fun hb => ?_) fun hb => ?_ | refine k6 (fun hb => ?_) fun hb => ?_ | refine Both.intro ?_ ?_ | refine And.intro rfl ?_ | refine s1 ?_ | refine s2 ?_ | refine s3 ?_ | refine s4 nm ?_ | refine s5 nm nm ?_ | refine s6 nm nm ?_ | refine s7 ?_ | refine And.intro (by assumption) ?_ | refine s8 nm ?_ | refine s9 nm nm ?_ | refine sa nm ?_ | refine ⟨_, _, getMapN nm, rfl, ?_⟩ | refine .inl ⟨_, getMapN nm, rfl, rfl, ?_⟩ | refine .inl ⟨rfl, rfl, bd, rfl, rfl, ?_⟩ | refine ⟨_, singles_flat _ _, ?_⟩ | refine ⟨_, singles_map _ _, ?_⟩ | refine And.intro (onesB_flat _ _ fun _ => rfl) ?_ | refine And.intro (onesB_map _ _ fun _ => rfl) ?_ | refine .inr ⟨rfl, rfl, rfl, ?_⟩ | refine ⟨⟨⟨onesB_flat _ _ fun _ => rfl, fl⟩, trivial⟩, ?_⟩ | refine And.intro bd ?_ | refine ⟨_, set_map _ _ _, ?_⟩ | refine ⟨_, set_rfl _ _ _, ?_⟩ | refine ⟨_, singles_rfl _, ?_⟩ | fail)
  first | refine Wp.draw (more := more5 true _ _) more5_det more5_ok FOK.wide rfl (by decide +kernel) (by conv => lhs; reduce) ?_ | refine Wp.draw (more := more5 true _ _) more5_det more5_ok (FOK.inRound _) rfl (by decide +kernel) (by conv => lhs; reduce) ?_
  repeat' ((try conv => whnf); first | refine k1 (fun hb => ?_) fun hb => ?_ | refine k2 (fun hb => ?_) fun hb => ?_ | (first | refine k3 (fun hb => ?_) fun hb => ?_ | refine k4 (fun hb => ?_) fun hb => ?_) <;> (try rw [List.length_map] at hb) <;> (try (exfalso; omega; done)) | refine k5 (fun hb => ?_) fun hb => ?_ | refine k6 (fun hb => ?_) fun hb => ?_ | refine Both.intro ?_ ?_ | refine And.intro rfl ?_ | refine s1 ?_ | refine s2 ?_ | refine s3 ?_ | refine s4 nm ?_ | refine s5 nm nm ?_ | refine s6 nm nm ?_ | refine s7 ?_ | refine And.intro (by assumption) ?_ | refine s8 nm ?_ | refine s9 nm nm ?_ | refine sa nm ?_ | refine ⟨_, _, getMapN nm, rfl, ?_⟩ | refine .inl ⟨_, getMapN nm, rfl, rfl, ?_⟩ | refine .inl ⟨rfl, rfl, bd, rfl, rfl, ?_⟩ | refine ⟨_, singles_flat _ _, ?_⟩ | refine ⟨_, singles_map _ _, ?_⟩ | refine And.intro (onesB_flat _ _ fun _ => rfl) ?_ | refine And.intro (onesB_map _ _ fun _ => rfl) ?_ | refine .inr ⟨rfl, rfl, rfl, ?_⟩ | refine ⟨⟨⟨onesB_flat _ _ fun _ => rfl, fl⟩, trivial⟩, ?_⟩ | refine And.intro bd ?_ | refine ⟨_, set_map _ _ _, ?_⟩ | refine ⟨_, set_rfl _ _ _, ?_⟩ | refine ⟨_, singles_rfl _, ?_⟩ | fail)
  refine Le.of ?_ ?_ rfl rfl rfl
  · (repeat' (first | exact trivial | exact rfl | refine And.intro ?_ ?_ | refine Exists.intro _ (And.intro rfl ?_) | exact Or.inl rfl | exact l1 bd | exact SubA.lsl ls | exact SubA.sl sc | exact SubA.bool bo | exact l6 rfl | exact rowEq rs | fail))
    all_goals (refine SubA.sl ?_; simp [cut])
  · (repeat' (first | exact trivial | exact rfl | refine And.intro ?_ ?_ | refine Exists.intro _ (And.intro rfl ?_) | exact Or.inl rfl | exact l1 bd | exact SubA.lsl ls | exact SubA.sl sc | exact SubA.bool bo | exact l6 rfl | exact rowEq rs | fail))
    all_goals (refine SubA.sl ?_; simp only [cut, List.map_drop, Int.toNat_natCast, List.length_map]; exact List.take_of_length_le (by simp))
theorem take_no (r : List UInt8) (n : Nat) (hr : r.length ≤ 1000000) (hn : r.length < n) : XSpec Try.prog 45 2 ⟨[(0, .loc 100 0 0), (1, .pure (.val (.int .u64 n)))], [(100, some (.box [.pure (encB r)]))], [100]⟩ brk := by
  refine XSpec.of_vc (fun Γ => more5 false Γ.P Γ.fx) (fun Γ => more5_ok) Try.func45 rfl Try.call45 (by decide) ?_
  rintro ⟨P, N, w0, X, β0, fx, y, hy, pk, df⟩ rfl rfl rfl hoff rfl; change y.on = false at hoff
  repeat' ((try conv => whnf); first | refine k1 (fun hb => ?_) fun hb => ?_ | refine k2 (fun hb => ?_) fun hb => ?_ | (first | refine k3 (fun hb => ?_) fun hb => ?_ | refine k4 (fun hb => ?_) fun hb => ?_) <;> (try rw [List.length_map] at hb) <;> (try (exfalso; omega; done)) | refine k5 (fun hb => ?_) fun hb => ?_ | refine k6 (fun hb => ?_) fun hb => ?_ | refine Both.intro ?_ ?_ | refine And.intro rfl ?_ | refine s1 ?_ | refine s2 ?_ | refine s3 ?_ | refine s4 nm ?_ | refine s5 nm nm ?_ | refine s6 nm nm ?_ | refine s7 ?_ | refine And.intro (by assumption) ?_ | refine s8 nm ?_ | refine s9 nm nm ?_ | refine sa nm ?_ | refine ⟨_, _, getMapN nm, rfl, ?_⟩ | refine .inl ⟨_, getMapN nm, rfl, rfl, ?_⟩ | refine .inl ⟨rfl, rfl, bd, rfl, rfl, ?_⟩ | refine ⟨_, singles_flat _ _, ?_⟩ | refine ⟨_, singles_map _ _, ?_⟩ | refine And.intro (onesB_flat _ _ fun _ => rfl) ?_ | refine And.intro (onesB_map _ _ fun _ => rfl) ?_ | refine .inr ⟨rfl, rfl, rfl, ?_⟩ | refine ⟨⟨⟨onesB_flat _ _ fun _ => rfl, fl⟩, trivial⟩, ?_⟩ | refine And.intro bd ?_ | refine ⟨_, set_map _ _ _, ?_⟩ | refine ⟨_, set_rfl _ _ _, ?_⟩ | refine ⟨_, singles_rfl _, ?_⟩ | fail)
  refine ⟨((r.length : Nat) : Int), by rw [wrap_u64]; simp <;> omega, ?_⟩
  repeat' ((try conv => whnf); first | refine k1 (fun hb => ?_) fun hb => ?_ | refine k2 (fun hb => ?_) fun hb => ?_ | (first | refine k3 (fun hb => ?_) fun hb => ?_ | refine k4 (fun hb => ?_) fun hb => ?_) <;> (try rw [List.length_map] at hb) <;> (try (exfalso; omega; done)) | refine k5 (fun hb => ?_) fun hb => ?_ | refine k6 (fun hb => ?_) fun hb => ?_ | refine Both.intro ?_ ?_ | refine And.intro rfl ?_ | refine s1 ?_ | refine s2 ?_ | refine s3 ?_ | refine s4 nm ?_ | refine s5 nm nm ?_ | refine s6 nm nm ?_ | refine s7 ?_ | refine And.intro (by assumption) ?_ | refine s8 nm ?_ | refine s9 nm nm ?_ | refine sa nm ?_ | refine ⟨_, _, getMapN nm, rfl, ?_⟩ | refine .inl ⟨_, getMapN nm, rfl, rfl, ?_⟩ | refine .inl ⟨rfl, rfl, bd, rfl, rfl, ?_⟩ | refine ⟨_, singles_flat _ _, ?_⟩ | refine ⟨_, singles_map _ _, ?_⟩ | refine And.intro (onesB_flat _ _ fun _ => rfl) ?_ | refine And.intro (onesB_map _ _ fun _ => rfl) ?_ | refine .inr ⟨rfl, rfl, rfl, ?_⟩ | refine ⟨⟨⟨onesB_flat _ _ fun _ => rfl, fl⟩, trivial⟩, ?_⟩ | refine And.intro bd ?_ | refine ⟨_, set_map _ _ _, ?_⟩ | refine ⟨_, set_rfl _ _ _, ?_⟩ | refine ⟨_, singles_rfl _, ?_⟩ | fail)
  all_goals trivial
theorem one_take (c : UInt8) (r : List UInt8) : (c :: r).take 1 = [c] := rfl
theorem pnum_cons (i u : Nat) (c : UInt8) (r : List UInt8) : pnum i u (c :: r) = if (i = 9 ∧ 1 < c.toNat) ∨ (0 < i ∧ c.toNat = 0) then none else if c.toNat < 128 then some (u + c.toNat % 128 * 2 ^ (7 * i), r) else pnum (i + 1) (u + c.toNat % 128 * 2 ^ (7 * i)) r := rfl
theorem and_127 (c : UInt8) : bits .and .u8 (c.toNat : Int) 127 = ((c.toNat % 128 : Nat) : Int) := by
  have h := UInt8.toNat_lt c
  have h1 := (bits_nat .u8 8 (by decide) (fun n h0 h1 => by rw [IntKind.wrap_u8]; omega) c.toNat 127 (by omega) (by decide)).1
  rw [show ((127 : Nat) : Int) = 127 from rfl] at h1
  rw [h1, show (127 : Nat) = 2 ^ 7 - 1 from rfl, Nat.and_two_pow_sub_one_eq_mod]
theorem or_low {i v x : Nat} (hv : v < 2 ^ i) (hi : i ≤ 64) (hx : x % 2 ^ i = 0) (hx1 : x < 18446744073709551616) : bits .or .u64 (v : Int) (x : Int) = ((v + x : Nat) : Int) := by
  have hp : 2 ^ i ≤ 2 ^ 64 := Nat.pow_le_pow_right (by decide) hi
  rw [(bits_nat .u64 64 (by decide) wraps_u64 v x (by omega) hx1).2, Nat.or_comm]
  obtain ⟨k, rfl⟩ : ∃ k, x = 2 ^ i * k := ⟨x / 2 ^ i, by have := Nat.div_add_mod x (2 ^ i); omega⟩
  rw [← Nat.two_pow_add_eq_or_of_lt hv, Nat.add_comm]
theorem shl_u64 {a n : Nat} (h : n ≤ 64) (hlt : a * 2 ^ n < 18446744073709551616) : IntKind.u64.wrap ((a : Int) * 2 ^ min (Int.toNat (n : Int)) IntKind.u64.bits) = ((a * 2 ^ n : Nat) : Int) := by
  rw [Int.toNat_natCast, show min n IntKind.u64.bits = n from Nat.min_eq_left h, show (2 : Int) ^ n = ((2 ^ n : Nat) : Int) from by simp, ← Int.natCast_mul, wrap_u64]
  omega
theorem seven_lt {i c : Nat} (hi : i ≤ 9) (hc : c < 128) (h9 : i = 9 → c ≤ 1) : c * 2 ^ (7 * i) < 18446744073709551616 := by
  by_cases h : i = 9
  · subst h
    have := h9 rfl
    exact Nat.lt_of_le_of_lt (Nat.mul_le_mul_right _ this) (by decide)
  · have h1 : 2 ^ (7 * i) ≤ 2 ^ 56 := Nat.pow_le_pow_right (by decide) (by omega)
    exact Nat.lt_of_le_of_lt (Nat.mul_le_mul (show c ≤ 127 by omega) h1) (by decide)
theorem seven_next {i v c : Nat} (hv : v < 2 ^ (7 * i)) (hc : c < 128) : v + c * 2 ^ (7 * i) < 2 ^ (7 * (i + 1)) := by
  have h1 : 2 ^ (7 * (i + 1)) = 128 * 2 ^ (7 * i) := by rw [show 7 * (i + 1) = 7 + 7 * i by omega, Nat.pow_add]
  have h2 : c * 2 ^ (7 * i) ≤ 127 * 2 ^ (7 * i) := Nat.mul_le_mul_right _ (by omega)
  omega
/-- What a round of 'number' finds: at byte i the number so far is below 2^(7 i). -/
theorem number_spec (b : List UInt8) (hb : b.length ≤ 1000000) (u : Nat) (r : List UInt8) (h : pnum 0 0 b = some (u, r)) : GSpec Try.prog 47 1 ⟨[(0, .loc 100 0 0)], [(100, some (.box [.pure (encB b)]))], [100]⟩ [100] 1
    ⟨[(0, .pure (.val (.int .u64 u)))], [(100, some (.box [.pure (encB r)]))], [100]⟩ := by
  refine GSpec.of_vc (fun Γ => more5 false Γ.P Γ.fx) (fun Γ => more5_ok) Try.func47 rfl Try.call47 (by decide) ?_
  rintro ⟨P, N, w0, X, β0, fx, y, hy, pk, df⟩ rfl rfl rfl hoff rfl; change y.on = false at hoff
  repeat' ((try conv => whnf); first | refine k1 (fun hb => ?_) fun hb => ?_ | refine k2 (fun hb => ?_) fun hb => ?_ | (first | refine k3 (fun hb => ?_) fun hb => ?_ | refine k4 (fun hb => ?_) fun hb => ?_) <;> (try rw [List.length_map] at hb) <;> (try (exfalso; omega; done)) | refine k5 (fun hb => ?_) fun hb => ?_ | refine k6 (fun hb => ?_) fun hb => ?_ | refine Both.intro ?_ ?_ | refine And.intro rfl ?_ | refine s1 ?_ | refine s2 ?_ | refine s3 ?_ | refine s4 nm ?_ | refine s5 nm nm ?_ | refine s6 nm nm ?_ | refine s7 ?_ | refine And.intro (by assumption) ?_ | refine s8 nm ?_ | refine s9 nm nm ?_ | refine sa nm ?_ | refine ⟨_, _, getMapN nm, rfl, ?_⟩ | refine .inl ⟨_, getMapN nm, rfl, rfl, ?_⟩ | refine .inl ⟨rfl, rfl, bd, rfl, rfl, ?_⟩ | refine ⟨_, singles_flat _ _, ?_⟩ | refine ⟨_, singles_map _ _, ?_⟩ | refine And.intro (onesB_flat _ _ fun _ => rfl) ?_ | refine And.intro (onesB_map _ _ fun _ => rfl) ?_ | refine .inr ⟨rfl, rfl, rfl, ?_⟩ | refine ⟨⟨⟨onesB_flat _ _ fun _ => rfl, fl⟩, trivial⟩, ?_⟩ | refine And.intro bd ?_ | refine ⟨_, set_map _ _ _, ?_⟩ | refine ⟨_, set_rfl _ _ _, ?_⟩ | refine ⟨_, singles_rfl _, ?_⟩ | fail)
  refine Wp.loop (fun x : Nat × Nat × List UInt8 => ⟨[(0, .loc 100 0 0), (2, .pure (.val (.int .u64 x.2.1))), (3, .int x.1)], [(100, some (.box [.pure (encB x.2.2)]))], [100]⟩) (fun x => x.1 ≤ 9 ∧ x.2.1 < 2 ^ (7 * x.1) ∧ x.2.2.length ≤ 1000000 ∧ pnum x.1 x.2.1 x.2.2 = some (u, r)) (fun x => x.2.2.length) (0, 0, b) (Le.of ?_ ?_ rfl rfl rfl) ⟨by simp, by simp, hb, h⟩ ?_
  · (repeat' (first | exact trivial | exact rfl | refine And.intro ?_ ?_ | refine Exists.intro _ (And.intro rfl ?_) | exact Or.inl rfl | exact l1 bd | exact SubA.lsl ls | exact SubA.sl sc | exact SubA.bool bo | exact l6 rfl | exact rowEq rs | fail))
  · (repeat' (first | exact trivial | exact rfl | refine And.intro ?_ ?_ | refine Exists.intro _ (And.intro rfl ?_) | exact Or.inl rfl | exact l1 bd | exact SubA.lsl ls | exact SubA.sl sc | exact SubA.bool bo | exact l6 rfl | exact rowEq rs | fail))
  rintro ⟨i, v, m⟩ ⟨hi, hv, hm, hp⟩
  dsimp only at hi hv hm hp ⊢
  cases m with
  | nil => cases hp
  | cons c m =>
    rw [pnum_cons] at hp
    have qt := take_spec (c :: m) 1 hm (by simp)
    rw [one_take, show (c :: m).drop 1 = m from rfl] at qt
    split at hp
    · cases hp
    rename_i hno
    have hs := seven_lt (i := i) (c := c.toNat % 128) hi (by omega) (by omega)
    have hnx := seven_next (i := i) (c := c.toNat % 128) hv (by omega)
    simp only [List.length_cons] at hm
    by_cases hc : c.toNat < 128
    · rw [if_pos hc] at hp
      have h1 := congrArg Prod.fst (Option.some.inj hp)
      have h2 := congrArg Prod.snd (Option.some.inj hp)
      dsimp only at h1 h2
      rw [← h1, ← h2]
      first | refine code_sound (more := more5 false _ _) more5_ok FOK.wide _ ?_ | refine code_sound (more := more5 false _ _) more5_ok (FOK.inRound _) _ ?_
      repeat' ((try conv => whnf); first | refine k1 (fun hb => ?_) fun hb => ?_ | refine k2 (fun hb => ?_) fun hb => ?_ | (first | refine k3 (fun hb => ?_) fun hb => ?_ | refine k4 (fun hb => ?_) fun hb => ?_) <;> (try rw [List.length_map] at hb) <;> (try (exfalso; omega; done)) | refine k5 (fun hb => ?_) fun hb => ?_ | refine k6 (fun hb => ?_) fun hb => ?_ | refine Both.intro ?_ ?_ | refine And.intro rfl ?_ | refine s1 ?_ | refine s2 ?_ | refine s3 ?_ | refine s4 nm ?_ | refine s5 nm nm ?_ | refine s6 nm nm ?_ | refine s7 ?_ | refine And.intro (by assumption) ?_ | refine s8 nm ?_ | refine s9 nm nm ?_ | refine sa nm ?_ | refine ⟨_, _, getMapN nm, rfl, ?_⟩ | refine .inl ⟨_, getMapN nm, rfl, rfl, ?_⟩ | refine .inl ⟨rfl, rfl, bd, rfl, rfl, ?_⟩ | refine ⟨_, singles_flat _ _, ?_⟩ | refine ⟨_, singles_map _ _, ?_⟩ | refine And.intro (onesB_flat _ _ fun _ => rfl) ?_ | refine And.intro (onesB_map _ _ fun _ => rfl) ?_ | refine .inr ⟨rfl, rfl, rfl, ?_⟩ | refine ⟨⟨⟨onesB_flat _ _ fun _ => rfl, fl⟩, trivial⟩, ?_⟩ | refine And.intro bd ?_ | refine ⟨_, set_map _ _ _, ?_⟩ | refine ⟨_, set_rfl _ _ _, ?_⟩ | refine ⟨_, singles_rfl _, ?_⟩ | fail)
      refine .inr ⟨[(100, 100)], [.loc 100 0 0, .pure (.val (.int .u64 (1 : Nat)))], [(100, some (.box [.pure (encB (c :: m))]))], [100], [100], 1, _, qt, ⟨Or.inl rfl, Or.inl rfl, trivial⟩, ⟨rfl, trivial⟩, ?_⟩
      repeat' ((try conv => whnf); first | refine k1 (fun hb => ?_) fun hb => ?_ | refine k2 (fun hb => ?_) fun hb => ?_ | (first | refine k3 (fun hb => ?_) fun hb => ?_ | refine k4 (fun hb => ?_) fun hb => ?_) <;> (try rw [List.length_map] at hb) <;> (try (exfalso; omega; done)) | refine k5 (fun hb => ?_) fun hb => ?_ | refine k6 (fun hb => ?_) fun hb => ?_ | refine Both.intro ?_ ?_ | refine And.intro rfl ?_ | refine s1 ?_ | refine s2 ?_ | refine s3 ?_ | refine s4 nm ?_ | refine s5 nm nm ?_ | refine s6 nm nm ?_ | refine s7 ?_ | refine And.intro (by assumption) ?_ | refine s8 nm ?_ | refine s9 nm nm ?_ | refine sa nm ?_ | refine ⟨_, _, getMapN nm, rfl, ?_⟩ | refine .inl ⟨_, getMapN nm, rfl, rfl, ?_⟩ | refine .inl ⟨rfl, rfl, bd, rfl, rfl, ?_⟩ | refine ⟨_, singles_flat _ _, ?_⟩ | refine ⟨_, singles_map _ _, ?_⟩ | refine And.intro (onesB_flat _ _ fun _ => rfl) ?_ | refine And.intro (onesB_map _ _ fun _ => rfl) ?_ | refine .inr ⟨rfl, rfl, rfl, ?_⟩ | refine ⟨⟨⟨onesB_flat _ _ fun _ => rfl, fl⟩, trivial⟩, ?_⟩ | refine And.intro bd ?_ | refine ⟨_, set_map _ _ _, ?_⟩ | refine ⟨_, set_rfl _ _ _, ?_⟩ | refine ⟨_, singles_rfl _, ?_⟩ | fail)
      all_goals simp only [List.getElem_cons_zero] at *
      all_goals first | (exfalso; omega) | skip
      all_goals refine ⟨_, and_127 c, ?_⟩
      all_goals (repeat' ((try conv => whnf); first | refine k1 (fun hb => ?_) fun hb => ?_ | refine k2 (fun hb => ?_) fun hb => ?_ | (first | refine k3 (fun hb => ?_) fun hb => ?_ | refine k4 (fun hb => ?_) fun hb => ?_) <;> (try rw [List.length_map] at hb) <;> (try (exfalso; omega; done)) | refine k5 (fun hb => ?_) fun hb => ?_ | refine k6 (fun hb => ?_) fun hb => ?_ | refine Both.intro ?_ ?_ | refine And.intro rfl ?_ | refine s1 ?_ | refine s2 ?_ | refine s3 ?_ | refine s4 nm ?_ | refine s5 nm nm ?_ | refine s6 nm nm ?_ | refine s7 ?_ | refine And.intro (by assumption) ?_ | refine s8 nm ?_ | refine s9 nm nm ?_ | refine sa nm ?_ | refine ⟨_, _, getMapN nm, rfl, ?_⟩ | refine .inl ⟨_, getMapN nm, rfl, rfl, ?_⟩ | refine .inl ⟨rfl, rfl, bd, rfl, rfl, ?_⟩ | refine ⟨_, singles_flat _ _, ?_⟩ | refine ⟨_, singles_map _ _, ?_⟩ | refine And.intro (onesB_flat _ _ fun _ => rfl) ?_ | refine And.intro (onesB_map _ _ fun _ => rfl) ?_ | refine .inr ⟨rfl, rfl, rfl, ?_⟩ | refine ⟨⟨⟨onesB_flat _ _ fun _ => rfl, fl⟩, trivial⟩, ?_⟩ | refine And.intro bd ?_ | refine ⟨_, set_map _ _ _, ?_⟩ | refine ⟨_, set_rfl _ _ _, ?_⟩ | refine ⟨_, singles_rfl _, ?_⟩ | fail))
      all_goals refine ⟨((c.toNat % 128 : Nat) : Int), by rw [wrap_u64]; omega, ?_⟩
      all_goals (repeat' ((try conv => whnf); first | refine k1 (fun hb => ?_) fun hb => ?_ | refine k2 (fun hb => ?_) fun hb => ?_ | (first | refine k3 (fun hb => ?_) fun hb => ?_ | refine k4 (fun hb => ?_) fun hb => ?_) <;> (try rw [List.length_map] at hb) <;> (try (exfalso; omega; done)) | refine k5 (fun hb => ?_) fun hb => ?_ | refine k6 (fun hb => ?_) fun hb => ?_ | refine Both.intro ?_ ?_ | refine And.intro rfl ?_ | refine s1 ?_ | refine s2 ?_ | refine s3 ?_ | refine s4 nm ?_ | refine s5 nm nm ?_ | refine s6 nm nm ?_ | refine s7 ?_ | refine And.intro (by assumption) ?_ | refine s8 nm ?_ | refine s9 nm nm ?_ | refine sa nm ?_ | refine ⟨_, _, getMapN nm, rfl, ?_⟩ | refine .inl ⟨_, getMapN nm, rfl, rfl, ?_⟩ | refine .inl ⟨rfl, rfl, bd, rfl, rfl, ?_⟩ | refine ⟨_, singles_flat _ _, ?_⟩ | refine ⟨_, singles_map _ _, ?_⟩ | refine And.intro (onesB_flat _ _ fun _ => rfl) ?_ | refine And.intro (onesB_map _ _ fun _ => rfl) ?_ | refine .inr ⟨rfl, rfl, rfl, ?_⟩ | refine ⟨⟨⟨onesB_flat _ _ fun _ => rfl, fl⟩, trivial⟩, ?_⟩ | refine And.intro bd ?_ | refine ⟨_, set_map _ _ _, ?_⟩ | refine ⟨_, set_rfl _ _ _, ?_⟩ | refine ⟨_, singles_rfl _, ?_⟩ | fail))
      all_goals refine ⟨((c.toNat % 128 * 2 ^ (7 * i) : Nat) : Int), by rw [show (7 * (i : Int)) = ((7 * i : Nat) : Int) from by omega]; exact shl_u64 (by omega) hs, ?_⟩
      all_goals (repeat' ((try conv => whnf); first | refine k1 (fun hb => ?_) fun hb => ?_ | refine k2 (fun hb => ?_) fun hb => ?_ | (first | refine k3 (fun hb => ?_) fun hb => ?_ | refine k4 (fun hb => ?_) fun hb => ?_) <;> (try rw [List.length_map] at hb) <;> (try (exfalso; omega; done)) | refine k5 (fun hb => ?_) fun hb => ?_ | refine k6 (fun hb => ?_) fun hb => ?_ | refine Both.intro ?_ ?_ | refine And.intro rfl ?_ | refine s1 ?_ | refine s2 ?_ | refine s3 ?_ | refine s4 nm ?_ | refine s5 nm nm ?_ | refine s6 nm nm ?_ | refine s7 ?_ | refine And.intro (by assumption) ?_ | refine s8 nm ?_ | refine s9 nm nm ?_ | refine sa nm ?_ | refine ⟨_, _, getMapN nm, rfl, ?_⟩ | refine .inl ⟨_, getMapN nm, rfl, rfl, ?_⟩ | refine .inl ⟨rfl, rfl, bd, rfl, rfl, ?_⟩ | refine ⟨_, singles_flat _ _, ?_⟩ | refine ⟨_, singles_map _ _, ?_⟩ | refine And.intro (onesB_flat _ _ fun _ => rfl) ?_ | refine And.intro (onesB_map _ _ fun _ => rfl) ?_ | refine .inr ⟨rfl, rfl, rfl, ?_⟩ | refine ⟨⟨⟨onesB_flat _ _ fun _ => rfl, fl⟩, trivial⟩, ?_⟩ | refine And.intro bd ?_ | refine ⟨_, set_map _ _ _, ?_⟩ | refine ⟨_, set_rfl _ _ _, ?_⟩ | refine ⟨_, singles_rfl _, ?_⟩ | fail))
      all_goals refine ⟨_, or_low (i := 7 * i) hv (by omega) (Nat.mul_mod_left _ _) hs, ?_⟩
      all_goals (repeat' ((try conv => whnf); first | refine k1 (fun hb => ?_) fun hb => ?_ | refine k2 (fun hb => ?_) fun hb => ?_ | (first | refine k3 (fun hb => ?_) fun hb => ?_ | refine k4 (fun hb => ?_) fun hb => ?_) <;> (try rw [List.length_map] at hb) <;> (try (exfalso; omega; done)) | refine k5 (fun hb => ?_) fun hb => ?_ | refine k6 (fun hb => ?_) fun hb => ?_ | refine Both.intro ?_ ?_ | refine And.intro rfl ?_ | refine s1 ?_ | refine s2 ?_ | refine s3 ?_ | refine s4 nm ?_ | refine s5 nm nm ?_ | refine s6 nm nm ?_ | refine s7 ?_ | refine And.intro (by assumption) ?_ | refine s8 nm ?_ | refine s9 nm nm ?_ | refine sa nm ?_ | refine ⟨_, _, getMapN nm, rfl, ?_⟩ | refine .inl ⟨_, getMapN nm, rfl, rfl, ?_⟩ | refine .inl ⟨rfl, rfl, bd, rfl, rfl, ?_⟩ | refine ⟨_, singles_flat _ _, ?_⟩ | refine ⟨_, singles_map _ _, ?_⟩ | refine And.intro (onesB_flat _ _ fun _ => rfl) ?_ | refine And.intro (onesB_map _ _ fun _ => rfl) ?_ | refine .inr ⟨rfl, rfl, rfl, ?_⟩ | refine ⟨⟨⟨onesB_flat _ _ fun _ => rfl, fl⟩, trivial⟩, ?_⟩ | refine And.intro bd ?_ | refine ⟨_, set_map _ _ _, ?_⟩ | refine ⟨_, set_rfl _ _ _, ?_⟩ | refine ⟨_, singles_rfl _, ?_⟩ | fail))
      all_goals (refine Le.of ?_ ?_ rfl rfl rfl)
      all_goals ((repeat' (first | exact trivial | exact rfl | refine And.intro ?_ ?_ | refine Exists.intro _ (And.intro rfl ?_) | exact Or.inl rfl | exact l1 bd | exact SubA.lsl ls | exact SubA.sl sc | exact SubA.bool bo | exact l6 rfl | exact rowEq rs | fail)))
    · rw [if_neg hc] at hp
      first | refine code_sound (more := more5 false _ _) more5_ok FOK.wide _ ?_ | refine code_sound (more := more5 false _ _) more5_ok (FOK.inRound _) _ ?_
      repeat' ((try conv => whnf); first | refine k1 (fun hb => ?_) fun hb => ?_ | refine k2 (fun hb => ?_) fun hb => ?_ | (first | refine k3 (fun hb => ?_) fun hb => ?_ | refine k4 (fun hb => ?_) fun hb => ?_) <;> (try rw [List.length_map] at hb) <;> (try (exfalso; omega; done)) | refine k5 (fun hb => ?_) fun hb => ?_ | refine k6 (fun hb => ?_) fun hb => ?_ | refine Both.intro ?_ ?_ | refine And.intro rfl ?_ | refine s1 ?_ | refine s2 ?_ | refine s3 ?_ | refine s4 nm ?_ | refine s5 nm nm ?_ | refine s6 nm nm ?_ | refine s7 ?_ | refine And.intro (by assumption) ?_ | refine s8 nm ?_ | refine s9 nm nm ?_ | refine sa nm ?_ | refine ⟨_, _, getMapN nm, rfl, ?_⟩ | refine .inl ⟨_, getMapN nm, rfl, rfl, ?_⟩ | refine .inl ⟨rfl, rfl, bd, rfl, rfl, ?_⟩ | refine ⟨_, singles_flat _ _, ?_⟩ | refine ⟨_, singles_map _ _, ?_⟩ | refine And.intro (onesB_flat _ _ fun _ => rfl) ?_ | refine And.intro (onesB_map _ _ fun _ => rfl) ?_ | refine .inr ⟨rfl, rfl, rfl, ?_⟩ | refine ⟨⟨⟨onesB_flat _ _ fun _ => rfl, fl⟩, trivial⟩, ?_⟩ | refine And.intro bd ?_ | refine ⟨_, set_map _ _ _, ?_⟩ | refine ⟨_, set_rfl _ _ _, ?_⟩ | refine ⟨_, singles_rfl _, ?_⟩ | fail)
      refine .inr ⟨[(100, 100)], [.loc 100 0 0, .pure (.val (.int .u64 (1 : Nat)))], [(100, some (.box [.pure (encB (c :: m))]))], [100], [100], 1, _, qt, ⟨Or.inl rfl, Or.inl rfl, trivial⟩, ⟨rfl, trivial⟩, ?_⟩
      repeat' ((try conv => whnf); first | refine k1 (fun hb => ?_) fun hb => ?_ | refine k2 (fun hb => ?_) fun hb => ?_ | (first | refine k3 (fun hb => ?_) fun hb => ?_ | refine k4 (fun hb => ?_) fun hb => ?_) <;> (try rw [List.length_map] at hb) <;> (try (exfalso; omega; done)) | refine k5 (fun hb => ?_) fun hb => ?_ | refine k6 (fun hb => ?_) fun hb => ?_ | refine Both.intro ?_ ?_ | refine And.intro rfl ?_ | refine s1 ?_ | refine s2 ?_ | refine s3 ?_ | refine s4 nm ?_ | refine s5 nm nm ?_ | refine s6 nm nm ?_ | refine s7 ?_ | refine And.intro (by assumption) ?_ | refine s8 nm ?_ | refine s9 nm nm ?_ | refine sa nm ?_ | refine ⟨_, _, getMapN nm, rfl, ?_⟩ | refine .inl ⟨_, getMapN nm, rfl, rfl, ?_⟩ | refine .inl ⟨rfl, rfl, bd, rfl, rfl, ?_⟩ | refine ⟨_, singles_flat _ _, ?_⟩ | refine ⟨_, singles_map _ _, ?_⟩ | refine And.intro (onesB_flat _ _ fun _ => rfl) ?_ | refine And.intro (onesB_map _ _ fun _ => rfl) ?_ | refine .inr ⟨rfl, rfl, rfl, ?_⟩ | refine ⟨⟨⟨onesB_flat _ _ fun _ => rfl, fl⟩, trivial⟩, ?_⟩ | refine And.intro bd ?_ | refine ⟨_, set_map _ _ _, ?_⟩ | refine ⟨_, set_rfl _ _ _, ?_⟩ | refine ⟨_, singles_rfl _, ?_⟩ | fail)
      all_goals simp only [List.getElem_cons_zero] at *
      all_goals first | (exfalso; omega) | skip
      all_goals refine ⟨_, and_127 c, ?_⟩
      all_goals (repeat' ((try conv => whnf); first | refine k1 (fun hb => ?_) fun hb => ?_ | refine k2 (fun hb => ?_) fun hb => ?_ | (first | refine k3 (fun hb => ?_) fun hb => ?_ | refine k4 (fun hb => ?_) fun hb => ?_) <;> (try rw [List.length_map] at hb) <;> (try (exfalso; omega; done)) | refine k5 (fun hb => ?_) fun hb => ?_ | refine k6 (fun hb => ?_) fun hb => ?_ | refine Both.intro ?_ ?_ | refine And.intro rfl ?_ | refine s1 ?_ | refine s2 ?_ | refine s3 ?_ | refine s4 nm ?_ | refine s5 nm nm ?_ | refine s6 nm nm ?_ | refine s7 ?_ | refine And.intro (by assumption) ?_ | refine s8 nm ?_ | refine s9 nm nm ?_ | refine sa nm ?_ | refine ⟨_, _, getMapN nm, rfl, ?_⟩ | refine .inl ⟨_, getMapN nm, rfl, rfl, ?_⟩ | refine .inl ⟨rfl, rfl, bd, rfl, rfl, ?_⟩ | refine ⟨_, singles_flat _ _, ?_⟩ | refine ⟨_, singles_map _ _, ?_⟩ | refine And.intro (onesB_flat _ _ fun _ => rfl) ?_ | refine And.intro (onesB_map _ _ fun _ => rfl) ?_ | refine .inr ⟨rfl, rfl, rfl, ?_⟩ | refine ⟨⟨⟨onesB_flat _ _ fun _ => rfl, fl⟩, trivial⟩, ?_⟩ | refine And.intro bd ?_ | refine ⟨_, set_map _ _ _, ?_⟩ | refine ⟨_, set_rfl _ _ _, ?_⟩ | refine ⟨_, singles_rfl _, ?_⟩ | fail))
      all_goals refine ⟨((c.toNat % 128 : Nat) : Int), by rw [wrap_u64]; omega, ?_⟩
      all_goals (repeat' ((try conv => whnf); first | refine k1 (fun hb => ?_) fun hb => ?_ | refine k2 (fun hb => ?_) fun hb => ?_ | (first | refine k3 (fun hb => ?_) fun hb => ?_ | refine k4 (fun hb => ?_) fun hb => ?_) <;> (try rw [List.length_map] at hb) <;> (try (exfalso; omega; done)) | refine k5 (fun hb => ?_) fun hb => ?_ | refine k6 (fun hb => ?_) fun hb => ?_ | refine Both.intro ?_ ?_ | refine And.intro rfl ?_ | refine s1 ?_ | refine s2 ?_ | refine s3 ?_ | refine s4 nm ?_ | refine s5 nm nm ?_ | refine s6 nm nm ?_ | refine s7 ?_ | refine And.intro (by assumption) ?_ | refine s8 nm ?_ | refine s9 nm nm ?_ | refine sa nm ?_ | refine ⟨_, _, getMapN nm, rfl, ?_⟩ | refine .inl ⟨_, getMapN nm, rfl, rfl, ?_⟩ | refine .inl ⟨rfl, rfl, bd, rfl, rfl, ?_⟩ | refine ⟨_, singles_flat _ _, ?_⟩ | refine ⟨_, singles_map _ _, ?_⟩ | refine And.intro (onesB_flat _ _ fun _ => rfl) ?_ | refine And.intro (onesB_map _ _ fun _ => rfl) ?_ | refine .inr ⟨rfl, rfl, rfl, ?_⟩ | refine ⟨⟨⟨onesB_flat _ _ fun _ => rfl, fl⟩, trivial⟩, ?_⟩ | refine And.intro bd ?_ | refine ⟨_, set_map _ _ _, ?_⟩ | refine ⟨_, set_rfl _ _ _, ?_⟩ | refine ⟨_, singles_rfl _, ?_⟩ | fail))
      all_goals refine ⟨((c.toNat % 128 * 2 ^ (7 * i) : Nat) : Int), by rw [show (7 * (i : Int)) = ((7 * i : Nat) : Int) from by omega]; exact shl_u64 (by omega) hs, ?_⟩
      all_goals (repeat' ((try conv => whnf); first | refine k1 (fun hb => ?_) fun hb => ?_ | refine k2 (fun hb => ?_) fun hb => ?_ | (first | refine k3 (fun hb => ?_) fun hb => ?_ | refine k4 (fun hb => ?_) fun hb => ?_) <;> (try rw [List.length_map] at hb) <;> (try (exfalso; omega; done)) | refine k5 (fun hb => ?_) fun hb => ?_ | refine k6 (fun hb => ?_) fun hb => ?_ | refine Both.intro ?_ ?_ | refine And.intro rfl ?_ | refine s1 ?_ | refine s2 ?_ | refine s3 ?_ | refine s4 nm ?_ | refine s5 nm nm ?_ | refine s6 nm nm ?_ | refine s7 ?_ | refine And.intro (by assumption) ?_ | refine s8 nm ?_ | refine s9 nm nm ?_ | refine sa nm ?_ | refine ⟨_, _, getMapN nm, rfl, ?_⟩ | refine .inl ⟨_, getMapN nm, rfl, rfl, ?_⟩ | refine .inl ⟨rfl, rfl, bd, rfl, rfl, ?_⟩ | refine ⟨_, singles_flat _ _, ?_⟩ | refine ⟨_, singles_map _ _, ?_⟩ | refine And.intro (onesB_flat _ _ fun _ => rfl) ?_ | refine And.intro (onesB_map _ _ fun _ => rfl) ?_ | refine .inr ⟨rfl, rfl, rfl, ?_⟩ | refine ⟨⟨⟨onesB_flat _ _ fun _ => rfl, fl⟩, trivial⟩, ?_⟩ | refine And.intro bd ?_ | refine ⟨_, set_map _ _ _, ?_⟩ | refine ⟨_, set_rfl _ _ _, ?_⟩ | refine ⟨_, singles_rfl _, ?_⟩ | fail))
      all_goals refine ⟨_, or_low (i := 7 * i) hv (by omega) (Nat.mul_mod_left _ _) hs, ?_⟩
      all_goals (repeat' ((try conv => whnf); first | refine k1 (fun hb => ?_) fun hb => ?_ | refine k2 (fun hb => ?_) fun hb => ?_ | (first | refine k3 (fun hb => ?_) fun hb => ?_ | refine k4 (fun hb => ?_) fun hb => ?_) <;> (try rw [List.length_map] at hb) <;> (try (exfalso; omega; done)) | refine k5 (fun hb => ?_) fun hb => ?_ | refine k6 (fun hb => ?_) fun hb => ?_ | refine Both.intro ?_ ?_ | refine And.intro rfl ?_ | refine s1 ?_ | refine s2 ?_ | refine s3 ?_ | refine s4 nm ?_ | refine s5 nm nm ?_ | refine s6 nm nm ?_ | refine s7 ?_ | refine And.intro (by assumption) ?_ | refine s8 nm ?_ | refine s9 nm nm ?_ | refine sa nm ?_ | refine ⟨_, _, getMapN nm, rfl, ?_⟩ | refine .inl ⟨_, getMapN nm, rfl, rfl, ?_⟩ | refine .inl ⟨rfl, rfl, bd, rfl, rfl, ?_⟩ | refine ⟨_, singles_flat _ _, ?_⟩ | refine ⟨_, singles_map _ _, ?_⟩ | refine And.intro (onesB_flat _ _ fun _ => rfl) ?_ | refine And.intro (onesB_map _ _ fun _ => rfl) ?_ | refine .inr ⟨rfl, rfl, rfl, ?_⟩ | refine ⟨⟨⟨onesB_flat _ _ fun _ => rfl, fl⟩, trivial⟩, ?_⟩ | refine And.intro bd ?_ | refine ⟨_, set_map _ _ _, ?_⟩ | refine ⟨_, set_rfl _ _ _, ?_⟩ | refine ⟨_, singles_rfl _, ?_⟩ | fail))
      all_goals exact ⟨(i + 1, v + c.toNat % 128 * 2 ^ (7 * i), m), Le.of (by (repeat' (first | exact trivial | exact rfl | refine And.intro ?_ ?_ | refine Exists.intro _ (And.intro rfl ?_) | exact Or.inl rfl | exact l1 bd | exact SubA.lsl ls | exact SubA.sl sc | exact SubA.bool bo | exact l6 rfl | exact rowEq rs | fail))) (by (repeat' (first | exact trivial | exact rfl | refine And.intro ?_ ?_ | refine Exists.intro _ (And.intro rfl ?_) | exact Or.inl rfl | exact l1 bd | exact SubA.lsl ls | exact SubA.sl sc | exact SubA.bool bo | exact l6 rfl | exact rowEq rs | fail))) rfl rfl rfl, ⟨by simp only; omega, hnx, by simp only; omega, hp⟩, by simp⟩
theorem number_no (b : List UInt8) (hb : b.length ≤ 1000000) (h : pnum 0 0 b = none) : XSpec Try.prog 47 1 ⟨[(0, .loc 100 0 0)], [(100, some (.box [.pure (encB b)]))], [100]⟩ brk := by
  refine XSpec.of_vc (fun Γ => more5 false Γ.P Γ.fx) (fun Γ => more5_ok) Try.func47 rfl Try.call47 (by decide) ?_
  rintro ⟨P, N, w0, X, β0, fx, y, hy, pk, df⟩ rfl rfl rfl hoff rfl; change y.on = false at hoff
  repeat' ((try conv => whnf); first | refine k1 (fun hb => ?_) fun hb => ?_ | refine k2 (fun hb => ?_) fun hb => ?_ | (first | refine k3 (fun hb => ?_) fun hb => ?_ | refine k4 (fun hb => ?_) fun hb => ?_) <;> (try rw [List.length_map] at hb) <;> (try (exfalso; omega; done)) | refine k5 (fun hb => ?_) fun hb => ?_ | refine k6 (fun hb => ?_) fun hb => ?_ | refine Both.intro ?_ ?_ | refine And.intro rfl ?_ | refine s1 ?_ | refine s2 ?_ | refine s3 ?_ | refine s4 nm ?_ | refine s5 nm nm ?_ | refine s6 nm nm ?_ | refine s7 ?_ | refine And.intro (by assumption) ?_ | refine s8 nm ?_ | refine s9 nm nm ?_ | refine sa nm ?_ | refine ⟨_, _, getMapN nm, rfl, ?_⟩ | refine .inl ⟨_, getMapN nm, rfl, rfl, ?_⟩ | refine .inl ⟨rfl, rfl, bd, rfl, rfl, ?_⟩ | refine ⟨_, singles_flat _ _, ?_⟩ | refine ⟨_, singles_map _ _, ?_⟩ | refine And.intro (onesB_flat _ _ fun _ => rfl) ?_ | refine And.intro (onesB_map _ _ fun _ => rfl) ?_ | refine .inr ⟨rfl, rfl, rfl, ?_⟩ | refine ⟨⟨⟨onesB_flat _ _ fun _ => rfl, fl⟩, trivial⟩, ?_⟩ | refine And.intro bd ?_ | refine ⟨_, set_map _ _ _, ?_⟩ | refine ⟨_, set_rfl _ _ _, ?_⟩ | refine ⟨_, singles_rfl _, ?_⟩ | fail)
  refine Wp.loop (fun x : Nat × Nat × List UInt8 => ⟨[(0, .loc 100 0 0), (2, .pure (.val (.int .u64 x.2.1))), (3, .int x.1)], [(100, some (.box [.pure (encB x.2.2)]))], [100]⟩) (fun x => x.1 ≤ 9 ∧ x.2.1 < 2 ^ (7 * x.1) ∧ x.2.2.length ≤ 1000000 ∧ pnum x.1 x.2.1 x.2.2 = none) (fun x => x.2.2.length) (0, 0, b) (Le.of ?_ ?_ rfl rfl rfl) ⟨by simp, by simp, hb, h⟩ ?_
  · (repeat' (first | exact trivial | exact rfl | refine And.intro ?_ ?_ | refine Exists.intro _ (And.intro rfl ?_) | exact Or.inl rfl | exact l1 bd | exact SubA.lsl ls | exact SubA.sl sc | exact SubA.bool bo | exact l6 rfl | exact rowEq rs | fail))
  · (repeat' (first | exact trivial | exact rfl | refine And.intro ?_ ?_ | refine Exists.intro _ (And.intro rfl ?_) | exact Or.inl rfl | exact l1 bd | exact SubA.lsl ls | exact SubA.sl sc | exact SubA.bool bo | exact l6 rfl | exact rowEq rs | fail))
  rintro ⟨i, v, m⟩ ⟨hi, hv, hm, hp⟩
  dsimp only at hi hv hm hp ⊢
  cases m with
  | nil =>
    have qt := take_no [] 1 (by simp) (by simp)
    first | refine code_sound (more := more5 false _ _) more5_ok FOK.wide _ ?_ | refine code_sound (more := more5 false _ _) more5_ok (FOK.inRound _) _ ?_
    repeat' ((try conv => whnf); first | refine k1 (fun hb => ?_) fun hb => ?_ | refine k2 (fun hb => ?_) fun hb => ?_ | (first | refine k3 (fun hb => ?_) fun hb => ?_ | refine k4 (fun hb => ?_) fun hb => ?_) <;> (try rw [List.length_map] at hb) <;> (try (exfalso; omega; done)) | refine k5 (fun hb => ?_) fun hb => ?_ | refine k6 (fun hb => ?_) fun hb => ?_ | refine Both.intro ?_ ?_ | refine And.intro rfl ?_ | refine s1 ?_ | refine s2 ?_ | refine s3 ?_ | refine s4 nm ?_ | refine s5 nm nm ?_ | refine s6 nm nm ?_ | refine s7 ?_ | refine And.intro (by assumption) ?_ | refine s8 nm ?_ | refine s9 nm nm ?_ | refine sa nm ?_ | refine ⟨_, _, getMapN nm, rfl, ?_⟩ | refine .inl ⟨_, getMapN nm, rfl, rfl, ?_⟩ | refine .inl ⟨rfl, rfl, bd, rfl, rfl, ?_⟩ | refine ⟨_, singles_flat _ _, ?_⟩ | refine ⟨_, singles_map _ _, ?_⟩ | refine And.intro (onesB_flat _ _ fun _ => rfl) ?_ | refine And.intro (onesB_map _ _ fun _ => rfl) ?_ | refine .inr ⟨rfl, rfl, rfl, ?_⟩ | refine ⟨⟨⟨onesB_flat _ _ fun _ => rfl, fl⟩, trivial⟩, ?_⟩ | refine And.intro bd ?_ | refine ⟨_, set_map _ _ _, ?_⟩ | refine ⟨_, set_rfl _ _ _, ?_⟩ | refine ⟨_, singles_rfl _, ?_⟩ | fail)
    refine .inl ⟨[(100, 100)], [.loc 100 0 0, .pure (.val (.int .u64 (1 : Nat)))], [(100, some (.box [.pure (encB [])]))], [100], qt, ⟨Or.inl rfl, Or.inl rfl, trivial⟩, ⟨rfl, trivial⟩, trivial⟩
  | cons c m =>
    rw [pnum_cons] at hp
    have qt := take_spec (c :: m) 1 hm (by simp)
    rw [one_take, show (c :: m).drop 1 = m from rfl] at qt
    simp only [List.length_cons] at hm
    by_cases hno : (i = 9 ∧ 1 < c.toNat) ∨ (0 < i ∧ c.toNat = 0)
    · first | refine code_sound (more := more5 false _ _) more5_ok FOK.wide _ ?_ | refine code_sound (more := more5 false _ _) more5_ok (FOK.inRound _) _ ?_
      repeat' ((try conv => whnf); first | refine k1 (fun hb => ?_) fun hb => ?_ | refine k2 (fun hb => ?_) fun hb => ?_ | (first | refine k3 (fun hb => ?_) fun hb => ?_ | refine k4 (fun hb => ?_) fun hb => ?_) <;> (try rw [List.length_map] at hb) <;> (try (exfalso; omega; done)) | refine k5 (fun hb => ?_) fun hb => ?_ | refine k6 (fun hb => ?_) fun hb => ?_ | refine Both.intro ?_ ?_ | refine And.intro rfl ?_ | refine s1 ?_ | refine s2 ?_ | refine s3 ?_ | refine s4 nm ?_ | refine s5 nm nm ?_ | refine s6 nm nm ?_ | refine s7 ?_ | refine And.intro (by assumption) ?_ | refine s8 nm ?_ | refine s9 nm nm ?_ | refine sa nm ?_ | refine ⟨_, _, getMapN nm, rfl, ?_⟩ | refine .inl ⟨_, getMapN nm, rfl, rfl, ?_⟩ | refine .inl ⟨rfl, rfl, bd, rfl, rfl, ?_⟩ | refine ⟨_, singles_flat _ _, ?_⟩ | refine ⟨_, singles_map _ _, ?_⟩ | refine And.intro (onesB_flat _ _ fun _ => rfl) ?_ | refine And.intro (onesB_map _ _ fun _ => rfl) ?_ | refine .inr ⟨rfl, rfl, rfl, ?_⟩ | refine ⟨⟨⟨onesB_flat _ _ fun _ => rfl, fl⟩, trivial⟩, ?_⟩ | refine And.intro bd ?_ | refine ⟨_, set_map _ _ _, ?_⟩ | refine ⟨_, set_rfl _ _ _, ?_⟩ | refine ⟨_, singles_rfl _, ?_⟩ | fail)
      refine .inr <| .inr ⟨[(100, 100)], [.loc 100 0 0, .pure (.val (.int .u64 (1 : Nat)))], [(100, some (.box [.pure (encB (c :: m))]))], [100], [100], 1, _, qt, ⟨Or.inl rfl, Or.inl rfl, trivial⟩, ⟨rfl, trivial⟩, ?_⟩
      repeat' ((try conv => whnf); first | refine k1 (fun hb => ?_) fun hb => ?_ | refine k2 (fun hb => ?_) fun hb => ?_ | (first | refine k3 (fun hb => ?_) fun hb => ?_ | refine k4 (fun hb => ?_) fun hb => ?_) <;> (try rw [List.length_map] at hb) <;> (try (exfalso; omega; done)) | refine k5 (fun hb => ?_) fun hb => ?_ | refine k6 (fun hb => ?_) fun hb => ?_ | refine Both.intro ?_ ?_ | refine And.intro rfl ?_ | refine s1 ?_ | refine s2 ?_ | refine s3 ?_ | refine s4 nm ?_ | refine s5 nm nm ?_ | refine s6 nm nm ?_ | refine s7 ?_ | refine And.intro (by assumption) ?_ | refine s8 nm ?_ | refine s9 nm nm ?_ | refine sa nm ?_ | refine ⟨_, _, getMapN nm, rfl, ?_⟩ | refine .inl ⟨_, getMapN nm, rfl, rfl, ?_⟩ | refine .inl ⟨rfl, rfl, bd, rfl, rfl, ?_⟩ | refine ⟨_, singles_flat _ _, ?_⟩ | refine ⟨_, singles_map _ _, ?_⟩ | refine And.intro (onesB_flat _ _ fun _ => rfl) ?_ | refine And.intro (onesB_map _ _ fun _ => rfl) ?_ | refine .inr ⟨rfl, rfl, rfl, ?_⟩ | refine ⟨⟨⟨onesB_flat _ _ fun _ => rfl, fl⟩, trivial⟩, ?_⟩ | refine And.intro bd ?_ | refine ⟨_, set_map _ _ _, ?_⟩ | refine ⟨_, set_rfl _ _ _, ?_⟩ | refine ⟨_, singles_rfl _, ?_⟩ | fail)
      all_goals simp only [List.getElem_cons_zero] at *
      all_goals first | trivial | (exfalso; omega)
    · rw [if_neg hno] at hp
      have hs := seven_lt (i := i) (c := c.toNat % 128) hi (by omega) (by omega)
      have hnx := seven_next (i := i) (c := c.toNat % 128) hv (by omega)
      by_cases hc : c.toNat < 128
      · rw [if_pos hc] at hp
        cases hp
      · rw [if_neg hc] at hp
        first | refine code_sound (more := more5 false _ _) more5_ok FOK.wide _ ?_ | refine code_sound (more := more5 false _ _) more5_ok (FOK.inRound _) _ ?_
        repeat' ((try conv => whnf); first | refine k1 (fun hb => ?_) fun hb => ?_ | refine k2 (fun hb => ?_) fun hb => ?_ | (first | refine k3 (fun hb => ?_) fun hb => ?_ | refine k4 (fun hb => ?_) fun hb => ?_) <;> (try rw [List.length_map] at hb) <;> (try (exfalso; omega; done)) | refine k5 (fun hb => ?_) fun hb => ?_ | refine k6 (fun hb => ?_) fun hb => ?_ | refine Both.intro ?_ ?_ | refine And.intro rfl ?_ | refine s1 ?_ | refine s2 ?_ | refine s3 ?_ | refine s4 nm ?_ | refine s5 nm nm ?_ | refine s6 nm nm ?_ | refine s7 ?_ | refine And.intro (by assumption) ?_ | refine s8 nm ?_ | refine s9 nm nm ?_ | refine sa nm ?_ | refine ⟨_, _, getMapN nm, rfl, ?_⟩ | refine .inl ⟨_, getMapN nm, rfl, rfl, ?_⟩ | refine .inl ⟨rfl, rfl, bd, rfl, rfl, ?_⟩ | refine ⟨_, singles_flat _ _, ?_⟩ | refine ⟨_, singles_map _ _, ?_⟩ | refine And.intro (onesB_flat _ _ fun _ => rfl) ?_ | refine And.intro (onesB_map _ _ fun _ => rfl) ?_ | refine .inr ⟨rfl, rfl, rfl, ?_⟩ | refine ⟨⟨⟨onesB_flat _ _ fun _ => rfl, fl⟩, trivial⟩, ?_⟩ | refine And.intro bd ?_ | refine ⟨_, set_map _ _ _, ?_⟩ | refine ⟨_, set_rfl _ _ _, ?_⟩ | refine ⟨_, singles_rfl _, ?_⟩ | fail)
        refine .inr <| .inr ⟨[(100, 100)], [.loc 100 0 0, .pure (.val (.int .u64 (1 : Nat)))], [(100, some (.box [.pure (encB (c :: m))]))], [100], [100], 1, _, qt, ⟨Or.inl rfl, Or.inl rfl, trivial⟩, ⟨rfl, trivial⟩, ?_⟩
        repeat' ((try conv => whnf); first | refine k1 (fun hb => ?_) fun hb => ?_ | refine k2 (fun hb => ?_) fun hb => ?_ | (first | refine k3 (fun hb => ?_) fun hb => ?_ | refine k4 (fun hb => ?_) fun hb => ?_) <;> (try rw [List.length_map] at hb) <;> (try (exfalso; omega; done)) | refine k5 (fun hb => ?_) fun hb => ?_ | refine k6 (fun hb => ?_) fun hb => ?_ | refine Both.intro ?_ ?_ | refine And.intro rfl ?_ | refine s1 ?_ | refine s2 ?_ | refine s3 ?_ | refine s4 nm ?_ | refine s5 nm nm ?_ | refine s6 nm nm ?_ | refine s7 ?_ | refine And.intro (by assumption) ?_ | refine s8 nm ?_ | refine s9 nm nm ?_ | refine sa nm ?_ | refine ⟨_, _, getMapN nm, rfl, ?_⟩ | refine .inl ⟨_, getMapN nm, rfl, rfl, ?_⟩ | refine .inl ⟨rfl, rfl, bd, rfl, rfl, ?_⟩ | refine ⟨_, singles_flat _ _, ?_⟩ | refine ⟨_, singles_map _ _, ?_⟩ | refine And.intro (onesB_flat _ _ fun _ => rfl) ?_ | refine And.intro (onesB_map _ _ fun _ => rfl) ?_ | refine .inr ⟨rfl, rfl, rfl, ?_⟩ | refine ⟨⟨⟨onesB_flat _ _ fun _ => rfl, fl⟩, trivial⟩, ?_⟩ | refine And.intro bd ?_ | refine ⟨_, set_map _ _ _, ?_⟩ | refine ⟨_, set_rfl _ _ _, ?_⟩ | refine ⟨_, singles_rfl _, ?_⟩ | fail)
        all_goals simp only [List.getElem_cons_zero] at *
        all_goals first | (exfalso; omega) | skip
        all_goals refine ⟨_, and_127 c, ?_⟩
        all_goals (repeat' ((try conv => whnf); first | refine k1 (fun hb => ?_) fun hb => ?_ | refine k2 (fun hb => ?_) fun hb => ?_ | (first | refine k3 (fun hb => ?_) fun hb => ?_ | refine k4 (fun hb => ?_) fun hb => ?_) <;> (try rw [List.length_map] at hb) <;> (try (exfalso; omega; done)) | refine k5 (fun hb => ?_) fun hb => ?_ | refine k6 (fun hb => ?_) fun hb => ?_ | refine Both.intro ?_ ?_ | refine And.intro rfl ?_ | refine s1 ?_ | refine s2 ?_ | refine s3 ?_ | refine s4 nm ?_ | refine s5 nm nm ?_ | refine s6 nm nm ?_ | refine s7 ?_ | refine And.intro (by assumption) ?_ | refine s8 nm ?_ | refine s9 nm nm ?_ | refine sa nm ?_ | refine ⟨_, _, getMapN nm, rfl, ?_⟩ | refine .inl ⟨_, getMapN nm, rfl, rfl, ?_⟩ | refine .inl ⟨rfl, rfl, bd, rfl, rfl, ?_⟩ | refine ⟨_, singles_flat _ _, ?_⟩ | refine ⟨_, singles_map _ _, ?_⟩ | refine And.intro (onesB_flat _ _ fun _ => rfl) ?_ | refine And.intro (onesB_map _ _ fun _ => rfl) ?_ | refine .inr ⟨rfl, rfl, rfl, ?_⟩ | refine ⟨⟨⟨onesB_flat _ _ fun _ => rfl, fl⟩, trivial⟩, ?_⟩ | refine And.intro bd ?_ | refine ⟨_, set_map _ _ _, ?_⟩ | refine ⟨_, set_rfl _ _ _, ?_⟩ | refine ⟨_, singles_rfl _, ?_⟩ | fail))
        all_goals refine ⟨((c.toNat % 128 : Nat) : Int), by rw [wrap_u64]; omega, ?_⟩
        all_goals (repeat' ((try conv => whnf); first | refine k1 (fun hb => ?_) fun hb => ?_ | refine k2 (fun hb => ?_) fun hb => ?_ | (first | refine k3 (fun hb => ?_) fun hb => ?_ | refine k4 (fun hb => ?_) fun hb => ?_) <;> (try rw [List.length_map] at hb) <;> (try (exfalso; omega; done)) | refine k5 (fun hb => ?_) fun hb => ?_ | refine k6 (fun hb => ?_) fun hb => ?_ | refine Both.intro ?_ ?_ | refine And.intro rfl ?_ | refine s1 ?_ | refine s2 ?_ | refine s3 ?_ | refine s4 nm ?_ | refine s5 nm nm ?_ | refine s6 nm nm ?_ | refine s7 ?_ | refine And.intro (by assumption) ?_ | refine s8 nm ?_ | refine s9 nm nm ?_ | refine sa nm ?_ | refine ⟨_, _, getMapN nm, rfl, ?_⟩ | refine .inl ⟨_, getMapN nm, rfl, rfl, ?_⟩ | refine .inl ⟨rfl, rfl, bd, rfl, rfl, ?_⟩ | refine ⟨_, singles_flat _ _, ?_⟩ | refine ⟨_, singles_map _ _, ?_⟩ | refine And.intro (onesB_flat _ _ fun _ => rfl) ?_ | refine And.intro (onesB_map _ _ fun _ => rfl) ?_ | refine .inr ⟨rfl, rfl, rfl, ?_⟩ | refine ⟨⟨⟨onesB_flat _ _ fun _ => rfl, fl⟩, trivial⟩, ?_⟩ | refine And.intro bd ?_ | refine ⟨_, set_map _ _ _, ?_⟩ | refine ⟨_, set_rfl _ _ _, ?_⟩ | refine ⟨_, singles_rfl _, ?_⟩ | fail))
        all_goals refine ⟨((c.toNat % 128 * 2 ^ (7 * i) : Nat) : Int), by rw [show (7 * (i : Int)) = ((7 * i : Nat) : Int) from by omega]; exact shl_u64 (by omega) hs, ?_⟩
        all_goals (repeat' ((try conv => whnf); first | refine k1 (fun hb => ?_) fun hb => ?_ | refine k2 (fun hb => ?_) fun hb => ?_ | (first | refine k3 (fun hb => ?_) fun hb => ?_ | refine k4 (fun hb => ?_) fun hb => ?_) <;> (try rw [List.length_map] at hb) <;> (try (exfalso; omega; done)) | refine k5 (fun hb => ?_) fun hb => ?_ | refine k6 (fun hb => ?_) fun hb => ?_ | refine Both.intro ?_ ?_ | refine And.intro rfl ?_ | refine s1 ?_ | refine s2 ?_ | refine s3 ?_ | refine s4 nm ?_ | refine s5 nm nm ?_ | refine s6 nm nm ?_ | refine s7 ?_ | refine And.intro (by assumption) ?_ | refine s8 nm ?_ | refine s9 nm nm ?_ | refine sa nm ?_ | refine ⟨_, _, getMapN nm, rfl, ?_⟩ | refine .inl ⟨_, getMapN nm, rfl, rfl, ?_⟩ | refine .inl ⟨rfl, rfl, bd, rfl, rfl, ?_⟩ | refine ⟨_, singles_flat _ _, ?_⟩ | refine ⟨_, singles_map _ _, ?_⟩ | refine And.intro (onesB_flat _ _ fun _ => rfl) ?_ | refine And.intro (onesB_map _ _ fun _ => rfl) ?_ | refine .inr ⟨rfl, rfl, rfl, ?_⟩ | refine ⟨⟨⟨onesB_flat _ _ fun _ => rfl, fl⟩, trivial⟩, ?_⟩ | refine And.intro bd ?_ | refine ⟨_, set_map _ _ _, ?_⟩ | refine ⟨_, set_rfl _ _ _, ?_⟩ | refine ⟨_, singles_rfl _, ?_⟩ | fail))
        all_goals refine ⟨_, or_low (i := 7 * i) hv (by omega) (Nat.mul_mod_left _ _) hs, ?_⟩
        all_goals (repeat' ((try conv => whnf); first | refine k1 (fun hb => ?_) fun hb => ?_ | refine k2 (fun hb => ?_) fun hb => ?_ | (first | refine k3 (fun hb => ?_) fun hb => ?_ | refine k4 (fun hb => ?_) fun hb => ?_) <;> (try rw [List.length_map] at hb) <;> (try (exfalso; omega; done)) | refine k5 (fun hb => ?_) fun hb => ?_ | refine k6 (fun hb => ?_) fun hb => ?_ | refine Both.intro ?_ ?_ | refine And.intro rfl ?_ | refine s1 ?_ | refine s2 ?_ | refine s3 ?_ | refine s4 nm ?_ | refine s5 nm nm ?_ | refine s6 nm nm ?_ | refine s7 ?_ | refine And.intro (by assumption) ?_ | refine s8 nm ?_ | refine s9 nm nm ?_ | refine sa nm ?_ | refine ⟨_, _, getMapN nm, rfl, ?_⟩ | refine .inl ⟨_, getMapN nm, rfl, rfl, ?_⟩ | refine .inl ⟨rfl, rfl, bd, rfl, rfl, ?_⟩ | refine ⟨_, singles_flat _ _, ?_⟩ | refine ⟨_, singles_map _ _, ?_⟩ | refine And.intro (onesB_flat _ _ fun _ => rfl) ?_ | refine And.intro (onesB_map _ _ fun _ => rfl) ?_ | refine .inr ⟨rfl, rfl, rfl, ?_⟩ | refine ⟨⟨⟨onesB_flat _ _ fun _ => rfl, fl⟩, trivial⟩, ?_⟩ | refine And.intro bd ?_ | refine ⟨_, set_map _ _ _, ?_⟩ | refine ⟨_, set_rfl _ _ _, ?_⟩ | refine ⟨_, singles_rfl _, ?_⟩ | fail))
        all_goals exact ⟨(i + 1, v + c.toNat % 128 * 2 ^ (7 * i), m), Le.of (by (repeat' (first | exact trivial | exact rfl | refine And.intro ?_ ?_ | refine Exists.intro _ (And.intro rfl ?_) | exact Or.inl rfl | exact l1 bd | exact SubA.lsl ls | exact SubA.sl sc | exact SubA.bool bo | exact l6 rfl | exact rowEq rs | fail))) (by (repeat' (first | exact trivial | exact rfl | refine And.intro ?_ ?_ | refine Exists.intro _ (And.intro rfl ?_) | exact Or.inl rfl | exact l1 bd | exact SubA.lsl ls | exact SubA.sl sc | exact SubA.bool bo | exact l6 rfl | exact rowEq rs | fail))) rfl rfl rfl, ⟨by simp only; omega, hnx, by simp only; omega, hp⟩, by simp⟩
end Go.Proofs.Ytigfakjppicdlaa
/- Codec: a value is read. Conditions: none. -/
namespace Go.Proofs.Ytigfakjppicdlaa
open Go.Avc
theorem xor_m1 {a : Nat} (ha : a < 9223372036854775808) : bits .xor .i64 (a : Int) (-1) = -(a : Int) - 1 := by
  have h1 : (BitVec.ofInt IntKind.i64.bits (-1)).toNat = 18446744073709551615 := by decide
  have ha' : a % 2 ^ IntKind.i64.bits = a := Nat.mod_eq_of_lt (by show a < 2 ^ 64; omega)
  simp only [bits, BitVec.ofInt_natCast, BitVec.toNat_xor, BitVec.toNat_ofNat, ha', h1]
  rw [xor_ones (by omega), IntKind.wrap_i64]; omega
theorem xor_0 {a : Nat} (ha : a < 9223372036854775808) : bits .xor .i64 (a : Int) 0 = (a : Int) := by
  have := bits_xor_nat .i64 63 (by decide) wraps_i64 a 0 ha (by decide)
  rw [Nat.xor_zero] at this
  exact this
theorem and_1 {n : Nat} (h : n < 18446744073709551616) : bits .and .u64 (n : Int) 1 = ((n % 2 : Nat) : Int) := by
  have := (bits_nat .u64 64 (by decide) wraps_u64 n 1 h (by decide)).1
  rw [Nat.and_one_is_mod] at this
  exact this
theorem sg_range {u : Nat} (h : u < 18446744073709551616) : -9223372036854775808 ≤ sg u ∧ sg u ≤ 9223372036854775807 := by unfold sg; split <;> omega
set_option maxRecDepth 20000
set_option maxHeartbeats 4000000
set_option linter.unusedSimpArgs false
attribute [local irreducible] PSub Wp PSpec Le Need Both
attribute [local irreducible] rval rone rlist rvals pnum sg
theorem signed_spec (u : Nat) (h : u < 18446744073709551616) : PSpec Try.prog 46 [.val (.int .u64 u)] (.int (sg u)) := by
  refine PSpec.of_vc (fun Γ => more5 false Γ.P Γ.fx) (fun Γ => more5_ok) Try.func46 rfl Try.call46 (by simp) ?_
  rintro ⟨P, N, w0, X, β0, fx, y, hy, pk, df⟩ rfl rfl rfl hoff rfl; change y.on = false at hoff
  repeat' ((try conv => whnf); first | refine k1 (fun hb => ?_) fun hb => ?_ | refine k2 (fun hb => ?_) fun hb => ?_ | (first | refine k3 (fun hb => ?_) fun hb => ?_ | refine k4 (fun hb => ?_) fun hb => ?_) <;> (try rw [List.length_map] at hb) <;> (try (exfalso; omega; done)) | refine k5 (fun hb => ?_) fun hb => ?_ | refine k6 (fun hb => ?_) fun hb => ?_ | refine Both.intro ?_ ?_ | refine And.intro rfl ?_ | refine s1 ?_ | refine s2 ?_ | refine s3 ?_ | refine s4 nm ?_ | refine s5 nm nm ?_ | refine s6 nm nm ?_ | refine s7 ?_ | refine And.intro (by assumption) ?_ | refine s8 nm ?_ | refine s9 nm nm ?_ | refine sa nm ?_ | refine ⟨_, _, getMapN nm, rfl, ?_⟩ | refine .inl ⟨_, getMapN nm, rfl, rfl, ?_⟩ | refine .inl ⟨rfl, rfl, bd, rfl, rfl, ?_⟩ | refine ⟨_, singles_flat _ _, ?_⟩ | refine ⟨_, singles_map _ _, ?_⟩ | refine And.intro (onesB_flat _ _ fun _ => rfl) ?_ | refine And.intro (onesB_map _ _ fun _ => rfl) ?_ | refine .inr ⟨rfl, rfl, rfl, ?_⟩ | refine ⟨⟨⟨onesB_flat _ _ fun _ => rfl, fl⟩, trivial⟩, ?_⟩ | refine And.intro bd ?_ | refine ⟨_, set_map _ _ _, ?_⟩ | refine ⟨_, set_rfl _ _ _, ?_⟩ | refine ⟨_, singles_rfl _, ?_⟩ | fail)
  refine ⟨((u / 2 : Nat) : Int), shr_nat u 1 64 (by decide), ?_⟩
  repeat' ((try conv => whnf); first | refine k1 (fun hb => ?_) fun hb => ?_ | refine k2 (fun hb => ?_) fun hb => ?_ | (first | refine k3 (fun hb => ?_) fun hb => ?_ | refine k4 (fun hb => ?_) fun hb => ?_) <;> (try rw [List.length_map] at hb) <;> (try (exfalso; omega; done)) | refine k5 (fun hb => ?_) fun hb => ?_ | refine k6 (fun hb => ?_) fun hb => ?_ | refine Both.intro ?_ ?_ | refine And.intro rfl ?_ | refine s1 ?_ | refine s2 ?_ | refine s3 ?_ | refine s4 nm ?_ | refine s5 nm nm ?_ | refine s6 nm nm ?_ | refine s7 ?_ | refine And.intro (by assumption) ?_ | refine s8 nm ?_ | refine s9 nm nm ?_ | refine sa nm ?_ | refine ⟨_, _, getMapN nm, rfl, ?_⟩ | refine .inl ⟨_, getMapN nm, rfl, rfl, ?_⟩ | refine .inl ⟨rfl, rfl, bd, rfl, rfl, ?_⟩ | refine ⟨_, singles_flat _ _, ?_⟩ | refine ⟨_, singles_map _ _, ?_⟩ | refine And.intro (onesB_flat _ _ fun _ => rfl) ?_ | refine And.intro (onesB_map _ _ fun _ => rfl) ?_ | refine .inr ⟨rfl, rfl, rfl, ?_⟩ | refine ⟨⟨⟨onesB_flat _ _ fun _ => rfl, fl⟩, trivial⟩, ?_⟩ | refine And.intro bd ?_ | refine ⟨_, set_map _ _ _, ?_⟩ | refine ⟨_, set_rfl _ _ _, ?_⟩ | refine ⟨_, singles_rfl _, ?_⟩ | fail)
  refine ⟨_, and_1 h, ?_⟩
  repeat' ((try conv => whnf); first | refine k1 (fun hb => ?_) fun hb => ?_ | refine k2 (fun hb => ?_) fun hb => ?_ | (first | refine k3 (fun hb => ?_) fun hb => ?_ | refine k4 (fun hb => ?_) fun hb => ?_) <;> (try rw [List.length_map] at hb) <;> (try (exfalso; omega; done)) | refine k5 (fun hb => ?_) fun hb => ?_ | refine k6 (fun hb => ?_) fun hb => ?_ | refine Both.intro ?_ ?_ | refine And.intro rfl ?_ | refine s1 ?_ | refine s2 ?_ | refine s3 ?_ | refine s4 nm ?_ | refine s5 nm nm ?_ | refine s6 nm nm ?_ | refine s7 ?_ | refine And.intro (by assumption) ?_ | refine s8 nm ?_ | refine s9 nm nm ?_ | refine sa nm ?_ | refine ⟨_, _, getMapN nm, rfl, ?_⟩ | refine .inl ⟨_, getMapN nm, rfl, rfl, ?_⟩ | refine .inl ⟨rfl, rfl, bd, rfl, rfl, ?_⟩ | refine ⟨_, singles_flat _ _, ?_⟩ | refine ⟨_, singles_map _ _, ?_⟩ | refine And.intro (onesB_flat _ _ fun _ => rfl) ?_ | refine And.intro (onesB_map _ _ fun _ => rfl) ?_ | refine .inr ⟨rfl, rfl, rfl, ?_⟩ | refine ⟨⟨⟨onesB_flat _ _ fun _ => rfl, fl⟩, trivial⟩, ?_⟩ | refine And.intro bd ?_ | refine ⟨_, set_map _ _ _, ?_⟩ | refine ⟨_, set_rfl _ _ _, ?_⟩ | refine ⟨_, singles_rfl _, ?_⟩ | fail)
  rcases Nat.mod_two_eq_zero_or_one u with h2 | h2
  · refine ⟨((u / 2 : Nat) : Int), by rw [h2]; exact xor_0 (by omega), ?_⟩
    repeat' ((try conv => whnf); first | refine k1 (fun hb => ?_) fun hb => ?_ | refine k2 (fun hb => ?_) fun hb => ?_ | (first | refine k3 (fun hb => ?_) fun hb => ?_ | refine k4 (fun hb => ?_) fun hb => ?_) <;> (try rw [List.length_map] at hb) <;> (try (exfalso; omega; done)) | refine k5 (fun hb => ?_) fun hb => ?_ | refine k6 (fun hb => ?_) fun hb => ?_ | refine Both.intro ?_ ?_ | refine And.intro rfl ?_ | refine s1 ?_ | refine s2 ?_ | refine s3 ?_ | refine s4 nm ?_ | refine s5 nm nm ?_ | refine s6 nm nm ?_ | refine s7 ?_ | refine And.intro (by assumption) ?_ | refine s8 nm ?_ | refine s9 nm nm ?_ | refine sa nm ?_ | refine ⟨_, _, getMapN nm, rfl, ?_⟩ | refine .inl ⟨_, getMapN nm, rfl, rfl, ?_⟩ | refine .inl ⟨rfl, rfl, bd, rfl, rfl, ?_⟩ | refine ⟨_, singles_flat _ _, ?_⟩ | refine ⟨_, singles_map _ _, ?_⟩ | refine And.intro (onesB_flat _ _ fun _ => rfl) ?_ | refine And.intro (onesB_map _ _ fun _ => rfl) ?_ | refine .inr ⟨rfl, rfl, rfl, ?_⟩ | refine ⟨⟨⟨onesB_flat _ _ fun _ => rfl, fl⟩, trivial⟩, ?_⟩ | refine And.intro bd ?_ | refine ⟨_, set_map _ _ _, ?_⟩ | refine ⟨_, set_rfl _ _ _, ?_⟩ | refine ⟨_, singles_rfl _, ?_⟩ | fail)
    exact PSub.val_int (by unfold sg; rw [if_pos h2])
  · refine ⟨-((u / 2 : Nat) : Int) - 1, by rw [h2]; exact xor_m1 (by omega), ?_⟩
    repeat' ((try conv => whnf); first | refine k1 (fun hb => ?_) fun hb => ?_ | refine k2 (fun hb => ?_) fun hb => ?_ | (first | refine k3 (fun hb => ?_) fun hb => ?_ | refine k4 (fun hb => ?_) fun hb => ?_) <;> (try rw [List.length_map] at hb) <;> (try (exfalso; omega; done)) | refine k5 (fun hb => ?_) fun hb => ?_ | refine k6 (fun hb => ?_) fun hb => ?_ | refine Both.intro ?_ ?_ | refine And.intro rfl ?_ | refine s1 ?_ | refine s2 ?_ | refine s3 ?_ | refine s4 nm ?_ | refine s5 nm nm ?_ | refine s6 nm nm ?_ | refine s7 ?_ | refine And.intro (by assumption) ?_ | refine s8 nm ?_ | refine s9 nm nm ?_ | refine sa nm ?_ | refine ⟨_, _, getMapN nm, rfl, ?_⟩ | refine .inl ⟨_, getMapN nm, rfl, rfl, ?_⟩ | refine .inl ⟨rfl, rfl, bd, rfl, rfl, ?_⟩ | refine ⟨_, singles_flat _ _, ?_⟩ | refine ⟨_, singles_map _ _, ?_⟩ | refine And.intro (onesB_flat _ _ fun _ => rfl) ?_ | refine And.intro (onesB_map _ _ fun _ => rfl) ?_ | refine .inr ⟨rfl, rfl, rfl, ?_⟩ | refine ⟨⟨⟨onesB_flat _ _ fun _ => rfl, fl⟩, trivial⟩, ?_⟩ | refine And.intro bd ?_ | refine ⟨_, set_map _ _ _, ?_⟩ | refine ⟨_, set_rfl _ _ _, ?_⟩ | refine ⟨_, singles_rfl _, ?_⟩ | fail)
    exact PSub.val_int (by unfold sg; rw [if_neg (by omega)])
def pf : Nat → Option (List UInt8 → Val × Option (List UInt8))
  | 0 => none
  | f + 1 => some (rval f)
theorem rval_eq (f : Nat) (b : List UInt8) : rval f b = rone (pf f) b := by cases f <;> (unfold rval pf; rfl)
theorem pnum_len : ∀ (b : List UInt8) (i u : Nat) {n : Nat} {r : List UInt8}, pnum i u b = some (n, r) → r.length < b.length
  | [], i, u, n, r, h => by unfold pnum at h; cases h
  | c :: b, i, u, n, r, h => by
    rw [pnum_cons] at h
    split at h
    · cases h
    · split at h
      · cases h; simp
      · have := pnum_len b _ _ h; simp; omega
theorem pnum_lt : ∀ (b : List UInt8) (i u : Nat) {n : Nat} {r : List UInt8}, i ≤ 9 → u < 2 ^ (7 * i) → pnum i u b = some (n, r) → n < 18446744073709551616
  | [], i, u, n, r, _, _, h => by unfold pnum at h; cases h
  | c :: b, i, u, n, r, hi, hu, h => by
    rw [pnum_cons] at h
    split at h
    · cases h
    rename_i hno
    have hs := seven_lt (i := i) (c := c.toNat % 128) hi (by omega) (by omega)
    have hnx := seven_next (i := i) (c := c.toNat % 128) hu (by omega)
    split at h
    · have h1 := congrArg Prod.fst (Option.some.inj h)
      dsimp only at h1
      by_cases h9 : i = 9
      · subst h9
        have hc : c.toNat % 128 ≤ 1 := by omega
        have : c.toNat % 128 * 2 ^ (7 * 9) ≤ 1 * 2 ^ (7 * 9) := Nat.mul_le_mul_right _ hc
        rw [← h1]
        exact Nat.lt_of_lt_of_le (Nat.add_lt_add_of_lt_of_le hu this) (by decide)
      · rw [← h1]
        exact Nat.lt_of_lt_of_le hnx (Nat.le_trans (Nat.pow_le_pow_right (by decide) (show 7 * (i + 1) ≤ 63 by omega)) (by decide))
    · by_cases h9 : i = 9
      · omega
      · exact pnum_lt b (i + 1) _ (by omega) hnx h
theorem end_val {B : Nat → Option Blk} {v : Val} {k n : Int} {s : ByteArray} {q : PV} (h1 : k = v.kind) (h2 : n = v.num) (h3 : s = v.str) (h4 : PSub q (.sl 4 (v.kids.map encV))) :
    SubA B (.agg [.pure (.int k), .pure (.int n), .pure (.val (.string s)), .pure q]) (.pure (.agg (encV v))) := by
  refine Or.inr (Or.inr (Or.inl ⟨.agg [.int k, .int n, .val (.string s), q], _, rfl, rfl, ?_⟩))
  rw [encV_eq, h1, h2, h3]
  exact PSub.agg ⟨PSub.refl _, PSub.refl _, PSub.refl _, h4, trivial⟩
theorem rvals_succ (p : List UInt8 → Val × Option (List UInt8)) (n : Nat) (r : List UInt8) : rvals p (n + 1) r = match p r with
  | (v, none) => ([v], none)
  | (v, some r') => match rvals p n r' with
    | (l, o) => (v :: l, o) := by
  first
    | (conv => lhs; rw [rvals]
       cases p r with
       | mk v o => cases o <;> rfl)
    | (conv => lhs; rw [rvals])
theorem rvals_zero (p : List UInt8 → Val × Option (List UInt8)) (r : List UInt8) : rvals p 0 r = ([], some r) := by unfold rvals; rfl
theorem rvals_len {p : List UInt8 → Val × Option (List UInt8)} (hp : ∀ (b r : List UInt8) (v : Val), p b = (v, some r) → r.length < b.length) : ∀ (n : Nat) {b r : List UInt8} {l : List Val}, rvals p n b = (l, some r) → r.length ≤ b.length
  | 0, b, r, l, h => by
    rw [rvals_zero] at h
    simp only [Prod.mk.injEq, Option.some.injEq] at h
    rw [← h.2]
    exact Nat.le_refl _
  | n + 1, b, r, l, h => by
    rw [rvals_succ] at h
    cases hc : p b with
    | mk x o => cases o with
      | none => rw [hc] at h; cases h
      | some q =>
        have h1 := hp b q x hc
        rw [hc] at h
        dsimp only at h
        cases hc2 : rvals p n q with
        | mk l' o' =>
          rw [hc2] at h
          simp only [Prod.mk.injEq] at h
          rw [h.2] at hc2
          have h2 := rvals_len hp n hc2
          omega
theorem rval_len (f : Nat) : ∀ {b r : List UInt8} {v : Val}, rval f b = (v, some r) → r.length < b.length := by
  induction f with
  | zero =>
    intro b r v h
    rw [rval_eq] at h
    unfold pf rone at h
    cases b with
    | nil => cases h
    | cons c m =>
      dsimp only at h
      split at h
      · cases hn : pnum 0 0 m with
        | none => rw [hn] at h; cases h
        | some p => have := pnum_len m 0 0 (n := p.1) (r := p.2) hn; rw [hn] at h; simp only [Prod.mk.injEq, Option.some.injEq] at h; rw [← h.2]; simp; omega
      · split at h
        · cases hn : pnum 0 0 m with
          | none => rw [hn] at h; cases h
          | some p =>
            have := pnum_len m 0 0 (n := p.1) (r := p.2) hn; rw [hn] at h; dsimp only at h
            split at h
            · simp only [Prod.mk.injEq, Option.some.injEq] at h; rw [← h.2]; simp; omega
            · cases h
        · split at h
          · unfold rlist at h
            cases hn : pnum 0 0 m with
            | none => rw [hn] at h; cases h
            | some p => rw [hn] at h; cases h
          · cases h
  | succ f ih =>
    intro b r v h
    rw [rval_eq] at h
    unfold pf rone at h
    cases b with
    | nil => cases h
    | cons c m =>
      dsimp only at h
      split at h
      · cases hn : pnum 0 0 m with
        | none => rw [hn] at h; cases h
        | some p => have := pnum_len m 0 0 (n := p.1) (r := p.2) hn; rw [hn] at h; simp only [Prod.mk.injEq, Option.some.injEq] at h; rw [← h.2]; simp; omega
      · split at h
        · cases hn : pnum 0 0 m with
          | none => rw [hn] at h; cases h
          | some p =>
            have := pnum_len m 0 0 (n := p.1) (r := p.2) hn; rw [hn] at h; dsimp only at h
            split at h
            · simp only [Prod.mk.injEq, Option.some.injEq] at h; rw [← h.2]; simp; omega
            · cases h
        · split at h
          · unfold rlist at h
            cases hn : pnum 0 0 m with
            | none => rw [hn] at h; cases h
            | some p =>
              have h1 := pnum_len m 0 0 (n := p.1) (r := p.2) hn; rw [hn] at h; dsimp only at h
              split at h
              · cases hc2 : rvals (rval f) p.1 p.2 with
                | mk l' o' =>
                  rw [hc2] at h
                  simp only [Prod.mk.injEq] at h
                  rw [h.2] at hc2
                  have h2 := rvals_len (fun b r v h => ih h) _ hc2
                  simp; omega
              · cases h
          · cases h
def VSpec (f : Nat) : Prop := (∀ (b r : List UInt8) (v : Val), b.length ≤ 1000000 → rval f b = (v, some r) → GSpec Try.prog 34 2 ⟨[(0, .loc 100 0 0), (1, .int (16 - (f : Int)))], [(100, some (.box [.pure (encB b)]))], [100]⟩ [100] 1
    ⟨[(0, .pure (.agg (encV v)))], [(100, some (.box [.pure (encB r)]))], [100]⟩) ∧
  (∀ (b : List UInt8) (v : Val), b.length ≤ 1000000 → rval f b = (v, none) → XSpec Try.prog 34 2 ⟨[(0, .loc 100 0 0), (1, .int (16 - (f : Int)))], [(100, some (.box [.pure (encB b)]))], [100]⟩ brk)
theorem value_ok (f : Nat) (hf : f ≤ 16) (ih : ∀ f', f = f' + 1 → VSpec f') (b r : List UInt8) (v : Val) (hb : b.length ≤ 1000000) (h : rval f b = (v, some r)) : GSpec Try.prog 34 2 ⟨[(0, .loc 100 0 0), (1, .int (16 - (f : Int)))], [(100, some (.box [.pure (encB b)]))], [100]⟩ [100] 1
    ⟨[(0, .pure (.agg (encV v)))], [(100, some (.box [.pure (encB r)]))], [100]⟩ := by
  rw [rval_eq] at h
  cases b with
  | nil => unfold rone at h; cases h
  | cons c m =>
    have qt := take_spec (c :: m) 1 hb (by simp)
    rw [one_take, show (c :: m).drop 1 = m from rfl] at qt
    simp only [List.length_cons] at hb
    unfold rone at h
    refine GSpec.of_vc (fun Γ => more5 false Γ.P Γ.fx) (fun Γ => more5_ok) Try.func34 rfl Try.call34 (by decide) ?_
    rintro ⟨P, N, w0, X, β0, fx, y, hy, pk, df⟩ rfl rfl rfl hoff rfl; change y.on = false at hoff
    repeat' ((try conv => whnf); first | refine k1 (fun hb => ?_) fun hb => ?_ | refine k2 (fun hb => ?_) fun hb => ?_ | (first | refine k3 (fun hb => ?_) fun hb => ?_ | refine k4 (fun hb => ?_) fun hb => ?_) <;> (try rw [List.length_map] at hb) <;> (try (exfalso; omega; done)) | refine k5 (fun hb => ?_) fun hb => ?_ | refine k6 (fun hb => ?_) fun hb => ?_ | refine Both.intro ?_ ?_ | refine And.intro rfl ?_ | refine s1 ?_ | refine s2 ?_ | refine s3 ?_ | refine s4 nm ?_ | refine s5 nm nm ?_ | refine s6 nm nm ?_ | refine s7 ?_ | refine And.intro (by assumption) ?_ | refine s8 nm ?_ | refine s9 nm nm ?_ | refine sa nm ?_ | refine ⟨_, _, getMapN nm, rfl, ?_⟩ | refine .inl ⟨_, getMapN nm, rfl, rfl, ?_⟩ | refine .inl ⟨rfl, rfl, bd, rfl, rfl, ?_⟩ | refine ⟨_, singles_flat _ _, ?_⟩ | refine ⟨_, singles_map _ _, ?_⟩ | refine And.intro (onesB_flat _ _ fun _ => rfl) ?_ | refine And.intro (onesB_map _ _ fun _ => rfl) ?_ | refine .inr ⟨rfl, rfl, rfl, ?_⟩ | refine ⟨⟨⟨onesB_flat _ _ fun _ => rfl, fl⟩, trivial⟩, ?_⟩ | refine And.intro bd ?_ | refine ⟨_, set_map _ _ _, ?_⟩ | refine ⟨_, set_rfl _ _ _, ?_⟩ | refine ⟨_, singles_rfl _, ?_⟩ | fail)
    refine .inr ⟨[(100, 100)], [.loc 100 0 0, .pure (.val (.int .u64 (1 : Nat)))], [(100, some (.box [.pure (encB (c :: m))]))], [100], [100], 1, _, qt, ⟨Or.inl rfl, Or.inl rfl, trivial⟩, ⟨rfl, trivial⟩, ?_⟩
    repeat' ((try conv => whnf); first | refine k1 (fun hb => ?_) fun hb => ?_ | refine k2 (fun hb => ?_) fun hb => ?_ | (first | refine k3 (fun hb => ?_) fun hb => ?_ | refine k4 (fun hb => ?_) fun hb => ?_) <;> (try rw [List.length_map] at hb) <;> (try (exfalso; omega; done)) | refine k5 (fun hb => ?_) fun hb => ?_ | refine k6 (fun hb => ?_) fun hb => ?_ | refine Both.intro ?_ ?_ | refine And.intro rfl ?_ | refine s1 ?_ | refine s2 ?_ | refine s3 ?_ | refine s4 nm ?_ | refine s5 nm nm ?_ | refine s6 nm nm ?_ | refine s7 ?_ | refine And.intro (by assumption) ?_ | refine s8 nm ?_ | refine s9 nm nm ?_ | refine sa nm ?_ | refine ⟨_, _, getMapN nm, rfl, ?_⟩ | refine .inl ⟨_, getMapN nm, rfl, rfl, ?_⟩ | refine .inl ⟨rfl, rfl, bd, rfl, rfl, ?_⟩ | refine ⟨_, singles_flat _ _, ?_⟩ | refine ⟨_, singles_map _ _, ?_⟩ | refine And.intro (onesB_flat _ _ fun _ => rfl) ?_ | refine And.intro (onesB_map _ _ fun _ => rfl) ?_ | refine .inr ⟨rfl, rfl, rfl, ?_⟩ | refine ⟨⟨⟨onesB_flat _ _ fun _ => rfl, fl⟩, trivial⟩, ?_⟩ | refine And.intro bd ?_ | refine ⟨_, set_map _ _ _, ?_⟩ | refine ⟨_, set_rfl _ _ _, ?_⟩ | refine ⟨_, singles_rfl _, ?_⟩ | fail)
    all_goals simp only [List.getElem_cons_zero] at *
    · rw [if_pos (by omega)] at h
      cases hnum : pnum 0 0 m with
      | none => rw [hnum] at h; cases h
      | some p =>
        obtain ⟨u, r1⟩ := p
        have hu := pnum_lt m 0 0 (by omega) (by decide) hnum
        rw [hnum] at h
        simp only [Prod.mk.injEq, Option.some.injEq] at h
        obtain ⟨hv, hr⟩ := h
        rw [← hv, ← hr]
        refine .inr ⟨[(100, 100)], [.loc 100 0 0], [(100, some (.box [.pure (encB m)]))], [100], [100], 1, _, number_spec m (by omega) u r1 hnum, ⟨Or.inl rfl, trivial⟩, ⟨rfl, trivial⟩, ?_⟩
        repeat' ((try conv => whnf); first | refine k1 (fun hb => ?_) fun hb => ?_ | refine k2 (fun hb => ?_) fun hb => ?_ | (first | refine k3 (fun hb => ?_) fun hb => ?_ | refine k4 (fun hb => ?_) fun hb => ?_) <;> (try rw [List.length_map] at hb) <;> (try (exfalso; omega; done)) | refine k5 (fun hb => ?_) fun hb => ?_ | refine k6 (fun hb => ?_) fun hb => ?_ | refine Both.intro ?_ ?_ | refine And.intro rfl ?_ | refine s1 ?_ | refine s2 ?_ | refine s3 ?_ | refine s4 nm ?_ | refine s5 nm nm ?_ | refine s6 nm nm ?_ | refine s7 ?_ | refine And.intro (by assumption) ?_ | refine s8 nm ?_ | refine s9 nm nm ?_ | refine sa nm ?_ | refine ⟨_, _, getMapN nm, rfl, ?_⟩ | refine .inl ⟨_, getMapN nm, rfl, rfl, ?_⟩ | refine .inl ⟨rfl, rfl, bd, rfl, rfl, ?_⟩ | refine ⟨_, singles_flat _ _, ?_⟩ | refine ⟨_, singles_map _ _, ?_⟩ | refine And.intro (onesB_flat _ _ fun _ => rfl) ?_ | refine And.intro (onesB_map _ _ fun _ => rfl) ?_ | refine .inr ⟨rfl, rfl, rfl, ?_⟩ | refine ⟨⟨⟨onesB_flat _ _ fun _ => rfl, fl⟩, trivial⟩, ?_⟩ | refine And.intro bd ?_ | refine ⟨_, set_map _ _ _, ?_⟩ | refine ⟨_, set_rfl _ _ _, ?_⟩ | refine ⟨_, singles_rfl _, ?_⟩ | fail)
        refine .inl ⟨_, signed_spec u hu, ?_⟩
        repeat' ((try conv => whnf); first | refine k1 (fun hb => ?_) fun hb => ?_ | refine k2 (fun hb => ?_) fun hb => ?_ | (first | refine k3 (fun hb => ?_) fun hb => ?_ | refine k4 (fun hb => ?_) fun hb => ?_) <;> (try rw [List.length_map] at hb) <;> (try (exfalso; omega; done)) | refine k5 (fun hb => ?_) fun hb => ?_ | refine k6 (fun hb => ?_) fun hb => ?_ | refine Both.intro ?_ ?_ | refine And.intro rfl ?_ | refine s1 ?_ | refine s2 ?_ | refine s3 ?_ | refine s4 nm ?_ | refine s5 nm nm ?_ | refine s6 nm nm ?_ | refine s7 ?_ | refine And.intro (by assumption) ?_ | refine s8 nm ?_ | refine s9 nm nm ?_ | refine sa nm ?_ | refine ⟨_, _, getMapN nm, rfl, ?_⟩ | refine .inl ⟨_, getMapN nm, rfl, rfl, ?_⟩ | refine .inl ⟨rfl, rfl, bd, rfl, rfl, ?_⟩ | refine ⟨_, singles_flat _ _, ?_⟩ | refine ⟨_, singles_map _ _, ?_⟩ | refine And.intro (onesB_flat _ _ fun _ => rfl) ?_ | refine And.intro (onesB_map _ _ fun _ => rfl) ?_ | refine .inr ⟨rfl, rfl, rfl, ?_⟩ | refine ⟨⟨⟨onesB_flat _ _ fun _ => rfl, fl⟩, trivial⟩, ?_⟩ | refine And.intro bd ?_ | refine ⟨_, set_map _ _ _, ?_⟩ | refine ⟨_, set_rfl _ _ _, ?_⟩ | refine ⟨_, singles_rfl _, ?_⟩ | fail)
        exact Le.of ⟨end_val (by show _ = (1 : Int); omega) rfl rfl (PSub.nil 4), trivial⟩ (by (repeat' (first | exact trivial | exact rfl | refine And.intro ?_ ?_ | refine Exists.intro _ (And.intro rfl ?_) | exact Or.inl rfl | exact l1 bd | exact SubA.lsl ls | exact SubA.sl sc | exact SubA.bool bo | exact l6 rfl | exact rowEq rs | fail))) rfl rfl rfl
    · rw [if_neg (by omega), if_pos (by omega)] at h
      cases hnum : pnum 0 0 m with
      | none => rw [hnum] at h; cases h
      | some p =>
        obtain ⟨u, r1⟩ := p
        have hu := pnum_lt m 0 0 (by omega) (by decide) hnum
        have hr1 := pnum_len m 0 0 hnum
        rw [hnum] at h
        dsimp only at h
        split at h
        case isFalse => cases h
        rename_i hle
        simp only [Prod.mk.injEq, Option.some.injEq] at h
        obtain ⟨hv, hr⟩ := h
        rw [← hv, ← hr]
        refine .inr ⟨[(100, 100)], [.loc 100 0 0], [(100, some (.box [.pure (encB m)]))], [100], [100], 1, _, number_spec m (by omega) u r1 hnum, ⟨Or.inl rfl, trivial⟩, ⟨rfl, trivial⟩, ?_⟩
        repeat' ((try conv => whnf); first | refine k1 (fun hb => ?_) fun hb => ?_ | refine k2 (fun hb => ?_) fun hb => ?_ | (first | refine k3 (fun hb => ?_) fun hb => ?_ | refine k4 (fun hb => ?_) fun hb => ?_) <;> (try rw [List.length_map] at hb) <;> (try (exfalso; omega; done)) | refine k5 (fun hb => ?_) fun hb => ?_ | refine k6 (fun hb => ?_) fun hb => ?_ | refine Both.intro ?_ ?_ | refine And.intro rfl ?_ | refine s1 ?_ | refine s2 ?_ | refine s3 ?_ | refine s4 nm ?_ | refine s5 nm nm ?_ | refine s6 nm nm ?_ | refine s7 ?_ | refine And.intro (by assumption) ?_ | refine s8 nm ?_ | refine s9 nm nm ?_ | refine sa nm ?_ | refine ⟨_, _, getMapN nm, rfl, ?_⟩ | refine .inl ⟨_, getMapN nm, rfl, rfl, ?_⟩ | refine .inl ⟨rfl, rfl, bd, rfl, rfl, ?_⟩ | refine ⟨_, singles_flat _ _, ?_⟩ | refine ⟨_, singles_map _ _, ?_⟩ | refine And.intro (onesB_flat _ _ fun _ => rfl) ?_ | refine And.intro (onesB_map _ _ fun _ => rfl) ?_ | refine .inr ⟨rfl, rfl, rfl, ?_⟩ | refine ⟨⟨⟨onesB_flat _ _ fun _ => rfl, fl⟩, trivial⟩, ?_⟩ | refine And.intro bd ?_ | refine ⟨_, set_map _ _ _, ?_⟩ | refine ⟨_, set_rfl _ _ _, ?_⟩ | refine ⟨_, singles_rfl _, ?_⟩ | fail)
        refine .inr ⟨[(100, 100)], [.loc 100 0 0, .pure (.val (.int .u64 u))], [(100, some (.box [.pure (encB r1)]))], [100], [100], 1, _, take_spec r1 u (by omega) hle, ⟨Or.inl rfl, Or.inl rfl, trivial⟩, ⟨rfl, trivial⟩, ?_⟩
        repeat' ((try conv => whnf); first | refine k1 (fun hb => ?_) fun hb => ?_ | refine k2 (fun hb => ?_) fun hb => ?_ | (first | refine k3 (fun hb => ?_) fun hb => ?_ | refine k4 (fun hb => ?_) fun hb => ?_) <;> (try rw [List.length_map] at hb) <;> (try (exfalso; omega; done)) | refine k5 (fun hb => ?_) fun hb => ?_ | refine k6 (fun hb => ?_) fun hb => ?_ | refine Both.intro ?_ ?_ | refine And.intro rfl ?_ | refine s1 ?_ | refine s2 ?_ | refine s3 ?_ | refine s4 nm ?_ | refine s5 nm nm ?_ | refine s6 nm nm ?_ | refine s7 ?_ | refine And.intro (by assumption) ?_ | refine s8 nm ?_ | refine s9 nm nm ?_ | refine sa nm ?_ | refine ⟨_, _, getMapN nm, rfl, ?_⟩ | refine .inl ⟨_, getMapN nm, rfl, rfl, ?_⟩ | refine .inl ⟨rfl, rfl, bd, rfl, rfl, ?_⟩ | refine ⟨_, singles_flat _ _, ?_⟩ | refine ⟨_, singles_map _ _, ?_⟩ | refine And.intro (onesB_flat _ _ fun _ => rfl) ?_ | refine And.intro (onesB_map _ _ fun _ => rfl) ?_ | refine .inr ⟨rfl, rfl, rfl, ?_⟩ | refine ⟨⟨⟨onesB_flat _ _ fun _ => rfl, fl⟩, trivial⟩, ?_⟩ | refine And.intro bd ?_ | refine ⟨_, set_map _ _ _, ?_⟩ | refine ⟨_, set_rfl _ _ _, ?_⟩ | refine ⟨_, singles_rfl _, ?_⟩ | fail)
        exact Le.of ⟨end_val (by show _ = (2 : Int); omega) rfl rfl (PSub.nil 4), trivial⟩ (by (repeat' (first | exact trivial | exact rfl | refine And.intro ?_ ?_ | refine Exists.intro _ (And.intro rfl ?_) | exact Or.inl rfl | exact l1 bd | exact SubA.lsl ls | exact SubA.sl sc | exact SubA.bool bo | exact l6 rfl | exact rowEq rs | fail))) rfl rfl rfl
    · rw [if_neg (by omega), if_neg (by omega), if_pos (by omega)] at h
      unfold rlist at h
      cases hnum : pnum 0 0 m with
      | none => rw [hnum] at h; cases h
      | some p =>
        obtain ⟨u, r1⟩ := p
        have hu := pnum_lt m 0 0 (by omega) (by decide) hnum
        have hr1 := pnum_len m 0 0 hnum
        rw [hnum] at h
        cases f with
        | zero => unfold pf at h; cases h
        | succ f =>
          obtain ⟨ih1, ih2⟩ := ih f rfl
          unfold pf at h
          dsimp only at h
          split at h
          case isFalse => cases h
          rename_i hle
          simp only [Prod.mk.injEq] at h
          obtain ⟨hv, hr⟩ := h
          rw [← hv]
          refine .inr ⟨[(100, 100)], [.loc 100 0 0], [(100, some (.box [.pure (encB m)]))], [100], [100], 1, _, number_spec m (by omega) u r1 hnum, ⟨Or.inl rfl, trivial⟩, ⟨rfl, trivial⟩, ?_⟩
          repeat' ((try conv => whnf); first | refine k1 (fun hb => ?_) fun hb => ?_ | refine k2 (fun hb => ?_) fun hb => ?_ | (first | refine k3 (fun hb => ?_) fun hb => ?_ | refine k4 (fun hb => ?_) fun hb => ?_) <;> (try rw [List.length_map] at hb) <;> (try (exfalso; omega; done)) | refine k5 (fun hb => ?_) fun hb => ?_ | refine k6 (fun hb => ?_) fun hb => ?_ | refine Both.intro ?_ ?_ | refine And.intro rfl ?_ | refine s1 ?_ | refine s2 ?_ | refine s3 ?_ | refine s4 nm ?_ | refine s5 nm nm ?_ | refine s6 nm nm ?_ | refine s7 ?_ | refine And.intro (by assumption) ?_ | refine s8 nm ?_ | refine s9 nm nm ?_ | refine sa nm ?_ | refine ⟨_, _, getMapN nm, rfl, ?_⟩ | refine .inl ⟨_, getMapN nm, rfl, rfl, ?_⟩ | refine .inl ⟨rfl, rfl, bd, rfl, rfl, ?_⟩ | refine ⟨_, singles_flat _ _, ?_⟩ | refine ⟨_, singles_map _ _, ?_⟩ | refine And.intro (onesB_flat _ _ fun _ => rfl) ?_ | refine And.intro (onesB_map _ _ fun _ => rfl) ?_ | refine .inr ⟨rfl, rfl, rfl, ?_⟩ | refine ⟨⟨⟨onesB_flat _ _ fun _ => rfl, fl⟩, trivial⟩, ?_⟩ | refine And.intro bd ?_ | refine ⟨_, set_map _ _ _, ?_⟩ | refine ⟨_, set_rfl _ _ _, ?_⟩ | refine ⟨_, singles_rfl _, ?_⟩ | fail)
          refine ⟨((r1.length : Nat) : Int), by rw [wrap_u64]; simp <;> omega, ?_⟩
          repeat' ((try conv => whnf); first | refine k1 (fun hb => ?_) fun hb => ?_ | refine k2 (fun hb => ?_) fun hb => ?_ | (first | refine k3 (fun hb => ?_) fun hb => ?_ | refine k4 (fun hb => ?_) fun hb => ?_) <;> (try rw [List.length_map] at hb) <;> (try (exfalso; omega; done)) | refine k5 (fun hb => ?_) fun hb => ?_ | refine k6 (fun hb => ?_) fun hb => ?_ | refine Both.intro ?_ ?_ | refine And.intro rfl ?_ | refine s1 ?_ | refine s2 ?_ | refine s3 ?_ | refine s4 nm ?_ | refine s5 nm nm ?_ | refine s6 nm nm ?_ | refine s7 ?_ | refine And.intro (by assumption) ?_ | refine s8 nm ?_ | refine s9 nm nm ?_ | refine sa nm ?_ | refine ⟨_, _, getMapN nm, rfl, ?_⟩ | refine .inl ⟨_, getMapN nm, rfl, rfl, ?_⟩ | refine .inl ⟨rfl, rfl, bd, rfl, rfl, ?_⟩ | refine ⟨_, singles_flat _ _, ?_⟩ | refine ⟨_, singles_map _ _, ?_⟩ | refine And.intro (onesB_flat _ _ fun _ => rfl) ?_ | refine And.intro (onesB_map _ _ fun _ => rfl) ?_ | refine .inr ⟨rfl, rfl, rfl, ?_⟩ | refine ⟨⟨⟨onesB_flat _ _ fun _ => rfl, fl⟩, trivial⟩, ?_⟩ | refine And.intro bd ?_ | refine ⟨_, set_map _ _ _, ?_⟩ | refine ⟨_, set_rfl _ _ _, ?_⟩ | refine ⟨_, singles_rfl _, ?_⟩ | fail)
          refine Wp.loop (fun x : Nat × List Val × List UInt8 => ⟨[(0, .loc 100 0 0), (1, .int (16 - ((f + 1 : Nat) : Int))), (4, .loc 4 0 0), (48, .pure (.val (.int .u64 u))), (49, .pure (.val (.int .u64 x.1)))],
              [(100, some (.box [.pure (encB x.2.2)])), (4, some (.box [.int 3, .int 0, .pure (.val (.string ⟨#[]⟩)), .lsl 300 0 x.2.1.length])), (300, some (.row 4 (x.2.1.map encV)))], [100, 4, 300]⟩)
            (fun x => x.1 ≤ u ∧ x.2.1.length = x.1 ∧ x.2.2.length ≤ r1.length ∧ ∃ l, rvals (rval f) (u - x.1) x.2.2 = (l, some r) ∧ (rvals (rval f) u r1).1 = x.2.1 ++ l) (fun x => u - x.1) (0, [], r1)
            (Le.trans (Le.virt (k := 300) (sz := 4) rfl rfl (by omega)) (Le.of ?_ ?_ rfl rfl rfl)) ⟨by simp, rfl, by simp, (rvals (rval f) u r1).1, by simp only [Nat.sub_zero]; exact Prod.ext rfl hr, by simp⟩ ?_
          · (repeat' (first | exact trivial | exact rfl | refine And.intro ?_ ?_ | refine Exists.intro _ (And.intro rfl ?_) | exact Or.inl rfl | exact l1 bd | exact SubA.lsl ls | exact SubA.sl sc | exact SubA.bool bo | exact l6 rfl | exact rowEq rs | fail))
          · (repeat' (first | exact trivial | exact rfl | refine And.intro ?_ ?_ | refine Exists.intro _ (And.intro rfl ?_) | exact Or.inl rfl | exact l1 bd | exact SubA.lsl ls | exact SubA.sl sc | exact SubA.bool bo | exact l6 rfl | exact rowEq rs | fail))
          rintro ⟨k, l, q⟩ ⟨hk, hlk, hql, lr, hrv, hall⟩
          dsimp only at hk hlk hql hrv hall ⊢
          by_cases hk2 : k < u
          · rw [show u - k = (u - (k + 1)) + 1 by omega, rvals_succ] at hrv
            cases hc : rval f q with
            | mk x o => cases o with
              | none => rw [hc] at hrv; cases hrv
              | some q' =>
                have hqq := rval_len f hc
                rw [hc] at hrv
                dsimp only at hrv
                have q1 := ih1 q q' x (by omega) hc
                first | refine code_sound (more := more5 false _ _) more5_ok FOK.wide _ ?_ | refine code_sound (more := more5 false _ _) more5_ok (FOK.inRound _) _ ?_
                repeat' ((try conv => whnf); first | refine k1 (fun hb => ?_) fun hb => ?_ | refine k2 (fun hb => ?_) fun hb => ?_ | (first | refine k3 (fun hb => ?_) fun hb => ?_ | refine k4 (fun hb => ?_) fun hb => ?_) <;> (try rw [List.length_map] at hb) <;> (try (exfalso; omega; done)) | refine k5 (fun hb => ?_) fun hb => ?_ | refine k6 (fun hb => ?_) fun hb => ?_ | refine Both.intro ?_ ?_ | refine And.intro rfl ?_ | refine s1 ?_ | refine s2 ?_ | refine s3 ?_ | refine s4 nm ?_ | refine s5 nm nm ?_ | refine s6 nm nm ?_ | refine s7 ?_ | refine And.intro (by assumption) ?_ | refine s8 nm ?_ | refine s9 nm nm ?_ | refine sa nm ?_ | refine ⟨_, _, getMapN nm, rfl, ?_⟩ | refine .inl ⟨_, getMapN nm, rfl, rfl, ?_⟩ | refine .inl ⟨rfl, rfl, bd, rfl, rfl, ?_⟩ | refine ⟨_, singles_flat _ _, ?_⟩ | refine ⟨_, singles_map _ _, ?_⟩ | refine And.intro (onesB_flat _ _ fun _ => rfl) ?_ | refine And.intro (onesB_map _ _ fun _ => rfl) ?_ | refine .inr ⟨rfl, rfl, rfl, ?_⟩ | refine ⟨⟨⟨onesB_flat _ _ fun _ => rfl, fl⟩, trivial⟩, ?_⟩ | refine And.intro bd ?_ | refine ⟨_, set_map _ _ _, ?_⟩ | refine ⟨_, set_rfl _ _ _, ?_⟩ | refine ⟨_, singles_rfl _, ?_⟩ | fail)
                first | refine Wp.drawG (more := more5 true _ _) more5_det more5_ok FOK.wide rfl (by decide +kernel) (by conv => lhs; reduce) ?_ | refine Wp.drawG (more := more5 true _ _) more5_det more5_ok (FOK.inRound _) rfl (by decide +kernel) (by conv => lhs; reduce) ?_
                repeat' ((try conv => whnf); first | refine k1 (fun hb => ?_) fun hb => ?_ | refine k2 (fun hb => ?_) fun hb => ?_ | (first | refine k3 (fun hb => ?_) fun hb => ?_ | refine k4 (fun hb => ?_) fun hb => ?_) <;> (try rw [List.length_map] at hb) <;> (try (exfalso; omega; done)) | refine k5 (fun hb => ?_) fun hb => ?_ | refine k6 (fun hb => ?_) fun hb => ?_ | refine Both.intro ?_ ?_ | refine And.intro rfl ?_ | refine s1 ?_ | refine s2 ?_ | refine s3 ?_ | refine s4 nm ?_ | refine s5 nm nm ?_ | refine s6 nm nm ?_ | refine s7 ?_ | refine And.intro (by assumption) ?_ | refine s8 nm ?_ | refine s9 nm nm ?_ | refine sa nm ?_ | refine ⟨_, _, getMapN nm, rfl, ?_⟩ | refine .inl ⟨_, getMapN nm, rfl, rfl, ?_⟩ | refine .inl ⟨rfl, rfl, bd, rfl, rfl, ?_⟩ | refine ⟨_, singles_flat _ _, ?_⟩ | refine ⟨_, singles_map _ _, ?_⟩ | refine And.intro (onesB_flat _ _ fun _ => rfl) ?_ | refine And.intro (onesB_map _ _ fun _ => rfl) ?_ | refine .inr ⟨rfl, rfl, rfl, ?_⟩ | refine ⟨⟨⟨onesB_flat _ _ fun _ => rfl, fl⟩, trivial⟩, ?_⟩ | refine And.intro bd ?_ | refine ⟨_, set_map _ _ _, ?_⟩ | refine ⟨_, set_rfl _ _ _, ?_⟩ | refine ⟨_, singles_rfl _, ?_⟩ | fail)
                refine .inr ⟨[(100, 100)], [.loc 100 0 0, .int (16 - (f : Int))], [(100, some (.box [.pure (encB q)]))], [100], [100], 1, _, q1, ⟨Or.inl rfl, Or.inl (congrArg (fun z => AV.int z) (show (16 : Int) - ((f + 1 : Nat) : Int) + 1 = 16 - (f : Int) by omega)), trivial⟩, ⟨rfl, trivial⟩, ?_⟩
                repeat' ((try conv => whnf); first | refine k1 (fun hb => ?_) fun hb => ?_ | refine k2 (fun hb => ?_) fun hb => ?_ | (first | refine k3 (fun hb => ?_) fun hb => ?_ | refine k4 (fun hb => ?_) fun hb => ?_) <;> (try rw [List.length_map] at hb) <;> (try (exfalso; omega; done)) | refine k5 (fun hb => ?_) fun hb => ?_ | refine k6 (fun hb => ?_) fun hb => ?_ | refine Both.intro ?_ ?_ | refine And.intro rfl ?_ | refine s1 ?_ | refine s2 ?_ | refine s3 ?_ | refine s4 nm ?_ | refine s5 nm nm ?_ | refine s6 nm nm ?_ | refine s7 ?_ | refine And.intro (by assumption) ?_ | refine s8 nm ?_ | refine s9 nm nm ?_ | refine sa nm ?_ | refine ⟨_, _, getMapN nm, rfl, ?_⟩ | refine .inl ⟨_, getMapN nm, rfl, rfl, ?_⟩ | refine .inl ⟨rfl, rfl, bd, rfl, rfl, ?_⟩ | refine ⟨_, singles_flat _ _, ?_⟩ | refine ⟨_, singles_map _ _, ?_⟩ | refine And.intro (onesB_flat _ _ fun _ => rfl) ?_ | refine And.intro (onesB_map _ _ fun _ => rfl) ?_ | refine .inr ⟨rfl, rfl, rfl, ?_⟩ | refine ⟨⟨⟨onesB_flat _ _ fun _ => rfl, fl⟩, trivial⟩, ?_⟩ | refine And.intro bd ?_ | refine ⟨_, set_map _ _ _, ?_⟩ | refine ⟨_, set_rfl _ _ _, ?_⟩ | refine ⟨_, singles_rfl _, ?_⟩ | fail)
                refine ⟨((k + 1 : Nat) : Int), by rw [wrap_u64]; omega, ?_⟩
                repeat' ((try conv => whnf); first | refine k1 (fun hb => ?_) fun hb => ?_ | refine k2 (fun hb => ?_) fun hb => ?_ | (first | refine k3 (fun hb => ?_) fun hb => ?_ | refine k4 (fun hb => ?_) fun hb => ?_) <;> (try rw [List.length_map] at hb) <;> (try (exfalso; omega; done)) | refine k5 (fun hb => ?_) fun hb => ?_ | refine k6 (fun hb => ?_) fun hb => ?_ | refine Both.intro ?_ ?_ | refine And.intro rfl ?_ | refine s1 ?_ | refine s2 ?_ | refine s3 ?_ | refine s4 nm ?_ | refine s5 nm nm ?_ | refine s6 nm nm ?_ | refine s7 ?_ | refine And.intro (by assumption) ?_ | refine s8 nm ?_ | refine s9 nm nm ?_ | refine sa nm ?_ | refine ⟨_, _, getMapN nm, rfl, ?_⟩ | refine .inl ⟨_, getMapN nm, rfl, rfl, ?_⟩ | refine .inl ⟨rfl, rfl, bd, rfl, rfl, ?_⟩ | refine ⟨_, singles_flat _ _, ?_⟩ | refine ⟨_, singles_map _ _, ?_⟩ | refine And.intro (onesB_flat _ _ fun _ => rfl) ?_ | refine And.intro (onesB_map _ _ fun _ => rfl) ?_ | refine .inr ⟨rfl, rfl, rfl, ?_⟩ | refine ⟨⟨⟨onesB_flat _ _ fun _ => rfl, fl⟩, trivial⟩, ?_⟩ | refine And.intro bd ?_ | refine ⟨_, set_map _ _ _, ?_⟩ | refine ⟨_, set_rfl _ _ _, ?_⟩ | refine ⟨_, singles_rfl _, ?_⟩ | fail)
                cases hc2 : rvals (rval f) (u - (k + 1)) q' with
                | mk l' o' =>
                  rw [hc2] at hrv
                  simp only [Prod.mk.injEq] at hrv
                  refine ⟨(k + 1, l ++ [x], q'), Le.map [(300, 58)] ?_ ?_ rfl rfl rfl rfl, ⟨by simp only; omega, by simp; omega, by simp only; omega, l', by rw [← hrv.2]; exact hc2, by rw [hall, ← hrv.1]; simp⟩, by simp only; omega⟩
                  · (repeat' (first | exact trivial | exact rfl | refine And.intro ?_ ?_ | refine Exists.intro _ (And.intro rfl ?_) | exact Or.inl rfl | exact l1 bd | exact SubA.lsl ls | exact SubA.sl sc | exact SubA.bool bo | exact l6 rfl | exact rowEq rs | fail))
                  · (repeat' (first | exact trivial | exact rfl | refine And.intro ?_ ?_ | refine Exists.intro _ (And.intro rfl ?_) | exact Or.inl rfl | exact l1 bd | exact SubA.lsl ls | exact SubA.sl sc | exact SubA.bool bo | exact l6 rfl | exact rowEq rs | fail))
                    all_goals (refine rowEq ?_; rw [List.map_append]; rfl)
          · have ek : k = u := by omega
            subst ek
            rw [Nat.sub_self, rvals_zero] at hrv
            simp only [Prod.mk.injEq, Option.some.injEq] at hrv
            obtain ⟨hlr, hqr⟩ := hrv
            rw [hall, ← hlr, List.append_nil, ← hqr]
            first | refine code_sound (more := more5 false _ _) more5_ok FOK.wide _ ?_ | refine code_sound (more := more5 false _ _) more5_ok (FOK.inRound _) _ ?_
            repeat' ((try conv => whnf); first | refine k1 (fun hb => ?_) fun hb => ?_ | refine k2 (fun hb => ?_) fun hb => ?_ | (first | refine k3 (fun hb => ?_) fun hb => ?_ | refine k4 (fun hb => ?_) fun hb => ?_) <;> (try rw [List.length_map] at hb) <;> (try (exfalso; omega; done)) | refine k5 (fun hb => ?_) fun hb => ?_ | refine k6 (fun hb => ?_) fun hb => ?_ | refine Both.intro ?_ ?_ | refine And.intro rfl ?_ | refine s1 ?_ | refine s2 ?_ | refine s3 ?_ | refine s4 nm ?_ | refine s5 nm nm ?_ | refine s6 nm nm ?_ | refine s7 ?_ | refine And.intro (by assumption) ?_ | refine s8 nm ?_ | refine s9 nm nm ?_ | refine sa nm ?_ | refine ⟨_, _, getMapN nm, rfl, ?_⟩ | refine .inl ⟨_, getMapN nm, rfl, rfl, ?_⟩ | refine .inl ⟨rfl, rfl, bd, rfl, rfl, ?_⟩ | refine ⟨_, singles_flat _ _, ?_⟩ | refine ⟨_, singles_map _ _, ?_⟩ | refine And.intro (onesB_flat _ _ fun _ => rfl) ?_ | refine And.intro (onesB_map _ _ fun _ => rfl) ?_ | refine .inr ⟨rfl, rfl, rfl, ?_⟩ | refine ⟨⟨⟨onesB_flat _ _ fun _ => rfl, fl⟩, trivial⟩, ?_⟩ | refine And.intro bd ?_ | refine ⟨_, set_map _ _ _, ?_⟩ | refine ⟨_, set_rfl _ _ _, ?_⟩ | refine ⟨_, singles_rfl _, ?_⟩ | fail)
            exact Le.trans (Le.frz 300 rfl) (Le.of ⟨end_val rfl rfl rfl (sub_sl (List.take_of_length_le (by simp))), trivial⟩ (by (repeat' (first | exact trivial | exact rfl | refine And.intro ?_ ?_ | refine Exists.intro _ (And.intro rfl ?_) | exact Or.inl rfl | exact l1 bd | exact SubA.lsl ls | exact SubA.sl sc | exact SubA.bool bo | exact l6 rfl | exact rowEq rs | fail))) rfl rfl rfl)
    · rw [if_neg (by omega), if_neg (by omega), if_neg (by omega)] at h
      cases h
theorem value_no (f : Nat) (hf : f ≤ 16) (ih : ∀ f', f = f' + 1 → VSpec f') (b : List UInt8) (v : Val) (hb : b.length ≤ 1000000) (h : rval f b = (v, none)) : XSpec Try.prog 34 2 ⟨[(0, .loc 100 0 0), (1, .int (16 - (f : Int)))], [(100, some (.box [.pure (encB b)]))], [100]⟩ brk := by
  rw [rval_eq] at h
  cases b with
  | nil =>
    have qt := take_no [] 1 (by simp) (by simp)
    refine XSpec.of_vc (fun Γ => more5 false Γ.P Γ.fx) (fun Γ => more5_ok) Try.func34 rfl Try.call34 (by decide) ?_
    rintro ⟨P, N, w0, X, β0, fx, y, hy, pk, df⟩ rfl rfl rfl hoff rfl; change y.on = false at hoff
    repeat' ((try conv => whnf); first | refine k1 (fun hb => ?_) fun hb => ?_ | refine k2 (fun hb => ?_) fun hb => ?_ | (first | refine k3 (fun hb => ?_) fun hb => ?_ | refine k4 (fun hb => ?_) fun hb => ?_) <;> (try rw [List.length_map] at hb) <;> (try (exfalso; omega; done)) | refine k5 (fun hb => ?_) fun hb => ?_ | refine k6 (fun hb => ?_) fun hb => ?_ | refine Both.intro ?_ ?_ | refine And.intro rfl ?_ | refine s1 ?_ | refine s2 ?_ | refine s3 ?_ | refine s4 nm ?_ | refine s5 nm nm ?_ | refine s6 nm nm ?_ | refine s7 ?_ | refine And.intro (by assumption) ?_ | refine s8 nm ?_ | refine s9 nm nm ?_ | refine sa nm ?_ | refine ⟨_, _, getMapN nm, rfl, ?_⟩ | refine .inl ⟨_, getMapN nm, rfl, rfl, ?_⟩ | refine .inl ⟨rfl, rfl, bd, rfl, rfl, ?_⟩ | refine ⟨_, singles_flat _ _, ?_⟩ | refine ⟨_, singles_map _ _, ?_⟩ | refine And.intro (onesB_flat _ _ fun _ => rfl) ?_ | refine And.intro (onesB_map _ _ fun _ => rfl) ?_ | refine .inr ⟨rfl, rfl, rfl, ?_⟩ | refine ⟨⟨⟨onesB_flat _ _ fun _ => rfl, fl⟩, trivial⟩, ?_⟩ | refine And.intro bd ?_ | refine ⟨_, set_map _ _ _, ?_⟩ | refine ⟨_, set_rfl _ _ _, ?_⟩ | refine ⟨_, singles_rfl _, ?_⟩ | fail)
    exact .inl ⟨[(100, 100)], [.loc 100 0 0, .pure (.val (.int .u64 (1 : Nat)))], [(100, some (.box [.pure (encB [])]))], [100], qt, ⟨Or.inl rfl, Or.inl rfl, trivial⟩, ⟨rfl, trivial⟩, trivial⟩
  | cons c m =>
    have qt := take_spec (c :: m) 1 hb (by simp)
    rw [one_take, show (c :: m).drop 1 = m from rfl] at qt
    simp only [List.length_cons] at hb
    unfold rone at h
    refine XSpec.of_vc (fun Γ => more5 false Γ.P Γ.fx) (fun Γ => more5_ok) Try.func34 rfl Try.call34 (by decide) ?_
    rintro ⟨P, N, w0, X, β0, fx, y, hy, pk, df⟩ rfl rfl rfl hoff rfl; change y.on = false at hoff
    repeat' ((try conv => whnf); first | refine k1 (fun hb => ?_) fun hb => ?_ | refine k2 (fun hb => ?_) fun hb => ?_ | (first | refine k3 (fun hb => ?_) fun hb => ?_ | refine k4 (fun hb => ?_) fun hb => ?_) <;> (try rw [List.length_map] at hb) <;> (try (exfalso; omega; done)) | refine k5 (fun hb => ?_) fun hb => ?_ | refine k6 (fun hb => ?_) fun hb => ?_ | refine Both.intro ?_ ?_ | refine And.intro rfl ?_ | refine s1 ?_ | refine s2 ?_ | refine s3 ?_ | refine s4 nm ?_ | refine s5 nm nm ?_ | refine s6 nm nm ?_ | refine s7 ?_ | refine And.intro (by assumption) ?_ | refine s8 nm ?_ | refine s9 nm nm ?_ | refine sa nm ?_ | refine ⟨_, _, getMapN nm, rfl, ?_⟩ | refine .inl ⟨_, getMapN nm, rfl, rfl, ?_⟩ | refine .inl ⟨rfl, rfl, bd, rfl, rfl, ?_⟩ | refine ⟨_, singles_flat _ _, ?_⟩ | refine ⟨_, singles_map _ _, ?_⟩ | refine And.intro (onesB_flat _ _ fun _ => rfl) ?_ | refine And.intro (onesB_map _ _ fun _ => rfl) ?_ | refine .inr ⟨rfl, rfl, rfl, ?_⟩ | refine ⟨⟨⟨onesB_flat _ _ fun _ => rfl, fl⟩, trivial⟩, ?_⟩ | refine And.intro bd ?_ | refine ⟨_, set_map _ _ _, ?_⟩ | refine ⟨_, set_rfl _ _ _, ?_⟩ | refine ⟨_, singles_rfl _, ?_⟩ | fail)
    refine .inr <| .inr ⟨[(100, 100)], [.loc 100 0 0, .pure (.val (.int .u64 (1 : Nat)))], [(100, some (.box [.pure (encB (c :: m))]))], [100], [100], 1, _, qt, ⟨Or.inl rfl, Or.inl rfl, trivial⟩, ⟨rfl, trivial⟩, ?_⟩
    repeat' ((try conv => whnf); first | refine k1 (fun hb => ?_) fun hb => ?_ | refine k2 (fun hb => ?_) fun hb => ?_ | (first | refine k3 (fun hb => ?_) fun hb => ?_ | refine k4 (fun hb => ?_) fun hb => ?_) <;> (try rw [List.length_map] at hb) <;> (try (exfalso; omega; done)) | refine k5 (fun hb => ?_) fun hb => ?_ | refine k6 (fun hb => ?_) fun hb => ?_ | refine Both.intro ?_ ?_ | refine And.intro rfl ?_ | refine s1 ?_ | refine s2 ?_ | refine s3 ?_ | refine s4 nm ?_ | refine s5 nm nm ?_ | refine s6 nm nm ?_ | refine s7 ?_ | refine And.intro (by assumption) ?_ | refine s8 nm ?_ | refine s9 nm nm ?_ | refine sa nm ?_ | refine ⟨_, _, getMapN nm, rfl, ?_⟩ | refine .inl ⟨_, getMapN nm, rfl, rfl, ?_⟩ | refine .inl ⟨rfl, rfl, bd, rfl, rfl, ?_⟩ | refine ⟨_, singles_flat _ _, ?_⟩ | refine ⟨_, singles_map _ _, ?_⟩ | refine And.intro (onesB_flat _ _ fun _ => rfl) ?_ | refine And.intro (onesB_map _ _ fun _ => rfl) ?_ | refine .inr ⟨rfl, rfl, rfl, ?_⟩ | refine ⟨⟨⟨onesB_flat _ _ fun _ => rfl, fl⟩, trivial⟩, ?_⟩ | refine And.intro bd ?_ | refine ⟨_, set_map _ _ _, ?_⟩ | refine ⟨_, set_rfl _ _ _, ?_⟩ | refine ⟨_, singles_rfl _, ?_⟩ | fail)
    all_goals simp only [List.getElem_cons_zero] at *
    · rw [if_pos (by omega)] at h
      cases hnum : pnum 0 0 m with
      | some p => rw [hnum] at h; cases h
      | none =>
        refine .inl ⟨[(100, 100)], [.loc 100 0 0], [(100, some (.box [.pure (encB m)]))], [100], number_no m (by omega) hnum, ⟨Or.inl rfl, trivial⟩, ⟨rfl, trivial⟩, trivial⟩
    · rw [if_neg (by omega), if_pos (by omega)] at h
      cases hnum : pnum 0 0 m with
      | none =>
        refine .inl ⟨[(100, 100)], [.loc 100 0 0], [(100, some (.box [.pure (encB m)]))], [100], number_no m (by omega) hnum, ⟨Or.inl rfl, trivial⟩, ⟨rfl, trivial⟩, trivial⟩
      | some p =>
        obtain ⟨u, r1⟩ := p
        have hu := pnum_lt m 0 0 (by omega) (by decide) hnum
        have hr1 := pnum_len m 0 0 hnum
        rw [hnum] at h
        dsimp only at h
        split at h
        case isTrue => cases h
        rename_i hle
        refine .inr <| .inr ⟨[(100, 100)], [.loc 100 0 0], [(100, some (.box [.pure (encB m)]))], [100], [100], 1, _, number_spec m (by omega) u r1 hnum, ⟨Or.inl rfl, trivial⟩, ⟨rfl, trivial⟩, ?_⟩
        repeat' ((try conv => whnf); first | refine k1 (fun hb => ?_) fun hb => ?_ | refine k2 (fun hb => ?_) fun hb => ?_ | (first | refine k3 (fun hb => ?_) fun hb => ?_ | refine k4 (fun hb => ?_) fun hb => ?_) <;> (try rw [List.length_map] at hb) <;> (try (exfalso; omega; done)) | refine k5 (fun hb => ?_) fun hb => ?_ | refine k6 (fun hb => ?_) fun hb => ?_ | refine Both.intro ?_ ?_ | refine And.intro rfl ?_ | refine s1 ?_ | refine s2 ?_ | refine s3 ?_ | refine s4 nm ?_ | refine s5 nm nm ?_ | refine s6 nm nm ?_ | refine s7 ?_ | refine And.intro (by assumption) ?_ | refine s8 nm ?_ | refine s9 nm nm ?_ | refine sa nm ?_ | refine ⟨_, _, getMapN nm, rfl, ?_⟩ | refine .inl ⟨_, getMapN nm, rfl, rfl, ?_⟩ | refine .inl ⟨rfl, rfl, bd, rfl, rfl, ?_⟩ | refine ⟨_, singles_flat _ _, ?_⟩ | refine ⟨_, singles_map _ _, ?_⟩ | refine And.intro (onesB_flat _ _ fun _ => rfl) ?_ | refine And.intro (onesB_map _ _ fun _ => rfl) ?_ | refine .inr ⟨rfl, rfl, rfl, ?_⟩ | refine ⟨⟨⟨onesB_flat _ _ fun _ => rfl, fl⟩, trivial⟩, ?_⟩ | refine And.intro bd ?_ | refine ⟨_, set_map _ _ _, ?_⟩ | refine ⟨_, set_rfl _ _ _, ?_⟩ | refine ⟨_, singles_rfl _, ?_⟩ | fail)
        refine .inl ⟨[(100, 100)], [.loc 100 0 0, .pure (.val (.int .u64 u))], [(100, some (.box [.pure (encB r1)]))], [100], take_no r1 u (by omega) (by omega), ⟨Or.inl rfl, Or.inl rfl, trivial⟩, ⟨rfl, trivial⟩, trivial⟩
    · rw [if_neg (by omega), if_neg (by omega), if_pos (by omega)] at h
      unfold rlist at h
      cases hnum : pnum 0 0 m with
      | none =>
        refine .inl ⟨[(100, 100)], [.loc 100 0 0], [(100, some (.box [.pure (encB m)]))], [100], number_no m (by omega) hnum, ⟨Or.inl rfl, trivial⟩, ⟨rfl, trivial⟩, trivial⟩
      | some p =>
        obtain ⟨u, r1⟩ := p
        have hu := pnum_lt m 0 0 (by omega) (by decide) hnum
        have hr1 := pnum_len m 0 0 hnum
        rw [hnum] at h
        cases f with
        | zero =>
          refine .inr <| .inr ⟨[(100, 100)], [.loc 100 0 0], [(100, some (.box [.pure (encB m)]))], [100], [100], 1, _, number_spec m (by omega) u r1 hnum, ⟨Or.inl rfl, trivial⟩, ⟨rfl, trivial⟩, ?_⟩
          repeat' ((try conv => whnf); first | refine k1 (fun hb => ?_) fun hb => ?_ | refine k2 (fun hb => ?_) fun hb => ?_ | (first | refine k3 (fun hb => ?_) fun hb => ?_ | refine k4 (fun hb => ?_) fun hb => ?_) <;> (try rw [List.length_map] at hb) <;> (try (exfalso; omega; done)) | refine k5 (fun hb => ?_) fun hb => ?_ | refine k6 (fun hb => ?_) fun hb => ?_ | refine Both.intro ?_ ?_ | refine And.intro rfl ?_ | refine s1 ?_ | refine s2 ?_ | refine s3 ?_ | refine s4 nm ?_ | refine s5 nm nm ?_ | refine s6 nm nm ?_ | refine s7 ?_ | refine And.intro (by assumption) ?_ | refine s8 nm ?_ | refine s9 nm nm ?_ | refine sa nm ?_ | refine ⟨_, _, getMapN nm, rfl, ?_⟩ | refine .inl ⟨_, getMapN nm, rfl, rfl, ?_⟩ | refine .inl ⟨rfl, rfl, bd, rfl, rfl, ?_⟩ | refine ⟨_, singles_flat _ _, ?_⟩ | refine ⟨_, singles_map _ _, ?_⟩ | refine And.intro (onesB_flat _ _ fun _ => rfl) ?_ | refine And.intro (onesB_map _ _ fun _ => rfl) ?_ | refine .inr ⟨rfl, rfl, rfl, ?_⟩ | refine ⟨⟨⟨onesB_flat _ _ fun _ => rfl, fl⟩, trivial⟩, ?_⟩ | refine And.intro bd ?_ | refine ⟨_, set_map _ _ _, ?_⟩ | refine ⟨_, set_rfl _ _ _, ?_⟩ | refine ⟨_, singles_rfl _, ?_⟩ | fail)
          all_goals first | trivial | (exfalso; omega)
        | succ f =>
          obtain ⟨ih1, ih2⟩ := ih f rfl
          unfold pf at h
          dsimp only at h
          by_cases hle : u ≤ r1.length
          rotate_left
          · refine .inr <| .inr ⟨[(100, 100)], [.loc 100 0 0], [(100, some (.box [.pure (encB m)]))], [100], [100], 1, _, number_spec m (by omega) u r1 hnum, ⟨Or.inl rfl, trivial⟩, ⟨rfl, trivial⟩, ?_⟩
            repeat' ((try conv => whnf); first | refine k1 (fun hb => ?_) fun hb => ?_ | refine k2 (fun hb => ?_) fun hb => ?_ | (first | refine k3 (fun hb => ?_) fun hb => ?_ | refine k4 (fun hb => ?_) fun hb => ?_) <;> (try rw [List.length_map] at hb) <;> (try (exfalso; omega; done)) | refine k5 (fun hb => ?_) fun hb => ?_ | refine k6 (fun hb => ?_) fun hb => ?_ | refine Both.intro ?_ ?_ | refine And.intro rfl ?_ | refine s1 ?_ | refine s2 ?_ | refine s3 ?_ | refine s4 nm ?_ | refine s5 nm nm ?_ | refine s6 nm nm ?_ | refine s7 ?_ | refine And.intro (by assumption) ?_ | refine s8 nm ?_ | refine s9 nm nm ?_ | refine sa nm ?_ | refine ⟨_, _, getMapN nm, rfl, ?_⟩ | refine .inl ⟨_, getMapN nm, rfl, rfl, ?_⟩ | refine .inl ⟨rfl, rfl, bd, rfl, rfl, ?_⟩ | refine ⟨_, singles_flat _ _, ?_⟩ | refine ⟨_, singles_map _ _, ?_⟩ | refine And.intro (onesB_flat _ _ fun _ => rfl) ?_ | refine And.intro (onesB_map _ _ fun _ => rfl) ?_ | refine .inr ⟨rfl, rfl, rfl, ?_⟩ | refine ⟨⟨⟨onesB_flat _ _ fun _ => rfl, fl⟩, trivial⟩, ?_⟩ | refine And.intro bd ?_ | refine ⟨_, set_map _ _ _, ?_⟩ | refine ⟨_, set_rfl _ _ _, ?_⟩ | refine ⟨_, singles_rfl _, ?_⟩ | fail)
            refine ⟨((r1.length : Nat) : Int), by rw [wrap_u64]; simp <;> omega, ?_⟩
            repeat' ((try conv => whnf); first | refine k1 (fun hb => ?_) fun hb => ?_ | refine k2 (fun hb => ?_) fun hb => ?_ | (first | refine k3 (fun hb => ?_) fun hb => ?_ | refine k4 (fun hb => ?_) fun hb => ?_) <;> (try rw [List.length_map] at hb) <;> (try (exfalso; omega; done)) | refine k5 (fun hb => ?_) fun hb => ?_ | refine k6 (fun hb => ?_) fun hb => ?_ | refine Both.intro ?_ ?_ | refine And.intro rfl ?_ | refine s1 ?_ | refine s2 ?_ | refine s3 ?_ | refine s4 nm ?_ | refine s5 nm nm ?_ | refine s6 nm nm ?_ | refine s7 ?_ | refine And.intro (by assumption) ?_ | refine s8 nm ?_ | refine s9 nm nm ?_ | refine sa nm ?_ | refine ⟨_, _, getMapN nm, rfl, ?_⟩ | refine .inl ⟨_, getMapN nm, rfl, rfl, ?_⟩ | refine .inl ⟨rfl, rfl, bd, rfl, rfl, ?_⟩ | refine ⟨_, singles_flat _ _, ?_⟩ | refine ⟨_, singles_map _ _, ?_⟩ | refine And.intro (onesB_flat _ _ fun _ => rfl) ?_ | refine And.intro (onesB_map _ _ fun _ => rfl) ?_ | refine .inr ⟨rfl, rfl, rfl, ?_⟩ | refine ⟨⟨⟨onesB_flat _ _ fun _ => rfl, fl⟩, trivial⟩, ?_⟩ | refine And.intro bd ?_ | refine ⟨_, set_map _ _ _, ?_⟩ | refine ⟨_, set_rfl _ _ _, ?_⟩ | refine ⟨_, singles_rfl _, ?_⟩ | fail)
            all_goals first | trivial | (exfalso; omega)
          rw [if_pos hle] at h
          simp only [Prod.mk.injEq] at h
          obtain ⟨hv, hr⟩ := h
          refine .inr <| .inr ⟨[(100, 100)], [.loc 100 0 0], [(100, some (.box [.pure (encB m)]))], [100], [100], 1, _, number_spec m (by omega) u r1 hnum, ⟨Or.inl rfl, trivial⟩, ⟨rfl, trivial⟩, ?_⟩
          repeat' ((try conv => whnf); first | refine k1 (fun hb => ?_) fun hb => ?_ | refine k2 (fun hb => ?_) fun hb => ?_ | (first | refine k3 (fun hb => ?_) fun hb => ?_ | refine k4 (fun hb => ?_) fun hb => ?_) <;> (try rw [List.length_map] at hb) <;> (try (exfalso; omega; done)) | refine k5 (fun hb => ?_) fun hb => ?_ | refine k6 (fun hb => ?_) fun hb => ?_ | refine Both.intro ?_ ?_ | refine And.intro rfl ?_ | refine s1 ?_ | refine s2 ?_ | refine s3 ?_ | refine s4 nm ?_ | refine s5 nm nm ?_ | refine s6 nm nm ?_ | refine s7 ?_ | refine And.intro (by assumption) ?_ | refine s8 nm ?_ | refine s9 nm nm ?_ | refine sa nm ?_ | refine ⟨_, _, getMapN nm, rfl, ?_⟩ | refine .inl ⟨_, getMapN nm, rfl, rfl, ?_⟩ | refine .inl ⟨rfl, rfl, bd, rfl, rfl, ?_⟩ | refine ⟨_, singles_flat _ _, ?_⟩ | refine ⟨_, singles_map _ _, ?_⟩ | refine And.intro (onesB_flat _ _ fun _ => rfl) ?_ | refine And.intro (onesB_map _ _ fun _ => rfl) ?_ | refine .inr ⟨rfl, rfl, rfl, ?_⟩ | refine ⟨⟨⟨onesB_flat _ _ fun _ => rfl, fl⟩, trivial⟩, ?_⟩ | refine And.intro bd ?_ | refine ⟨_, set_map _ _ _, ?_⟩ | refine ⟨_, set_rfl _ _ _, ?_⟩ | refine ⟨_, singles_rfl _, ?_⟩ | fail)
          refine ⟨((r1.length : Nat) : Int), by rw [wrap_u64]; simp <;> omega, ?_⟩
          repeat' ((try conv => whnf); first | refine k1 (fun hb => ?_) fun hb => ?_ | refine k2 (fun hb => ?_) fun hb => ?_ | (first | refine k3 (fun hb => ?_) fun hb => ?_ | refine k4 (fun hb => ?_) fun hb => ?_) <;> (try rw [List.length_map] at hb) <;> (try (exfalso; omega; done)) | refine k5 (fun hb => ?_) fun hb => ?_ | refine k6 (fun hb => ?_) fun hb => ?_ | refine Both.intro ?_ ?_ | refine And.intro rfl ?_ | refine s1 ?_ | refine s2 ?_ | refine s3 ?_ | refine s4 nm ?_ | refine s5 nm nm ?_ | refine s6 nm nm ?_ | refine s7 ?_ | refine And.intro (by assumption) ?_ | refine s8 nm ?_ | refine s9 nm nm ?_ | refine sa nm ?_ | refine ⟨_, _, getMapN nm, rfl, ?_⟩ | refine .inl ⟨_, getMapN nm, rfl, rfl, ?_⟩ | refine .inl ⟨rfl, rfl, bd, rfl, rfl, ?_⟩ | refine ⟨_, singles_flat _ _, ?_⟩ | refine ⟨_, singles_map _ _, ?_⟩ | refine And.intro (onesB_flat _ _ fun _ => rfl) ?_ | refine And.intro (onesB_map _ _ fun _ => rfl) ?_ | refine .inr ⟨rfl, rfl, rfl, ?_⟩ | refine ⟨⟨⟨onesB_flat _ _ fun _ => rfl, fl⟩, trivial⟩, ?_⟩ | refine And.intro bd ?_ | refine ⟨_, set_map _ _ _, ?_⟩ | refine ⟨_, set_rfl _ _ _, ?_⟩ | refine ⟨_, singles_rfl _, ?_⟩ | fail)
          refine Wp.loop (fun x : Nat × List Val × List UInt8 => ⟨[(0, .loc 100 0 0), (1, .int (16 - ((f + 1 : Nat) : Int))), (4, .loc 4 0 0), (48, .pure (.val (.int .u64 u))), (49, .pure (.val (.int .u64 x.1)))],
              [(100, some (.box [.pure (encB x.2.2)])), (4, some (.box [.int 3, .int 0, .pure (.val (.string ⟨#[]⟩)), .lsl 300 0 x.2.1.length])), (300, some (.row 4 (x.2.1.map encV)))], [100, 4, 300]⟩)
            (fun x => x.1 ≤ u ∧ x.2.1.length = x.1 ∧ x.2.2.length ≤ r1.length ∧ ∃ l, rvals (rval f) (u - x.1) x.2.2 = (l, none)) (fun x => u - x.1) (0, [], r1)
            (Le.trans (Le.virt (k := 300) (sz := 4) rfl rfl (by omega)) (Le.of ?_ ?_ rfl rfl rfl)) ⟨by simp, rfl, by simp, (rvals (rval f) u r1).1, by simp only [Nat.sub_zero]; exact Prod.ext rfl hr⟩ ?_
          · (repeat' (first | exact trivial | exact rfl | refine And.intro ?_ ?_ | refine Exists.intro _ (And.intro rfl ?_) | exact Or.inl rfl | exact l1 bd | exact SubA.lsl ls | exact SubA.sl sc | exact SubA.bool bo | exact l6 rfl | exact rowEq rs | fail))
          · (repeat' (first | exact trivial | exact rfl | refine And.intro ?_ ?_ | refine Exists.intro _ (And.intro rfl ?_) | exact Or.inl rfl | exact l1 bd | exact SubA.lsl ls | exact SubA.sl sc | exact SubA.bool bo | exact l6 rfl | exact rowEq rs | fail))
          rintro ⟨k, l, q⟩ ⟨hk, hlk, hql, lr, hrv⟩
          dsimp only at hk hlk hql hrv ⊢
          by_cases hk2 : k < u
          · rw [show u - k = (u - (k + 1)) + 1 by omega, rvals_succ] at hrv
            cases hc : rval f q with
            | mk x o => cases o with
              | none =>
                first | refine code_sound (more := more5 false _ _) more5_ok FOK.wide _ ?_ | refine code_sound (more := more5 false _ _) more5_ok (FOK.inRound _) _ ?_
                repeat' ((try conv => whnf); first | refine k1 (fun hb => ?_) fun hb => ?_ | refine k2 (fun hb => ?_) fun hb => ?_ | (first | refine k3 (fun hb => ?_) fun hb => ?_ | refine k4 (fun hb => ?_) fun hb => ?_) <;> (try rw [List.length_map] at hb) <;> (try (exfalso; omega; done)) | refine k5 (fun hb => ?_) fun hb => ?_ | refine k6 (fun hb => ?_) fun hb => ?_ | refine Both.intro ?_ ?_ | refine And.intro rfl ?_ | refine s1 ?_ | refine s2 ?_ | refine s3 ?_ | refine s4 nm ?_ | refine s5 nm nm ?_ | refine s6 nm nm ?_ | refine s7 ?_ | refine And.intro (by assumption) ?_ | refine s8 nm ?_ | refine s9 nm nm ?_ | refine sa nm ?_ | refine ⟨_, _, getMapN nm, rfl, ?_⟩ | refine .inl ⟨_, getMapN nm, rfl, rfl, ?_⟩ | refine .inl ⟨rfl, rfl, bd, rfl, rfl, ?_⟩ | refine ⟨_, singles_flat _ _, ?_⟩ | refine ⟨_, singles_map _ _, ?_⟩ | refine And.intro (onesB_flat _ _ fun _ => rfl) ?_ | refine And.intro (onesB_map _ _ fun _ => rfl) ?_ | refine .inr ⟨rfl, rfl, rfl, ?_⟩ | refine ⟨⟨⟨onesB_flat _ _ fun _ => rfl, fl⟩, trivial⟩, ?_⟩ | refine And.intro bd ?_ | refine ⟨_, set_map _ _ _, ?_⟩ | refine ⟨_, set_rfl _ _ _, ?_⟩ | refine ⟨_, singles_rfl _, ?_⟩ | fail)
                refine Wp.drawP 5 (more := more5 true _ _) more5_det more5_ok FOK.wide rfl (by decide +kernel) rfl (fun _ => trivial) (by conv => lhs; reduce) rfl rfl rfl rfl rfl (by decide +kernel) ?_
                repeat' ((try conv => whnf); first | refine k1 (fun hb => ?_) fun hb => ?_ | refine k2 (fun hb => ?_) fun hb => ?_ | (first | refine k3 (fun hb => ?_) fun hb => ?_ | refine k4 (fun hb => ?_) fun hb => ?_) <;> (try rw [List.length_map] at hb) <;> (try (exfalso; omega; done)) | refine k5 (fun hb => ?_) fun hb => ?_ | refine k6 (fun hb => ?_) fun hb => ?_ | refine Both.intro ?_ ?_ | refine And.intro rfl ?_ | refine s1 ?_ | refine s2 ?_ | refine s3 ?_ | refine s4 nm ?_ | refine s5 nm nm ?_ | refine s6 nm nm ?_ | refine s7 ?_ | refine And.intro (by assumption) ?_ | refine s8 nm ?_ | refine s9 nm nm ?_ | refine sa nm ?_ | refine ⟨_, _, getMapN nm, rfl, ?_⟩ | refine .inl ⟨_, getMapN nm, rfl, rfl, ?_⟩ | refine .inl ⟨rfl, rfl, bd, rfl, rfl, ?_⟩ | refine ⟨_, singles_flat _ _, ?_⟩ | refine ⟨_, singles_map _ _, ?_⟩ | refine And.intro (onesB_flat _ _ fun _ => rfl) ?_ | refine And.intro (onesB_map _ _ fun _ => rfl) ?_ | refine .inr ⟨rfl, rfl, rfl, ?_⟩ | refine ⟨⟨⟨onesB_flat _ _ fun _ => rfl, fl⟩, trivial⟩, ?_⟩ | refine And.intro bd ?_ | refine ⟨_, set_map _ _ _, ?_⟩ | refine ⟨_, set_rfl _ _ _, ?_⟩ | refine ⟨_, singles_rfl _, ?_⟩ | fail)
                refine .inr (.inr ⟨[(100, 100)], [.loc 100 0 0, .int (16 - (f : Int))], [(100, some (.box [.pure (encB q)]))], [100], ih2 q x (by omega) hc, ⟨Or.inl rfl, Or.inl (congrArg (fun z => AV.int z) (show (16 : Int) - ((f + 1 : Nat) : Int) + 1 = 16 - (f : Int) by omega)), trivial⟩, ⟨rfl, trivial⟩, ?_⟩)
                repeat' ((try conv => whnf); first | refine k1 (fun hb => ?_) fun hb => ?_ | refine k2 (fun hb => ?_) fun hb => ?_ | (first | refine k3 (fun hb => ?_) fun hb => ?_ | refine k4 (fun hb => ?_) fun hb => ?_) <;> (try rw [List.length_map] at hb) <;> (try (exfalso; omega; done)) | refine k5 (fun hb => ?_) fun hb => ?_ | refine k6 (fun hb => ?_) fun hb => ?_ | refine Both.intro ?_ ?_ | refine And.intro rfl ?_ | refine s1 ?_ | refine s2 ?_ | refine s3 ?_ | refine s4 nm ?_ | refine s5 nm nm ?_ | refine s6 nm nm ?_ | refine s7 ?_ | refine And.intro (by assumption) ?_ | refine s8 nm ?_ | refine s9 nm nm ?_ | refine sa nm ?_ | refine ⟨_, _, getMapN nm, rfl, ?_⟩ | refine .inl ⟨_, getMapN nm, rfl, rfl, ?_⟩ | refine .inl ⟨rfl, rfl, bd, rfl, rfl, ?_⟩ | refine ⟨_, singles_flat _ _, ?_⟩ | refine ⟨_, singles_map _ _, ?_⟩ | refine And.intro (onesB_flat _ _ fun _ => rfl) ?_ | refine And.intro (onesB_map _ _ fun _ => rfl) ?_ | refine .inr ⟨rfl, rfl, rfl, ?_⟩ | refine ⟨⟨⟨onesB_flat _ _ fun _ => rfl, fl⟩, trivial⟩, ?_⟩ | refine And.intro bd ?_ | refine ⟨_, set_map _ _ _, ?_⟩ | refine ⟨_, set_rfl _ _ _, ?_⟩ | refine ⟨_, singles_rfl _, ?_⟩ | fail)
                rfl
              | some q' =>
                have hqq := rval_len f hc
                rw [hc] at hrv
                dsimp only at hrv
                have q1 := ih1 q q' x (by omega) hc
                first | refine code_sound (more := more5 false _ _) more5_ok FOK.wide _ ?_ | refine code_sound (more := more5 false _ _) more5_ok (FOK.inRound _) _ ?_
                repeat' ((try conv => whnf); first | refine k1 (fun hb => ?_) fun hb => ?_ | refine k2 (fun hb => ?_) fun hb => ?_ | (first | refine k3 (fun hb => ?_) fun hb => ?_ | refine k4 (fun hb => ?_) fun hb => ?_) <;> (try rw [List.length_map] at hb) <;> (try (exfalso; omega; done)) | refine k5 (fun hb => ?_) fun hb => ?_ | refine k6 (fun hb => ?_) fun hb => ?_ | refine Both.intro ?_ ?_ | refine And.intro rfl ?_ | refine s1 ?_ | refine s2 ?_ | refine s3 ?_ | refine s4 nm ?_ | refine s5 nm nm ?_ | refine s6 nm nm ?_ | refine s7 ?_ | refine And.intro (by assumption) ?_ | refine s8 nm ?_ | refine s9 nm nm ?_ | refine sa nm ?_ | refine ⟨_, _, getMapN nm, rfl, ?_⟩ | refine .inl ⟨_, getMapN nm, rfl, rfl, ?_⟩ | refine .inl ⟨rfl, rfl, bd, rfl, rfl, ?_⟩ | refine ⟨_, singles_flat _ _, ?_⟩ | refine ⟨_, singles_map _ _, ?_⟩ | refine And.intro (onesB_flat _ _ fun _ => rfl) ?_ | refine And.intro (onesB_map _ _ fun _ => rfl) ?_ | refine .inr ⟨rfl, rfl, rfl, ?_⟩ | refine ⟨⟨⟨onesB_flat _ _ fun _ => rfl, fl⟩, trivial⟩, ?_⟩ | refine And.intro bd ?_ | refine ⟨_, set_map _ _ _, ?_⟩ | refine ⟨_, set_rfl _ _ _, ?_⟩ | refine ⟨_, singles_rfl _, ?_⟩ | fail)
                first | refine Wp.drawG (more := more5 true _ _) more5_det more5_ok FOK.wide rfl (by decide +kernel) (by conv => lhs; reduce) ?_ | refine Wp.drawG (more := more5 true _ _) more5_det more5_ok (FOK.inRound _) rfl (by decide +kernel) (by conv => lhs; reduce) ?_
                repeat' ((try conv => whnf); first | refine k1 (fun hb => ?_) fun hb => ?_ | refine k2 (fun hb => ?_) fun hb => ?_ | (first | refine k3 (fun hb => ?_) fun hb => ?_ | refine k4 (fun hb => ?_) fun hb => ?_) <;> (try rw [List.length_map] at hb) <;> (try (exfalso; omega; done)) | refine k5 (fun hb => ?_) fun hb => ?_ | refine k6 (fun hb => ?_) fun hb => ?_ | refine Both.intro ?_ ?_ | refine And.intro rfl ?_ | refine s1 ?_ | refine s2 ?_ | refine s3 ?_ | refine s4 nm ?_ | refine s5 nm nm ?_ | refine s6 nm nm ?_ | refine s7 ?_ | refine And.intro (by assumption) ?_ | refine s8 nm ?_ | refine s9 nm nm ?_ | refine sa nm ?_ | refine ⟨_, _, getMapN nm, rfl, ?_⟩ | refine .inl ⟨_, getMapN nm, rfl, rfl, ?_⟩ | refine .inl ⟨rfl, rfl, bd, rfl, rfl, ?_⟩ | refine ⟨_, singles_flat _ _, ?_⟩ | refine ⟨_, singles_map _ _, ?_⟩ | refine And.intro (onesB_flat _ _ fun _ => rfl) ?_ | refine And.intro (onesB_map _ _ fun _ => rfl) ?_ | refine .inr ⟨rfl, rfl, rfl, ?_⟩ | refine ⟨⟨⟨onesB_flat _ _ fun _ => rfl, fl⟩, trivial⟩, ?_⟩ | refine And.intro bd ?_ | refine ⟨_, set_map _ _ _, ?_⟩ | refine ⟨_, set_rfl _ _ _, ?_⟩ | refine ⟨_, singles_rfl _, ?_⟩ | fail)
                refine .inr ⟨[(100, 100)], [.loc 100 0 0, .int (16 - (f : Int))], [(100, some (.box [.pure (encB q)]))], [100], [100], 1, _, q1, ⟨Or.inl rfl, Or.inl (congrArg (fun z => AV.int z) (show (16 : Int) - ((f + 1 : Nat) : Int) + 1 = 16 - (f : Int) by omega)), trivial⟩, ⟨rfl, trivial⟩, ?_⟩
                repeat' ((try conv => whnf); first | refine k1 (fun hb => ?_) fun hb => ?_ | refine k2 (fun hb => ?_) fun hb => ?_ | (first | refine k3 (fun hb => ?_) fun hb => ?_ | refine k4 (fun hb => ?_) fun hb => ?_) <;> (try rw [List.length_map] at hb) <;> (try (exfalso; omega; done)) | refine k5 (fun hb => ?_) fun hb => ?_ | refine k6 (fun hb => ?_) fun hb => ?_ | refine Both.intro ?_ ?_ | refine And.intro rfl ?_ | refine s1 ?_ | refine s2 ?_ | refine s3 ?_ | refine s4 nm ?_ | refine s5 nm nm ?_ | refine s6 nm nm ?_ | refine s7 ?_ | refine And.intro (by assumption) ?_ | refine s8 nm ?_ | refine s9 nm nm ?_ | refine sa nm ?_ | refine ⟨_, _, getMapN nm, rfl, ?_⟩ | refine .inl ⟨_, getMapN nm, rfl, rfl, ?_⟩ | refine .inl ⟨rfl, rfl, bd, rfl, rfl, ?_⟩ | refine ⟨_, singles_flat _ _, ?_⟩ | refine ⟨_, singles_map _ _, ?_⟩ | refine And.intro (onesB_flat _ _ fun _ => rfl) ?_ | refine And.intro (onesB_map _ _ fun _ => rfl) ?_ | refine .inr ⟨rfl, rfl, rfl, ?_⟩ | refine ⟨⟨⟨onesB_flat _ _ fun _ => rfl, fl⟩, trivial⟩, ?_⟩ | refine And.intro bd ?_ | refine ⟨_, set_map _ _ _, ?_⟩ | refine ⟨_, set_rfl _ _ _, ?_⟩ | refine ⟨_, singles_rfl _, ?_⟩ | fail)
                refine ⟨((k + 1 : Nat) : Int), by rw [wrap_u64]; omega, ?_⟩
                repeat' ((try conv => whnf); first | refine k1 (fun hb => ?_) fun hb => ?_ | refine k2 (fun hb => ?_) fun hb => ?_ | (first | refine k3 (fun hb => ?_) fun hb => ?_ | refine k4 (fun hb => ?_) fun hb => ?_) <;> (try rw [List.length_map] at hb) <;> (try (exfalso; omega; done)) | refine k5 (fun hb => ?_) fun hb => ?_ | refine k6 (fun hb => ?_) fun hb => ?_ | refine Both.intro ?_ ?_ | refine And.intro rfl ?_ | refine s1 ?_ | refine s2 ?_ | refine s3 ?_ | refine s4 nm ?_ | refine s5 nm nm ?_ | refine s6 nm nm ?_ | refine s7 ?_ | refine And.intro (by assumption) ?_ | refine s8 nm ?_ | refine s9 nm nm ?_ | refine sa nm ?_ | refine ⟨_, _, getMapN nm, rfl, ?_⟩ | refine .inl ⟨_, getMapN nm, rfl, rfl, ?_⟩ | refine .inl ⟨rfl, rfl, bd, rfl, rfl, ?_⟩ | refine ⟨_, singles_flat _ _, ?_⟩ | refine ⟨_, singles_map _ _, ?_⟩ | refine And.intro (onesB_flat _ _ fun _ => rfl) ?_ | refine And.intro (onesB_map _ _ fun _ => rfl) ?_ | refine .inr ⟨rfl, rfl, rfl, ?_⟩ | refine ⟨⟨⟨onesB_flat _ _ fun _ => rfl, fl⟩, trivial⟩, ?_⟩ | refine And.intro bd ?_ | refine ⟨_, set_map _ _ _, ?_⟩ | refine ⟨_, set_rfl _ _ _, ?_⟩ | refine ⟨_, singles_rfl _, ?_⟩ | fail)
                cases hc2 : rvals (rval f) (u - (k + 1)) q' with
                | mk l' o' =>
                  rw [hc2] at hrv
                  simp only [Prod.mk.injEq] at hrv
                  refine ⟨(k + 1, l ++ [x], q'), Le.map [(300, 58)] ?_ ?_ rfl rfl rfl rfl, ⟨by simp only; omega, by simp; omega, by simp only; omega, l', by rw [← hrv.2]; exact hc2⟩, by simp only; omega⟩
                  · (repeat' (first | exact trivial | exact rfl | refine And.intro ?_ ?_ | refine Exists.intro _ (And.intro rfl ?_) | exact Or.inl rfl | exact l1 bd | exact SubA.lsl ls | exact SubA.sl sc | exact SubA.bool bo | exact l6 rfl | exact rowEq rs | fail))
                  · (repeat' (first | exact trivial | exact rfl | refine And.intro ?_ ?_ | refine Exists.intro _ (And.intro rfl ?_) | exact Or.inl rfl | exact l1 bd | exact SubA.lsl ls | exact SubA.sl sc | exact SubA.bool bo | exact l6 rfl | exact rowEq rs | fail))
                    all_goals (refine rowEq ?_; rw [List.map_append]; rfl)
          · have ek : k = u := by omega
            subst ek
            rw [Nat.sub_self, rvals_zero] at hrv
            cases hrv
theorem value_spec : ∀ f, f ≤ 16 → VSpec f := by
  intro f
  induction f with
  | zero => exact fun hf => ⟨fun b r v hb h => value_ok 0 hf (fun f' h => by omega) b r v hb h, fun b v hb h => value_no 0 hf (fun f' h => by omega) b v hb h⟩
  | succ f ih => exact fun hf => ⟨fun b r v hb h => value_ok (f + 1) hf (fun f' h => by cases h; exact ih (by omega)) b r v hb h, fun b v hb h => value_no (f + 1) hf (fun f' h => by cases h; exact ih (by omega)) b v hb h⟩
end Go.Proofs.Ytigfakjppicdlaa
