/- Journals: a changed byte is noticed. Conditions: none. -/
import Derived.Test.YtcgpikmaapallaaWk
import Derived.Test.YtcgpikmaapallaaWd
import Derived.Test.YtcgpikmaapallaaWj
set_option linter.unusedSimpArgs false
set_option linter.unusedVariables false
set_option maxRecDepth 20000
set_option maxHeartbeats 4000000
namespace Go.Proofs.Ytcgpikmaapallaa
open Go.Avc
theorem xor_cancel {a b c : Nat} (h : a ^^^ c = b ^^^ c) : a = b := by
 have := congrArg (· ^^^ c) h
 simpa [Nat.xor_assoc] using this
theorem xor_cancel' {a b c : Nat} (h : c ^^^ a = c ^^^ b) : a = b := xor_cancel (c := c) (by rw [Nat.xor_comm a, Nat.xor_comm b]; exact h)
theorem hi_bit {x : Nat} (h : x < 2147483648) : (x ^^^ 3988292384).testBit 31 = true := by
 rw [Nat.testBit_xor, Nat.testBit_lt_two_pow (show x < 2 ^ 31 from h)]; decide
theorem crc1_inj {a b : Nat} (ha : a < 4294967296) (hb : b < 4294967296) (h : crc1 a = crc1 b) : a = b := by
 unfold crc1 at h
 split at h <;> split at h
 · have := xor_cancel h; omega
 · have h1 := hi_bit (x := a / 2) (by omega)
   rw [h, Nat.testBit_lt_two_pow (show b / 2 < 2 ^ 31 by omega)] at h1; cases h1
 · have h1 := hi_bit (x := b / 2) (by omega)
   rw [← h, Nat.testBit_lt_two_pow (show a / 2 < 2 ^ 31 by omega)] at h1; cases h1
 · omega
theorem crcIt_inj {a b : Nat} (ha : a < 4294967296) (hb : b < 4294967296) : ∀ j, crcIt j a = crcIt j b → a = b
 | 0, h => h
 | j + 1, h => crcIt_inj ha hb j (crc1_inj (crcIt_lt ha j) (crcIt_lt hb j) h)
theorem crcB_inj {a b : Nat} (ha : a < 4294967296) (hb : b < 4294967296) (x : UInt8) (h : crcB a x = crcB b x) : a = b := by
 have hx := UInt8.toNat_lt x
 exact xor_cancel (crcIt_inj (Nat.xor_lt_two_pow (n := 32) ha (by omega)) (Nat.xor_lt_two_pow (n := 32) hb (by omega)) 8 h)
theorem crcB_inj' {a : Nat} (ha : a < 4294967296) {x y : UInt8} (h : crcB a x = crcB a y) : x = y := by
 have hx := UInt8.toNat_lt x
 have hy := UInt8.toNat_lt y
 exact UInt8.toNat_inj.1 (xor_cancel' (crcIt_inj (Nat.xor_lt_two_pow (n := 32) ha (by omega)) (Nat.xor_lt_two_pow (n := 32) ha (by omega)) 8 h))
theorem fold_inj : ∀ (l : List UInt8) {a b : Nat}, a < 4294967296 → b < 4294967296 → l.foldl crcB a = l.foldl crcB b → a = b
 | [], _, _, _, _, h => h
 | x :: l, _, _, ha, hb, h => crcB_inj ha hb x (fold_inj l (crcB_lt ha x) (crcB_lt hb x) h)
theorem fold_set : ∀ (l : List UInt8) (n : Nat) (i : Nat) (x : UInt8) (hi : i < l.length), n < 4294967296 → x ≠ l[i] → (l.set i x).foldl crcB n ≠ l.foldl crcB n
 | y :: l, n, 0, x, _, hn, hx => fun h => hx (crcB_inj' hn (fold_inj l (crcB_lt hn x) (crcB_lt hn y) h))
 | y :: l, n, i + 1, x, hi, hn, hx => fold_set l (crcB n y) i x (by simpa using hi) (crcB_lt hn y) (by simpa using hx)
theorem crc_set (l : List UInt8) (i : Nat) (x : UInt8) (hi : i < l.length) (hx : x ≠ l[i]) : crc (l.set i x) ≠ crc l := fun h =>
 fold_set l 4294967295 i x hi (by decide) hx (xor_cancel' h)
theorem getD_set_ne (s : List UInt8) (i j : Nat) (x : UInt8) (h : i ≠ j) : (s.set i x).getD j 0 = s.getD j 0 := by
 simp [List.getD, List.getElem?_set_ne h]
theorem getD_set_eq (s : List UInt8) (i : Nat) (x : UInt8) (h : i < s.length) : (s.set i x).getD i 0 = x := by
 simp [List.getD, h]
theorem four_set_ne (s : List UInt8) (i : Nat) (x : UInt8) (a : Nat) (h : i < a ∨ a + 4 ≤ i) : four (s.set i x) a = four s a := by
 unfold four
 rw [getD_set_ne s i a x (by omega), getD_set_ne s i (a + 1) x (by omega), getD_set_ne s i (a + 2) x (by omega), getD_set_ne s i (a + 3) x (by omega)]
theorem four_set (s : List UInt8) (i : Nat) (x : UInt8) (a : Nat) (hi : i < s.length) (h1 : a ≤ i) (h2 : i < a + 4) (hx : x ≠ s[i]) : four (s.set i x) a ≠ four s a := by
 have hx' : x.toNat ≠ (s.getD i 0).toNat := by
   intro h; exact hx (by rw [UInt8.toNat_inj.1 h]; simp [List.getD, hi])
 have b0 := UInt8.toNat_lt x
 have b1 := UInt8.toNat_lt (s.getD a 0)
 have b2 := UInt8.toNat_lt (s.getD (a + 1) 0)
 have b3 := UInt8.toNat_lt (s.getD (a + 2) 0)
 have b4 := UInt8.toNat_lt (s.getD (a + 3) 0)
 have hc : i = a ∨ i = a + 1 ∨ i = a + 2 ∨ i = a + 3 := by omega
 unfold four
 rcases hc with rfl | rfl | rfl | rfl
 · rw [getD_set_eq s _ x hi, getD_set_ne s _ _ x (by omega), getD_set_ne s _ _ x (by omega), getD_set_ne s _ _ x (by omega)]; omega
 · rw [getD_set_eq s _ x hi, getD_set_ne s _ _ x (by omega), getD_set_ne s _ _ x (by omega), getD_set_ne s _ _ x (by omega)]; omega
 · rw [getD_set_eq s _ x hi, getD_set_ne s _ _ x (by omega), getD_set_ne s _ _ x (by omega), getD_set_ne s _ _ x (by omega)]; omega
 · rw [getD_set_eq s _ x hi, getD_set_ne s _ _ x (by omega), getD_set_ne s _ _ x (by omega), getD_set_ne s _ _ x (by omega)]; omega
theorem body_out (s : List UInt8) (i : Nat) (x : UInt8) (h : i < 8 ∨ 124 ≤ i) : body (s.set i x) = body s := by
 unfold body
 apply List.ext_getElem?
 intro j
 simp only [List.getElem?_take, List.getElem?_drop]
 split
 · rw [List.getElem?_set_ne (by omega)]
 · rfl
theorem body_in (s : List UInt8) (i : Nat) (x : UInt8) (h1 : 8 ≤ i) (h2 : i < 124) : body (s.set i x) = (body s).set (i - 8) x := by
 unfold body
 rw [← List.take_set, List.drop_set, if_neg (by omega)]
theorem set_bad {s : List UInt8} (hs : s.length = 128) {k0 : Int} (hg : GoodP s k0) {i : Nat} (hi : i < 128) {x : UInt8} (hx : x ≠ s[i]) : ∀ k : Int, ¬ GoodP (s.set i x) k := by
 intro k h
 have g1 := hg.2.1
 have g2 := hg.2.2.2.2.2.2.2.2
 have h1 := h.2.1
 have h2 := h.2.2.2.2.2.2.2.2
 by_cases c1 : i < 4
 · rw [four_set_ne s i x 124 (by omega)] at h1
   exact four_set s i x 0 (by omega) (by omega) (by omega) hx (h1.trans g1.symm)
 by_cases c2 : i < 8
 · rw [body_out s i x (by omega)] at h2
   exact four_set s i x 4 (by omega) (by omega) (by omega) hx (h2.trans g2.symm)
 by_cases c3 : i < 124
 · rw [body_in s i x (by omega) c3, four_set_ne s i x 4 (by omega)] at h2
   have hbi : i - 8 < (body s).length := by rw [body_len hs]; omega
   refine crc_set (body s) (i - 8) x hbi ?_ (h2.symm.trans g2)
   have : (body s)[i - 8] = s[i] := by simp only [body, List.getElem_take, List.getElem_drop]; congr 1; omega
   rw [this]; exact hx
 · rw [four_set_ne s i x 0 (by omega)] at h1
   exact four_set s i x 124 (by omega) (by omega) (by omega) hx (h1.symm.trans g1)
theorem bad_lay {g : Nat} (hg : g < 4294967296) (hg0 : 0 < g) {t : List UInt8} (ht : ∀ k : Int, ¬ GoodP t k) (tail : List (List UInt8)) : ∀ (l : List (List UInt8)) (a m : Nat), a + occN l ≤ 65536 → m < occN l →
   ∃ j, j < l.length ∧ occN (l.take j) ≤ m ∧ m < occN (l.take (j + 1)) ∧ ∃ tl, (lay a (l.map (·, g))).take m ++ t :: tail = lay a ((l.take j).map (·, g)) ++ tl ∧ ∀ gen, Stop gen (a + occN (l.take j)) tl
 | [], a, m, _, h => by simp [occN] at h
 | b :: l, a, m, ha, h => by
   have e : occN (b :: l) = piecesN b.length + occN l := by simp [occN]
   rw [e] at ha h
   by_cases hm : m < piecesN b.length
   · refine ⟨0, by simp, by simp [occN], by simpa [occN] using hm, _, rfl, fun gen => ?_⟩
     simp only [List.take_zero, List.map_cons, lay]
     rw [List.take_append_of_le_length (by rw [encodeL_len]; omega), show a + occN [] = a from rfl]
     exact stop_torn hg hg0 (by omega) ht tail m hm gen
   · obtain ⟨j, hj, e1, e2, tl, h1, h2⟩ := bad_lay hg hg0 ht tail l (a + piecesN b.length) (m - piecesN b.length) (by omega) (by omega)
     have e3 : ∀ j, occN ((b :: l).take (j + 1)) = piecesN b.length + occN (l.take j) := fun j => by simp [occN]
     refine ⟨j + 1, by simp; omega, by rw [e3]; omega, by rw [e3]; omega, tl, ?_, fun gen => ?_⟩
     · rw [List.take_succ_cons, List.map_cons, List.map_cons, lay, lay, List.take_append, List.take_of_length_le (by rw [encodeL_len]; omega), encodeL_len, List.append_assoc, h1, List.append_assoc]
     · rw [e3, ← Nat.add_assoc]; exact h2 gen
theorem occN_take_mono (l : List (List UInt8)) {i j : Nat} (h : i ≤ j) : occN (l.take i) ≤ occN (l.take j) := by
 have : l.take i = (l.take j).take i := by rw [List.take_take, Nat.min_eq_left h]
 rw [this]; unfold occN
 conv => rhs; rw [← List.take_append_drop i (l.take j), List.map_append, List.sum_append]
 omega
theorem lay_good {g : Nat} (hg : g < 4294967296) (hg0 : 0 < g) : ∀ (l : List (List UInt8)) (a m : Nat) (h : m < (lay a (l.map (·, g))).length), a + occN l ≤ 65536 → GoodP (lay a (l.map (·, g)))[m] (a + m : Nat)
 | [], a, m, h, _ => by simp [lay] at h
 | b :: l, a, m, h, ha => by
   have e : occN (b :: l) = piecesN b.length + occN l := by simp [occN]
   have h' : m < piecesN b.length + occN l := by rw [lay_len, occR_map, e] at h; exact h
   simp only [List.map_cons, lay]
   by_cases hm : m < piecesN b.length
   · rw [List.getElem_append_left (by rw [encodeL_len]; exact hm), encodeL_get]
     exact secE_good hg hg0 (by omega) hm
   · rw [List.getElem_append_right (by rw [encodeL_len]; omega)]
     have := lay_good hg hg0 l (a + piecesN b.length) (m - piecesN b.length) (by rw [lay_len, occR_map]; omega) (by omega)
     simp only [encodeL_len]
     rw [show a + piecesN b.length + (m - piecesN b.length) = a + m by omega] at this
     exact this
theorem InvD.occ2 {d : Disk} {R : List (List UInt8 × Nat)} {G : Nat} (h : InvD d R G) : occN (R.map (·.1)) ≤ d.sectors.length := by
 obtain ⟨tail, h1, _⟩ := h.inv.form
 rw [h1, List.length_append, lay_len]; exact Nat.le_add_right _ _
theorem damage_plain {c : Disk} {R : List (List UInt8)} {G : Nat} (h : InvD c (R.map (·, 1)) G) (hl : c.left = -1) {k : Nat} (hk : k < occN R) {i : Nat} (hi : i < 128) {x : UInt8} :
   ∃ (hk2 : k < c.sectors.length), c.sectors[k].length = 128 ∧ (x ≠ c.sectors[k].getD i 0 → ∃ c1 c2 j, c.write k (c.sectors[k].set i x) = (c1, 0) ∧ c1.sync = (c2, 0) ∧ openJ c2 = (⟨R.take j, c.sectors.length, j⟩, 0) ∧ j < R.length ∧ occN (R.take j) ≤ k ∧ k < occN (R.take (j + 1))) := by
 obtain ⟨tail, h1, h2⟩ := h.inv.form
 have hocc := h.occ2
 have hmap : List.map (fun y : List UInt8 × Nat => y.1) (List.map (fun b : List UInt8 => (b, 1)) R) = R := by simp [Function.comp_def]
 rw [hmap] at hocc
 have hlen := h.len
 have hk2 : k < c.sectors.length := by omega
 have h128 : c.sectors[k].length = 128 := h.inv.s128 _ (List.getElem_mem hk2)
 refine ⟨hk2, h128, fun hx => ?_⟩
 obtain ⟨W, hW⟩ : ∃ W, W = lay 0 (R.map (·, 1)) := ⟨_, rfl⟩
 have hWl : W.length = occN R := by rw [hW, lay_len, occR_map]
 have hkW : k < W.length := by omega
 have hck : c.sectors[k] = W[k] := by
   have : c.sectors[k]? = W[k]? := by rw [h1, ← hW, List.getElem?_append_left hkW]
   rw [List.getElem?_eq_getElem hk2, List.getElem?_eq_getElem hkW] at this
   exact Option.some.inj this
 have hgood : GoodP W[k] (0 + k : Nat) := by
   have := lay_good (g := 1) (by omega) (by omega) R 0 k (by rw [← hW]; exact hkW) (by omega)
   simp only [← hW] at this
   exact this
 obtain ⟨s', hs'⟩ : ∃ s', s' = c.sectors[k].set i x := ⟨_, rfl⟩
 have hbad : ∀ q : Int, ¬ GoodP s' q := by
   rw [hs', hck]
   rw [hck] at h128 hx
   exact set_bad h128 hgood hi (by intro h; apply hx; rw [h]; simp [List.getD, show i < W[k].length by omega])
 have hs128 : s'.length = 128 := by rw [hs']; simp [h128]
 rw [← hs']
 have hwr : c.write k s' = (⟨c.sectors, [((k : Int), s')], c.left, c.stopped⟩, 0) := by
   unfold Disk.write
   rw [if_pos (ready_ok (check_good h.good) h.run), if_neg (by omega), if_neg (by omega), if_neg (by rw [h.pend]; simp), h.pend, List.nil_append]
   have : put128 s' = s' := by unfold put128; simp [hs128]
   rw [this]
 have hsy : (⟨c.sectors, [((k : Int), s')], c.left, c.stopped⟩ : Disk).sync = (⟨c.sectors.set k s', [], -1, false⟩, 0) := by
   unfold Disk.sync
   rw [if_pos, if_pos (.inl hl)]
   · simp [perform, hl]
   · refine ready_ok (check_good ⟨by simp only; omega, by simp only; omega, by simp, by simp only; omega, by simp only; omega, h.inv.s128, ?_⟩) h.run
     intro p hp
     rw [List.mem_singleton.1 hp]
     exact ⟨by simp only; omega, by simp only; omega, hs128⟩
 have hset : c.sectors.set k s' = W.take k ++ s' :: c.sectors.drop (k + 1) := by
   rw [List.set_eq_take_append_cons_drop, if_pos hk2]
   congr 1
   rw [h1, ← hW, List.take_append_of_le_length (by omega)]
 obtain ⟨j, hj, e1, e2, tl, e3, e4⟩ := bad_lay (g := 1) (by omega) (by omega) hbad (c.sectors.drop (k + 1)) R 0 k (by omega) hk
 rw [← hW, ← hset] at e3
 refine ⟨_, _, j, hwr, hsy, ?_, hj, e1, e2⟩
 have hmap2 : List.map (fun y : List UInt8 × Nat => y.1) (List.map (fun b : List UInt8 => (b, 1)) (R.take j)) = R.take j := by simp [Function.comp_def]
 have hrec : recs (c.sectors.set k s') = R.take j := by
   rw [e3, recs_lay (genOK_map (by omega) _ 1 (by omega)) (by rw [occR_map]; have := occN_take_mono R (show j ≤ R.length by omega); rw [List.take_length] at this; omega) (by have := e4 (lastG 1 ((R.take j).map (·, 1))); rw [Nat.zero_add] at this; rw [occR_map]; exact this), hmap2]
 have hg2 : (⟨c.sectors.set k s', [], -1, false⟩ : Disk).good := by
   refine ⟨by simp only [List.length_set]; omega, by simp only [List.length_set]; omega, by simp, by simp, by simp, ?_, by simp⟩
   intro s hs
   rcases List.mem_or_eq_of_mem_set hs with hs | rfl
   · exact h.inv.s128 s hs
   · exact hs128
 unfold openJ
 rw [if_pos (check_good hg2), if_neg (by simp), if_neg (by simp), hrec]
 simp only [List.length_set, List.length_take]
 rw [Nat.min_eq_left (by omega)]
end Go.Proofs.Ytcgpikmaapallaa
/- Journals: the law of damage is walked. Conditions: none. -/
namespace Go.Proofs.Ytcgpikmaapallaa
open Go.Avc
def endsL (a : List (List UInt8)) (k : Nat) : List Nat := (List.range k).map fun i => occN (a.take (i + 1))
theorem endsL_len (a : List (List UInt8)) (k : Nat) : (endsL a k).length = k := by simp [endsL]
theorem endsL_get (a : List (List UInt8)) (k i : Nat) (h : i < (endsL a k).length) : (endsL a k)[i] = occN (a.take (i + 1)) := by simp [endsL]
theorem endsL_zero (a : List (List UInt8)) : endsL a 0 = [] := rfl
theorem endsL_succ (a : List (List UInt8)) (k : Nat) : endsL a (k + 1) = endsL a k ++ [occN (a.take (k + 1))] := by simp [endsL, List.range_succ]
theorem xor_ne {s y : UInt8} (h : y ≠ 0) : s ^^^ y ≠ s := by
 intro e
 apply h
 have := congrArg (fun z => s ^^^ z) e
 simpa [← UInt8.xor_assoc] using this
theorem tmN2 (x m : Nat) : (x : Int).tmod (m : Int) = ((x % m : Nat) : Int) := by rw [Int.tmod_eq_emod_of_nonneg (by omega)]; omega
theorem occN_z : occN [] = 0 := rfl
theorem occN_nil : occN [] ≤ 40 := by decide
attribute [local irreducible] PSub Wp PSpec Le Need Both
attribute [local irreducible] Jour.append Jour.sync openJ endsL occN piecesN Disk.write Disk.sync
end Go.Proofs.Ytcgpikmaapallaa
/- Journals: the law of damage is walked, whatever the sizes. Conditions: none. -/
namespace Go.Proofs.Ytcgpikmaapallaa
open Go.Avc
attribute [local irreducible] PSub Wp PSpec Le Need Both
attribute [local irreducible] Jour.append Jour.sync openJ endsL occN piecesN Disk.write Disk.sync
theorem damage_wide (a : List (List UInt8)) (n m : Int) (y0 : UInt8) (ha : RecSz a) (hn : IntKind.i64.has n) (hm : IntKind.i64.has m) : PSpec Try.prog 9 [encS a, .int n, .int m, .val (.int .u8 y0.toNat)] (.bool true) := by
 have hal : a.length ≤ 140737488355328 := by have := ha.h24; omega
 have p1 := new_spec 40
 rw [new40] at p1
 have pf := jfew_any d40 a ha
 obtain ⟨F, hF⟩ : ∃ F, F = fewW d40 a := ⟨_, rfl⟩
 rw [← hF] at pf
 have po := open_spec d40
 rw [open40] at po
 have hy0 := UInt8.toNat_lt y0
 have hd0 : InvD d40 [] 0 := new_inv (n := 40) (by omega) (by omega)
 have l40 : d40.sectors.length = 40 := by simp [d40]
 refine PSpec.of_vc (fun Γ => more3 false Γ.P Γ.fx) (fun Γ => more3_ok) Try.func9 rfl Try.call9 (by simp) ?_
 rintro ⟨P, N, w0, X, β0, fx, y, hy, pk, df⟩ rfl rfl rfl hoff rfl; change y.on = false at hoff
 skip
 refine .inl ⟨_, jsane_spec, ?_⟩
 skip
 refine .inl ⟨_, p1, ?_⟩
 repeat' ((try conv => whnf); first|refine aq rfl ?_|fail)
 refine .inl ⟨_, pf, ?_⟩
 repeat' ((try conv => whnf); first|(first|refine k3 ?_ ?_|refine k4 ?_ ?_) <;> intro hb <;> (try rw [lM] at hb) <;> try (exfalso; omega)|refine k5 (fun hb => ?_) fun hb => ?_|fail)
 · exact PSub.val_bool rfl
 · exact PSub.val_bool rfl
 rotate_left
 · exact PSub.val_bool rfl
 have hy0n : y0 ≠ 0 := fun h => by subst h; exact absurd rfl ‹¬ ((0 : UInt8).toNat : Int) = 0›
 refine .inl ⟨_, po, ?_⟩
 repeat' ((try conv => whnf); first|refine aq rfl ?_|fail)
 refine Wp.loop (fun k : Nat => ⟨[(1, .int n), (2, .int m), (3, .pure (.val (.int .u8 y0.toNat))), (9, .loc 9 0 0), (11, .loc 11 0 0), (13, .lsl 300 0 k), (60, .pure (encS a)), (61, .int a.length), (62, .int k)],
   [(9, some (.box [.pure (encS d40.sectors), .pure (encWs d40.pending), .int d40.left, .bool d40.stopped])), (11, some (.box [.pure (encS (a.take k)), .int 40, .int 0])), (300, some (.row 1 ((endsL a k).map fun e => [.int (e : Nat)])))], [9, 11, 300]⟩)
   (fun k => k ≤ a.length ∧ occN (a.take k) ≤ 40) (fun k => a.length - k) 0 (Le.trans (Le.virt (k := 300) (sz := 1) rfl rfl (by omega)) (Le.of ?_ ?_ rfl rfl rfl)) ⟨by omega, by rw [List.take_zero]; exact occN_nil⟩ ?_
 · (repeat' (first|exact trivial|refine aq ?_ ?_|exact oq|exact l1 bd|exact l6 rfl|fail))
 · simp only [List.take_zero, endsL_zero, List.map_nil]
   (repeat' (first|exact trivial|exact rfl|refine aq ?_ ?_|refine Exists.intro _ (aq rfl ?_)|exact oq|fail))
 rintro k ⟨hk, hok⟩
 have hlk : (a.take k).length = k := by simp; omega
 have hel := endsL_len a k
 have hlt : lensN (a.take k) ≤ 4520 := by have := lens_occ (a.take k); omega
 have hk45 : k ≤ 4520 := by have := lensN_len (a.take k); omega
 by_cases hk2 : k < a.length
 · have hb := ha.hb _ (List.getElem_mem hk2)
   have hat := occN_take a hk2
   have hrec : a.take (k + 1) = a.take k ++ [a[k]] := List.take_succ_eq_append_getElem hk2
   have q := append_spec ⟨a.take k, 40, 0⟩ a[k] (by dsimp only; omega) (by omega)
   rcases append_cases ⟨a.take k, 40, 0⟩ a[k] with ⟨u1, u2, _, u4⟩ | ⟨u1, u2, u3⟩
   · obtain ⟨A, hA⟩ : ∃ A, A = (⟨a.take k, 40, 0⟩ : Jour).append a[k] := ⟨_, rfl⟩
     rw [← hA] at q u1 u2
     obtain ⟨A1, A2⟩ := A
     dsimp only at u1 u2 u4
     subst u1 u2
     clear hA
     rw [← hrec] at q
     have hpc : piecesN (a[k]'hk2).length = max 1 (((a[k]'hk2).length + 111) / 112) := by unfold piecesN; omega
     have hsucc := endsL_succ a k
     refine code_sound (more := more3 false _ _) more3_ok FOK.wide _ ?_
     repeat' ((try conv => whnf); first|(first|refine k3 ?_ ?_|refine k4 ?_ ?_) <;> intro hb <;> (try rw [lM] at hb) <;> try (exfalso; omega)|refine s5 nm nm ?_|fail)
     refine .inl ⟨_, q, ?_⟩
     repeat' ((try conv => whnf); first|refine aq rfl ?_|refine s4 nm ?_|refine aq bd ?_|fail)
     refine ⟨_, show _ = ((((a[k]'hk2).length + 111) / 112 : Nat) : Int) by rw [List.length_map, Int.tdiv_eq_ediv_of_nonneg (by omega), IntKind.wrap_i64]; omega, ?_⟩
     repeat' ((try conv => whnf); first|(first|refine k3 ?_ ?_|refine k4 ?_ ?_) <;> intro hb <;> (try rw [lM] at hb) <;> try (exfalso; omega)|refine s4 nm ?_|refine aq bd ?_|refine ⟨_, _, getMapN nm, rfl, ?_⟩|fail)
     rotate_left
     · have hk0 : k = 0 := by omega
       have h00 : occN (a.take k) = 0 := by rw [hk0, List.take_zero]; exact occN_z
       refine ⟨k + 1, Le.map [(300, 94)] ?_ ?_ rfl rfl rfl rfl, ⟨by omega, by omega⟩, by omega⟩
       · (repeat' (first|exact trivial|refine aq ?_ ?_|exact oq|exact SubA.lsl ls|fail))
       · (repeat' (first|exact trivial|refine aq ?_ ?_|refine Exists.intro _ (aq rfl ?_)|exact oq|fail))
         all_goals (refine rowEq ?_; rw [hsucc, List.map_append]; simp only [List.map_cons, List.map_nil]; rw [show ((occN (a.take (k + 1)) : Nat) : Int) = max 1 (((a[k].length + 111) / 112 : Nat) : Int) by omega]; rfl)
     · refine ⟨((occN (a.take (k + 1)) : Nat) : Int), ?_, ?_⟩
       · rw [endsL_get, IntKind.wrap_i64, show 0 + ((k : Int) - 1).toNat + 1 = k by omega]
         omega
       repeat' ((try conv => whnf); first|refine s4 nm ?_|refine aq bd ?_|fail)
       refine ⟨k + 1, Le.map [(300, 94)] ?_ ?_ rfl rfl rfl rfl, ⟨by omega, by omega⟩, by omega⟩
       · (repeat' (first|exact trivial|refine aq ?_ ?_|exact oq|exact SubA.lsl ls|fail))
       · (repeat' (first|exact trivial|refine aq ?_ ?_|refine Exists.intro _ (aq rfl ?_)|exact oq|fail))
         all_goals (refine rowEq ?_; rw [hsucc, List.map_append]; rfl)
   · obtain ⟨A, hA⟩ : ∃ A, A = (⟨a.take k, 40, 0⟩ : Jour).append a[k] := ⟨_, rfl⟩
     rw [← hA] at q u1
     obtain ⟨A1, A2⟩ := A
     clear hA
     refine code_sound (more := more3 false _ _) more3_ok FOK.wide _ ?_
     repeat' ((try conv => whnf); first|(first|refine k3 ?_ ?_|refine k4 ?_ ?_) <;> intro hb <;> (try rw [lM] at hb) <;> try (exfalso; omega)|refine s5 nm nm ?_|fail)
     refine .inl ⟨_, q, ?_⟩
     repeat' ((try conv => whnf); first|(first|refine k3 ?_ ?_|refine k4 ?_ ?_) <;> intro hb <;> (try rw [lM] at hb) <;> try (exfalso; omega)|refine aq rfl ?_|fail)
     have jsd := jsync_spec ⟨a.take k, 40, 0⟩ d40 (by dsimp only; omega)
     rcases hd0.sync (by omega) (j := ⟨a.take k, 40, 0⟩) (new := a.take k) (by simp) (by rw [l40]; rfl) rfl (by rw [l40]; exact hok) with ⟨c, G, t1, t2, t3, t4, t5⟩ | ⟨h, _⟩
     rotate_left
     · exact absurd rfl h
     rw [t1] at jsd
     dsimp only at jsd
     rw [List.nil_append] at t3
     rw [l40] at t2
     refine .inl ⟨_, jsd, ?_⟩
     by_cases hk0 : k = 0
     · repeat' ((try conv => whnf); first|(first|refine k3 ?_ ?_|refine k4 ?_ ?_) <;> intro hb <;> (try rw [lM] at hb) <;> try (exfalso; omega)|refine aq rfl ?_|fail)
       all_goals (exact PSub.val_bool rfl)
     have hpos : 1 ≤ occN (a.take k) := by
       have h1 : a.take k = a.take (k - 1 + 1) := by rw [show k - 1 + 1 = k by omega]
       rw [h1, occN_take a (show k - 1 < a.length by omega)]
       have := pieces_pos (a[k - 1]'(by omega)).length
       omega
     obtain ⟨un, hun⟩ : ∃ un : Nat, n % 18446744073709551616 = un := ⟨(n % 18446744073709551616).toNat, by omega⟩
     obtain ⟨um, hum⟩ : ∃ um : Nat, m % 18446744073709551616 = um := ⟨(m % 18446744073709551616).toNat, by omega⟩
     obtain ⟨K, hK⟩ : ∃ K, K = un % occN (a.take k) := ⟨_, rfl⟩
     have hKlt : K < occN (a.take k) := by rw [hK]; exact Nat.mod_lt _ (by omega)
     obtain ⟨I, hI⟩ : ∃ I, I = um % 128 := ⟨_, rfl⟩
     have hIlt : I < 128 := by rw [hI]; exact Nat.mod_lt _ (by omega)
     have hKs : K < c.sectors.length := by omega
     obtain ⟨hK2, hK3, hK4⟩ := damage_plain (k := K) t3 (t5 rfl) hKlt hIlt (x := (c.sectors[K]'hKs).getD I 0 ^^^ y0)
     obtain ⟨c1, c2, jj, w1, w2, w3, w4, w5, w6⟩ := hK4 (xor_ne hy0n)
     have pw := write_spec c (K : Int) ((c.sectors[K]'hKs).set I ((c.sectors[K]'hKs).getD I 0 ^^^ y0))
     rw [w1] at pw
     have psy := sync_spec c1
     rw [w2] at psy
     have pop := open_spec c2
     rw [w3, t2] at pop
     try dsimp only at pw
     try dsimp only at psy
     try dsimp only at pop
     have e0 : 0 + ((I : Nat) : Int).toNat = I := by omega
     have hjt : (a.take k).take jj = a.take jj := by rw [List.take_take, Nat.min_eq_left (by omega)]
     have qrj := sameRecords_spec (a.take jj) (a.take jj) (by have := lensN_len ((a.take k).take jj); have := lensN_take (a.take k) jj; rw [hjt] at *; omega)
     rw [beq_self_eq_true] at qrj
     rw [hjt] at pop w5
     rw [show (a.take k).take (jj + 1) = a.take (jj + 1) by rw [List.take_take, Nat.min_eq_left (by omega)]] at w6
     rw [hlk] at w4
     repeat' ((try conv => whnf); first|(first|refine k3 ?_ ?_|refine k4 ?_ ?_) <;> intro hb <;> (try rw [lM] at hb) <;> try (exfalso; omega)|refine aq rfl ?_|fail)
     refine ⟨(un : Int), by rw [wrap_u64]; exact hun, ?_⟩
     repeat' ((try conv => whnf); first|refine s4 nm ?_|refine aq bd ?_|refine ⟨_, _, getMapN nm, rfl, ?_⟩|fail)
     refine ⟨((occN (a.take k) : Nat) : Int), ?_, ?_⟩
     · rw [endsL_get, wrap_u64, show 0 + ((k : Int) - 1).toNat + 1 = k by omega]
       omega
     repeat' ((try conv => whnf); first|refine aq bd ?_|fail)
     refine ⟨(K : Int), by rw [hK]; exact tmN2 _ _, ?_⟩
     repeat' ((try conv => whnf); first|(first|refine k3 ?_ ?_|refine k4 ?_ ?_) <;> intro hb <;> (try rw [lM] at hb) <;> try (exfalso; omega)|refine aq rfl ?_|refine s4 nm ?_|refine s5 nm nm ?_|refine aq bd ?_|fail)
     all_goals first
       | (exfalso; dsimp only at hb; omega)
       | (exfalso; dsimp only at hb; rw [List.length_map] at hb; omega)
       | skip
     refine ⟨(um : Int), by rw [wrap_u64]; exact hum, ?_⟩
     repeat' ((try conv => whnf); first|refine aq bd ?_|fail)
     refine ⟨(I : Int), by rw [hI]; exact tmN2 _ 128, ?_⟩
     dsimp only
     repeat' ((try conv => whnf); first|refine aq bd ?_|refine ⟨_, _, getMapN nm, rfl, ?_⟩|fail)
     refine ⟨_, xor_u8 _ _, ?_⟩
     repeat' ((try conv => whnf); first|refine aq rfl ?_|refine aq bd ?_|refine ⟨_, set_map _ _ _, ?_⟩|fail)
     refine .inl ⟨_, pw.args ⟨PSub.refl _, PSub.refl _, sub_sl (by simp only [e0, get_at]; exact List.take_of_length_le (by simp)), trivial⟩, ?_⟩
     repeat' ((try conv => whnf); first|refine aq rfl ?_|fail)
     refine .inl ⟨_, psy, ?_⟩
     repeat' ((try conv => whnf); first|refine aq rfl ?_|fail)
     refine .inl ⟨_, pop, ?_⟩
     repeat' ((try conv => whnf); first|refine aq rfl ?_|fail)
     refine Wp.loop (fun q : Nat => ⟨[(11, .loc 11 0 0), (13, .lsl 300 0 k), (21, .int 0), (22, .int K), (24, .int 0), (25, .loc 25 0 0), (26, .int 0), (27, .int q)],
         [(11, some (.box [.pure (encS (a.take k)), .int 40, .int 0])), (25, some (.box [.pure (encS (a.take jj)), .int 40, .int jj])), (300, some (.row 1 ((endsL a k).map fun e => [.int (e : Nat)])))], [11, 25, 300]⟩)
         (fun q => q ≤ jj) (fun q => jj - q) 0 (Le.of ?_ ?_ rfl rfl rfl) (by omega) ?_
     · (repeat' (first|exact trivial|refine aq ?_ ?_|exact oq|fail))
     · (repeat' (first|exact trivial|exact rfl|refine aq ?_ ?_|refine Exists.intro _ (aq rfl ?_)|exact oq|fail))
     intro q hq
     have hmono := occN_take_mono a (show q + 1 ≤ jj + 1 by omega)
     by_cases hqj : q < jj
     · have hmono2 := occN_take_mono a (show q + 1 ≤ jj by omega)
       refine code_sound (more := more3 false _ _) more3_ok FOK.wide _ ?_
       repeat' ((try conv => whnf); first|(first|refine k3 ?_ ?_|refine k4 ?_ ?_) <;> intro hb <;> (try rw [lM] at hb) <;> try (exfalso; omega)|refine s4 nm ?_|refine aq bd ?_|refine ⟨_, _, getMapN nm, rfl, ?_⟩|fail)
       · exact ⟨q + 1, Le.of (by (repeat' (first|exact trivial|refine aq ?_ ?_|exact oq|fail))) (by (repeat' (first|exact trivial|exact rfl|refine aq ?_ ?_|refine Exists.intro _ (aq rfl ?_)|exact oq|fail))) rfl rfl rfl, by omega, by omega⟩
       · exfalso
         rw [endsL_get, show 0 + ((q : Nat) : Int).toNat + 1 = q + 1 by omega] at hb
         omega
     · have eq : q = jj := by omega
       subst eq
       refine code_sound (more := more3 false _ _) more3_ok FOK.wide _ ?_
       repeat' ((try conv => whnf); first|(first|refine k3 ?_ ?_|refine k4 ?_ ?_) <;> intro hb <;> (try rw [lM] at hb) <;> try (exfalso; omega)|refine s4 nm ?_|refine aq bd ?_|refine ⟨_, _, getMapN nm, rfl, ?_⟩|fail)
       · exfalso
         rw [endsL_get, show 0 + ((q : Nat) : Int).toNat + 1 = q + 1 by omega] at hb
         omega
       · refine Wp.draw (more := more3 true _ _) more3_det more3_ok FOK.wide rfl (by decide +kernel) (by conv => lhs; reduce) ?_
         repeat' ((try conv => whnf); first|refine aq bd ?_|fail)
         refine ⟨_, qrj.args ⟨PSub.refl _, sub_sl (by simp only [cut, Int.toNat_natCast, List.drop_zero, Nat.sub_zero, ← List.map_take, hjt]), trivial⟩, ?_⟩
         skip
         exact PSub.refl _
 · have ek : k = a.length := by omega
   refine code_sound (more := more3 false _ _) more3_ok FOK.wide _ ?_
   repeat' ((try conv => whnf); first|(first|refine k3 ?_ ?_|refine k4 ?_ ?_) <;> intro hb <;> (try rw [lM] at hb) <;> try (exfalso; omega)|fail)
   have jsd := jsync_spec ⟨a.take k, 40, 0⟩ d40 (by dsimp only; omega)
   rcases hd0.sync (by omega) (j := ⟨a.take k, 40, 0⟩) (new := a.take k) (by simp) (by rw [l40]; rfl) rfl (by rw [l40]; exact hok) with ⟨c, G, t1, t2, t3, t4, t5⟩ | ⟨h, _⟩
   rotate_left
   · exact absurd rfl h
   rw [t1] at jsd
   dsimp only at jsd
   rw [List.nil_append] at t3
   rw [l40] at t2
   refine .inl ⟨_, jsd, ?_⟩
   by_cases hk0 : k = 0
   · repeat' ((try conv => whnf); first|(first|refine k3 ?_ ?_|refine k4 ?_ ?_) <;> intro hb <;> (try rw [lM] at hb) <;> try (exfalso; omega)|refine aq rfl ?_|fail)
     all_goals (exact PSub.val_bool rfl)
   have hpos : 1 ≤ occN (a.take k) := by
     have h1 : a.take k = a.take (k - 1 + 1) := by rw [show k - 1 + 1 = k by omega]
     rw [h1, occN_take a (show k - 1 < a.length by omega)]
     have := pieces_pos (a[k - 1]'(by omega)).length
     omega
   obtain ⟨un, hun⟩ : ∃ un : Nat, n % 18446744073709551616 = un := ⟨(n % 18446744073709551616).toNat, by omega⟩
   obtain ⟨um, hum⟩ : ∃ um : Nat, m % 18446744073709551616 = um := ⟨(m % 18446744073709551616).toNat, by omega⟩
   obtain ⟨K, hK⟩ : ∃ K, K = un % occN (a.take k) := ⟨_, rfl⟩
   have hKlt : K < occN (a.take k) := by rw [hK]; exact Nat.mod_lt _ (by omega)
   obtain ⟨I, hI⟩ : ∃ I, I = um % 128 := ⟨_, rfl⟩
   have hIlt : I < 128 := by rw [hI]; exact Nat.mod_lt _ (by omega)
   have hKs : K < c.sectors.length := by omega
   obtain ⟨hK2, hK3, hK4⟩ := damage_plain (k := K) t3 (t5 rfl) hKlt hIlt (x := (c.sectors[K]'hKs).getD I 0 ^^^ y0)
   obtain ⟨c1, c2, jj, w1, w2, w3, w4, w5, w6⟩ := hK4 (xor_ne hy0n)
   have pw := write_spec c (K : Int) ((c.sectors[K]'hKs).set I ((c.sectors[K]'hKs).getD I 0 ^^^ y0))
   rw [w1] at pw
   have psy := sync_spec c1
   rw [w2] at psy
   have pop := open_spec c2
   rw [w3, t2] at pop
   try dsimp only at pw
   try dsimp only at psy
   try dsimp only at pop
   have e0 : 0 + ((I : Nat) : Int).toNat = I := by omega
   have hjt : (a.take k).take jj = a.take jj := by rw [List.take_take, Nat.min_eq_left (by omega)]
   have qrj := sameRecords_spec (a.take jj) (a.take jj) (by have := lensN_len ((a.take k).take jj); have := lensN_take (a.take k) jj; rw [hjt] at *; omega)
   rw [beq_self_eq_true] at qrj
   rw [hjt] at pop w5
   rw [show (a.take k).take (jj + 1) = a.take (jj + 1) by rw [List.take_take, Nat.min_eq_left (by omega)]] at w6
   rw [hlk] at w4
   repeat' ((try conv => whnf); first|(first|refine k3 ?_ ?_|refine k4 ?_ ?_) <;> intro hb <;> (try rw [lM] at hb) <;> try (exfalso; omega)|refine aq rfl ?_|fail)
   refine ⟨(un : Int), by rw [wrap_u64]; exact hun, ?_⟩
   repeat' ((try conv => whnf); first|refine s4 nm ?_|refine aq bd ?_|refine ⟨_, _, getMapN nm, rfl, ?_⟩|fail)
   refine ⟨((occN (a.take k) : Nat) : Int), ?_, ?_⟩
   · rw [endsL_get, wrap_u64, show 0 + ((k : Int) - 1).toNat + 1 = k by omega]
     omega
   repeat' ((try conv => whnf); first|refine aq bd ?_|fail)
   refine ⟨(K : Int), by rw [hK]; exact tmN2 _ _, ?_⟩
   repeat' ((try conv => whnf); first|(first|refine k3 ?_ ?_|refine k4 ?_ ?_) <;> intro hb <;> (try rw [lM] at hb) <;> try (exfalso; omega)|refine aq rfl ?_|refine s4 nm ?_|refine s5 nm nm ?_|refine aq bd ?_|fail)
   all_goals first
     | (exfalso; dsimp only at hb; omega)
     | (exfalso; dsimp only at hb; rw [List.length_map] at hb; omega)
     | skip
   refine ⟨(um : Int), by rw [wrap_u64]; exact hum, ?_⟩
   repeat' ((try conv => whnf); first|refine aq bd ?_|fail)
   refine ⟨(I : Int), by rw [hI]; exact tmN2 _ 128, ?_⟩
   dsimp only
   repeat' ((try conv => whnf); first|refine aq bd ?_|refine ⟨_, _, getMapN nm, rfl, ?_⟩|fail)
   refine ⟨_, xor_u8 _ _, ?_⟩
   repeat' ((try conv => whnf); first|refine aq rfl ?_|refine aq bd ?_|refine ⟨_, set_map _ _ _, ?_⟩|fail)
   refine .inl ⟨_, pw.args ⟨PSub.refl _, PSub.refl _, sub_sl (by simp only [e0, get_at]; exact List.take_of_length_le (by simp)), trivial⟩, ?_⟩
   repeat' ((try conv => whnf); first|refine aq rfl ?_|fail)
   refine .inl ⟨_, psy, ?_⟩
   repeat' ((try conv => whnf); first|refine aq rfl ?_|fail)
   refine .inl ⟨_, pop, ?_⟩
   repeat' ((try conv => whnf); first|refine aq rfl ?_|fail)
   refine Wp.loop (fun q : Nat => ⟨[(11, .loc 11 0 0), (13, .lsl 300 0 k), (21, .int 0), (22, .int K), (24, .int 0), (25, .loc 25 0 0), (26, .int 0), (27, .int q)],
       [(11, some (.box [.pure (encS (a.take k)), .int 40, .int 0])), (25, some (.box [.pure (encS (a.take jj)), .int 40, .int jj])), (300, some (.row 1 ((endsL a k).map fun e => [.int (e : Nat)])))], [11, 25, 300]⟩)
       (fun q => q ≤ jj) (fun q => jj - q) 0 (Le.of ?_ ?_ rfl rfl rfl) (by omega) ?_
   · (repeat' (first|exact trivial|refine aq ?_ ?_|exact oq|fail))
   · (repeat' (first|exact trivial|exact rfl|refine aq ?_ ?_|refine Exists.intro _ (aq rfl ?_)|exact oq|fail))
   intro q hq
   have hmono := occN_take_mono a (show q + 1 ≤ jj + 1 by omega)
   by_cases hqj : q < jj
   · have hmono2 := occN_take_mono a (show q + 1 ≤ jj by omega)
     refine code_sound (more := more3 false _ _) more3_ok FOK.wide _ ?_
     repeat' ((try conv => whnf); first|(first|refine k3 ?_ ?_|refine k4 ?_ ?_) <;> intro hb <;> (try rw [lM] at hb) <;> try (exfalso; omega)|refine s4 nm ?_|refine aq bd ?_|refine ⟨_, _, getMapN nm, rfl, ?_⟩|fail)
     · exact ⟨q + 1, Le.of (by (repeat' (first|exact trivial|refine aq ?_ ?_|exact oq|fail))) (by (repeat' (first|exact trivial|exact rfl|refine aq ?_ ?_|refine Exists.intro _ (aq rfl ?_)|exact oq|fail))) rfl rfl rfl, by omega, by omega⟩
     · exfalso
       rw [endsL_get, show 0 + ((q : Nat) : Int).toNat + 1 = q + 1 by omega] at hb
       omega
   · have eq : q = jj := by omega
     subst eq
     refine code_sound (more := more3 false _ _) more3_ok FOK.wide _ ?_
     repeat' ((try conv => whnf); first|(first|refine k3 ?_ ?_|refine k4 ?_ ?_) <;> intro hb <;> (try rw [lM] at hb) <;> try (exfalso; omega)|refine s4 nm ?_|refine aq bd ?_|refine ⟨_, _, getMapN nm, rfl, ?_⟩|fail)
     · exfalso
       rw [endsL_get, show 0 + ((q : Nat) : Int).toNat + 1 = q + 1 by omega] at hb
       omega
     · refine Wp.draw (more := more3 true _ _) more3_det more3_ok FOK.wide rfl (by decide +kernel) (by conv => lhs; reduce) ?_
       repeat' ((try conv => whnf); first|refine aq bd ?_|fail)
       refine ⟨_, qrj.args ⟨PSub.refl _, sub_sl (by simp only [cut, Int.toNat_natCast, List.drop_zero, Nat.sub_zero, ← List.map_take, hjt]), trivial⟩, ?_⟩
       skip
       exact PSub.refl _
end Go.Proofs.Ytcgpikmaapallaa
