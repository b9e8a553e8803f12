/- Parties: every disk whose sectors have their size holds records in the form that is known. Conditions: none. -/
import Derived.Test.YtjfjpnefohbobaaGreatDoorXc
import Derived.Test.YtjfjpnefohbobaaGreatDoorWn
import Derived.Test.YtjfjpnefohbobaaGreatDoorWd
import Derived.Test.YtjfjpnefohbobaaGreatDoorWq
import Derived.Test.YtjfjpnefohbobaaGreatDoorXa
import Derived.Test.YtjfjpnefohbobaaGreatDoorWl
set_option linter.unusedSimpArgs false
set_option linter.unusedVariables false
set_option maxRecDepth 20000
set_option maxHeartbeats 4000000
namespace Go.Proofs.YtjfjpnefohbobaaGreatDoor.K
open Go.Avc
theorem take4 {l : List UInt8} {a : Nat} (h : a + 4 ≤ l.length) : (l.drop a).take 4 = [l.getD a 0, l.getD (a + 1) 0, l.getD (a + 2) 0, l.getD (a + 3) 0] := by
 rw [List.drop_eq_getElem_cons (by omega), List.drop_eq_getElem_cons (i := a + 1) (by omega), List.drop_eq_getElem_cons (i := a + 1 + 1) (by omega), List.drop_eq_getElem_cons (i := a + 1 + 1 + 1) (by omega)]
 simp only [List.take_succ_cons, List.take_zero, ← get_at l (a := a) (by omega), ← get_at l (a := a + 1) (by omega), ← get_at l (a := a + 2) (by omega), ← get_at l (a := a + 3) (by omega)]
theorem ofNat_of {n : Nat} {b : UInt8} (h : n % 256 = b.toNat) : UInt8.ofNat n = b := by
 apply UInt8.toNat_inj.1
 rw [UInt8.toNat_ofNat']
 exact h
theorem n4_four (s : List UInt8) (a : Nat) : n4 (four s a) = [s.getD a 0, s.getD (a + 1) 0, s.getD (a + 2) 0, s.getD (a + 3) 0] := by
 have h0 := UInt8.toNat_lt (s.getD a 0)
 have h1 := UInt8.toNat_lt (s.getD (a + 1) 0)
 have h2 := UInt8.toNat_lt (s.getD (a + 2) 0)
 have h3 := UInt8.toNat_lt (s.getD (a + 3) 0)
 unfold n4 four
 rw [ofNat_of (b := s.getD a 0) (by simp only [Nat.reducePow]; omega), ofNat_of (b := s.getD (a + 1) 0) (by simp only [Nat.reducePow]; omega), ofNat_of (b := s.getD (a + 2) 0) (by simp only [Nat.reducePow]; omega), ofNat_of (b := s.getD (a + 3) 0) (by simp only [Nat.pow_zero, Nat.div_one]; omega)]
theorem kind_of {x : UInt8} (h : x.toNat ≤ 3) : kindB (!decide (((x &&& 1).toNat : Int) = 0)) (!decide (((x &&& 2).toNat : Int) = 0)) = x := by
 have : x = 0 ∨ x = 1 ∨ x = 2 ∨ x = 3 := by
   have : x.toNat = 0 ∨ x.toNat = 1 ∨ x.toNat = 2 ∨ x.toNat = 3 := by omega
   rcases this with h | h | h | h
   · exact .inl (UInt8.toNat_inj.1 h)
   · exact .inr (.inl (UInt8.toNat_inj.1 h))
   · exact .inr (.inr (.inl (UInt8.toNat_inj.1 h)))
   · exact .inr (.inr (.inr (UInt8.toNat_inj.1 h)))
 rcases this with rfl | rfl | rfl | rfl <;> decide
theorem zeros_of {l : List UInt8} (h : ∀ b ∈ l, b = 0) : l = List.replicate l.length 0 := List.eq_replicate_iff.2 ⟨rfl, h⟩
theorem data_len {s : List UInt8} (hl : s.length = 128) (h : sizeF s ≤ 112) : (dataF s).length = sizeF s := by unfold dataF; rw [List.length_take, List.length_drop]; omega
theorem good_sec {s : List UInt8} {k : Nat} (hl : s.length = 128) (h : GoodP s k) : s = secOf (four s 0) k (hasF s 1) (hasF s 2) (dataF s) := by
 obtain ⟨h1, h2, h3, h4, h5, h6, h7, h8, h9⟩ := h
 have hd := data_len hl h5
 rw [secOf_eq _ _ _ _ _ (by omega)]
 have hb : body s = bodyOf k (hasF s 1) (hasF s 2) (dataF s) := by
   have e0 : body s = (s.drop 8).take 4 ++ ((s.drop 12).take (sizeF s) ++ (s.drop (12 + sizeF s)).take (112 - sizeF s)) := by
     unfold body
     rw [show 116 = 4 + (sizeF s + (112 - sizeF s)) by omega, List.take_add, List.drop_drop, List.take_add, List.drop_drop]
   have n8 := UInt8.toNat_lt (s.getD 8 0)
   have n9 := UInt8.toNat_lt (s.getD 9 0)
   unfold numF at h3
   have e1 := zeros_of h8
   rw [List.length_take, List.length_drop, Nat.min_eq_left (by omega)] at e1
   rw [e0, take4 (by omega), e1]
   unfold bodyOf
   rw [hd, ofNat_of (n := k / 256) (b := s.getD 8 0) (by omega), ofNat_of (n := k) (b := s.getD 9 0) (by omega), ofNat_of (n := sizeF s) (b := s.getD 11 0) (by unfold sizeF; have := UInt8.toNat_lt (s.getD 11 0); omega)]
   have e2 : kindB (hasF s 1) (hasF s 2) = s.getD 10 0 := kind_of h4
   rw [e2, List.append_assoc]
   rfl
 rw [← hb, ← h9, n4_four, n4_four]
 have a1 := take4 (l := s) (a := 0) (by omega)
 have a2 := take4 (l := s) (a := 4) (by omega)
 have a3 := take4 (l := s) (a := 124) (by omega)
 have e3 : [s.getD 0 0, s.getD (0 + 1) 0, s.getD (0 + 2) 0, s.getD (0 + 3) 0] = (s.drop 124).take 4 := by rw [a3, ← n4_four, ← n4_four, h2]
 rw [List.take_of_length_le (by rw [List.length_drop]; omega)] at e3
 conv => rhs; rw [← a2]
 have e4 : s = s.take 4 ++ ((s.drop 4).take 4 ++ ((s.drop 8).take 116 ++ s.drop 124)) := by
   rw [← List.drop_drop (i := 116) (j := 8), List.take_append_drop, ← List.drop_drop (i := 4) (j := 4), List.take_append_drop, List.take_append_drop]
 rw [List.drop_zero] at a1
 conv => lhs; rw [e4, a1]
 unfold body
 rw [← e3]
theorem good_size {s : List UInt8} {k : Int} (h : GoodP s k) : sizeF s ≤ 112 ∧ (hasF s 2 = false → sizeF s = 112) ∧ (hasF s 1 = false → 1 ≤ sizeF s) := ⟨h.2.2.2.2.1, h.2.2.2.2.2.1, h.2.2.2.2.2.2.1⟩
theorem cont_form {g first : Nat} : ∀ (rest : List (List UInt8)) (s acc : List UInt8) (i : Nat) (B : List UInt8) (k' : Nat) (r : List (List UInt8)), s.length = 128 → (∀ x ∈ rest, x.length = 128) → GoodP s (first + i : Nat) → four s 0 = g → hasF s 1 = (i == 0) → acc.length = 112 * i →
   contL g (first + i) s (acc ++ dataF s) rest = some (B, k', r) → (∃ c, B = (acc ++ dataF s) ++ c) ∧ i < piecesN B.length ∧ k' + 1 = first + piecesN B.length ∧ s :: rest = (encodeL B first g).drop i ++ r := by
 have fin : ∀ (rest : List (List UInt8)) (s acc : List UInt8) (i : Nat), s.length = 128 → GoodP s (first + i : Nat) → four s 0 = g → hasF s 1 = (i == 0) → hasF s 2 = true → acc.length = 112 * i →
     i + 1 = piecesN (acc ++ dataF s).length ∧ s :: rest = (encodeL (acc ++ dataF s) first g).drop i ++ rest := by
   intro rest s acc i hl hg hf h1 h2 ha
   obtain ⟨z1, z2, z3⟩ := good_size hg
   have hd := data_len hl z1
   have hp : i + 1 = piecesN (acc ++ dataF s).length := by
     unfold piecesN
     rw [List.length_append, ha, hd]
     by_cases h0 : i = 0
     · subst h0; omega
     · have := z3 (by rw [h1]; simp [h0]); omega
   refine ⟨hp, ?_⟩
   have e := encodeL_drop (acc ++ dataF s) first g i (by omega)
   rw [e, List.drop_eq_nil_of_le (by rw [encodeL_len]; omega)]
   have e2 : secE (acc ++ dataF s) first g i = s := by
     have e3 : partOf (acc ++ dataF s) i = dataF s := by
       unfold partOf
       rw [← ha, List.drop_left' rfl, List.take_of_length_le (by omega)]
     unfold secE
     rw [e3, ← hp, beq_self_eq_true]
     conv => rhs; rw [good_sec hl hg, hf, h1, h2]
   rw [e2]
   rfl
 intro rest
 induction rest with
 | nil =>
   intro s acc i B k' r hl _ hg hf h1 ha hc
   unfold contL at hc
   split at hc
   · rename_i h2
     simp only [Option.some.injEq, Prod.mk.injEq] at hc
     obtain ⟨rfl, rfl, rfl⟩ := hc
     obtain ⟨hp, he⟩ := fin [] s acc i hl hg hf h1 h2 ha
     exact ⟨⟨[], by simp⟩, by omega, by omega, he⟩
   · cases hc
 | cons s' rest ih =>
   intro s acc i B k' r hl hr hg hf h1 ha hc
   unfold contL at hc
   split at hc
   · rename_i h2
     simp only [Option.some.injEq, Prod.mk.injEq] at hc
     obtain ⟨rfl, rfl, rfl⟩ := hc
     obtain ⟨hp, he⟩ := fin (s' :: rest) s acc i hl hg hf h1 h2 ha
     exact ⟨⟨[], by simp⟩, by omega, by omega, he⟩
   · rename_i h2
     split at hc
     · rename_i h3
       obtain ⟨hg', h1', hf'⟩ := h3
       obtain ⟨z1, z2, z3⟩ := good_size hg
       have hd := data_len hl z1
       have hz := z2 (by simpa using h2)
       obtain ⟨⟨c, hB⟩, hi, hk, he⟩ := ih s' (acc ++ dataF s) (i + 1) B k' r (hr s' (.head _)) (fun x hx => hr x (List.mem_cons_of_mem _ hx)) hg' hf' (by rw [h1']; rfl) (by rw [List.length_append, ha, hd, hz]; omega) hc
       refine ⟨⟨dataF s' ++ c, by rw [hB]; simp⟩, by omega, hk, ?_⟩
       have e := encodeL_drop B first g i (by omega)
       rw [e, List.cons_append, ← he]
       have e2 : secE B first g i = s := by
         have e3 : partOf B i = dataF s := by
           unfold partOf
           rw [hB]
           simp only [List.append_assoc]
           rw [← ha, List.drop_left' rfl, List.take_append_of_le_length (by omega), List.take_of_length_le (by omega)]
         unfold secE
         rw [e3, show (i + 1 == piecesN B.length) = false by simp; omega]
         conv => rhs; rw [good_sec hl hg, hf, h1, show hasF s 2 = false by simpa using h2]
       rw [e2]
     · cases hc
theorem recsL_form : ∀ (f gen k : Nat) (l : List (List UInt8)), (∀ s ∈ l, s.length = 128) → 0 < gen → l.length ≤ f →
   ∃ R tail, l = lay k R ++ tail ∧ recsL f gen k l = R.map (·.1) ∧ genOK gen R ∧ Stop (lastG gen R) (k + occR R) tail
 | 0, gen, k, l, _, _, hf => by
   have : l = [] := List.eq_nil_of_length_eq_zero (by omega)
   subst this
   exact ⟨[], [], rfl, rfl, trivial, stop_nil _ _⟩
 | f + 1, gen, k, [], _, _, _ => ⟨[], [], rfl, rfl, trivial, stop_nil _ _⟩
 | f + 1, gen, k, s :: rest, h128, hgen, hf => by
   by_cases hc : GoodP s k ∧ hasF s 1 = true ∧ gen ≤ four s 0
   · cases hct : contL (four s 0) k s (dataF s) rest with
     | none =>
       refine ⟨[], s :: rest, rfl, by rw [recsL, if_pos hc, hct]; rfl, trivial, fun f' => ?_⟩
       cases f' with
       | zero => rfl
       | succ f' => simp only [lastG, occR, occN, List.map_nil, List.sum_nil, Nat.add_zero]; rw [recsL, if_pos hc, hct]
     | some x =>
       obtain ⟨B, k', r⟩ := x
       have hform := cont_form (g := four s 0) (first := k) rest s [] 0 B k' r (h128 s (.head _)) (fun x hx => h128 x (List.mem_cons_of_mem _ hx)) hc.1 rfl (by rw [hc.2.1]; rfl) rfl (by simpa using hct)
       obtain ⟨_, hp, hk, he⟩ := hform
       rw [List.drop_zero] at he
       have hlen := congrArg List.length he
       rw [List.length_append, encodeL_len, List.length_cons] at hlen
       obtain ⟨R, tail, e1, e2, e3, e4⟩ := recsL_form f (four s 0) (k' + 1) r (fun x hx => h128 x (by rw [he]; exact List.mem_append_right _ hx)) (by omega) (by simp only [List.length_cons] at hf; omega)
       refine ⟨(B, four s 0) :: R, tail, ?_, ?_, ⟨hc.2.2, four_lt s 0, e3⟩, ?_⟩
       · rw [he, lay, List.append_assoc, ← hk, ← e1]
       · rw [recsL, if_pos hc, hct]; simp only; rw [e2]; rfl
       · rw [lastG, occR_cons, ← Nat.add_assoc, ← hk]; exact e4
   · exact ⟨[], s :: rest, rfl, by rw [recsL, if_neg hc]; rfl, trivial, stop_bad hc⟩
theorem last_le {G : Nat} : ∀ (R : List (List UInt8 × Nat)) (gen k : Nat), genOK gen R → (∀ s ∈ lay k R, four s 0 ≤ G) → R ≠ [] → lastG gen R ≤ G
 | [], _, _, _, _, h => absurd rfl h
 | [(b, g)], _, k, hg, h, _ => by
   have e := encodeL_drop b k g 0 (pieces_pos _)
   rw [List.drop_zero] at e
   have := h (secE b k g 0) (by rw [lay, e]; exact List.mem_append_left _ (.head _))
   rwa [secE_four b k g 0 hg.2.1] at this
 | (b, g) :: y :: R, _, k, hg, h, _ => last_le (y :: R) g (k + piecesN b.length) hg.2.2 (fun s hs => h s (by rw [lay]; exact List.mem_append_right _ hs)) (by simp)
theorem Inv.of {ss : List (List UInt8)} (h : ∀ s ∈ ss, s.length = 128) (hl : ss.length ≤ 4096) : ∃ R, Inv ss R (greatL ss) ∧ R.map (·.1) = Go.Proofs.YtjfjpnefohbobaaGreatDoor.K.recs ss := by
 obtain ⟨R, tail, e1, e2, e3, e4⟩ := recsL_form ss.length 1 0 ss h (by omega) (Nat.le_refl _)
 rw [Nat.zero_add] at e4
 have hlen := congrArg List.length e1
 rw [List.length_append, lay_len] at hlen
 refine ⟨R, ⟨h, e3, ?_, rfl, by omega, tail, e1, e4⟩, e2.symm⟩
 by_cases hR : R = []
 · subst hR; show 1 ≤ _; omega
 · have := last_le (G := greatL ss) R 1 0 e3 (fun s hs => (greatL_ge (by rw [e1]; exact List.mem_append_left _ hs)).1) hR
   omega
end Go.Proofs.YtjfjpnefohbobaaGreatDoor.K
/- Parties: what they are, and what happens to them. Conditions: none. -/
namespace Go.Proofs.YtjfjpnefohbobaaGreatDoor
open Go.Avc
structure Party where
 kind : Int
 id : Int
 seed : List UInt8
 disk : K.Disk
 jour : K.Jour
 log : List Rec
def dc (d : List UInt8) (l : List PV) : List PV := bv d 0 :: bv d 1 :: bv d 2 :: bv d 3 :: bv d 4 :: bv d 5 :: bv d 6 :: bv d 7 :: bv d 8 :: bv d 9 :: bv d 10 :: bv d 11 :: bv d 12 :: bv d 13 :: bv d 14 :: bv d 15 :: bv d 16 :: bv d 17 :: bv d 18 :: bv d 19 :: bv d 20 :: bv d 21 :: bv d 22 :: bv d 23 :: bv d 24 :: bv d 25 :: bv d 26 :: bv d 27 :: bv d 28 :: bv d 29 :: bv d 30 :: bv d 31 :: l
def diskC (d : K.Disk) : List PV := [K.encS d.sectors, K.encWs d.pending, .int d.left, .bool d.stopped]
def jourC (j : K.Jour) : List PV := [K.encS j.records, .int j.many, .int j.synced]
def encP (p : Party) : List PV := .int p.kind :: .int p.id :: dc p.seed [K.encS p.disk.sectors, K.encWs p.disk.pending, .int p.disk.left, .bool p.disk.stopped, K.encS p.jour.records, .int p.jour.many, .int p.jour.synced, encRs p.log]
def encPE (r : Party × Int) : PV := .tup [.agg (encP r.1), .int r.2]
def zeroP : Party := ⟨0, 0, z32, K.zeroD, K.zeroJ, []⟩
def Party.formed (p : Party) : Prop := (1 ≤ p.kind ∧ p.kind ≤ 4) ∧ (0 ≤ p.id ∧ p.id < 16) ∧ p.disk.check = 0
instance (p : Party) : Decidable p.formed := by unfold Party.formed; infer_instance
def rst (d : K.Disk) : K.Disk := ⟨d.sectors, [], -1, false⟩
def owned (id : Int) (l : List Rec) : Prop := Valid l ∧ (l.length = 0 ∨ firstP l = id)
structure Party.valid (p : Party) : Prop where
 formed : p.formed
 owned : owned p.id p.log
 good : p.jour.good
 synced : p.jour.synced = p.jour.records.length
 many : p.jour.many = p.disk.sectors.length
 written : p.jour.records = p.log.map recE
 opened : K.openJ (rst p.disk) = (p.jour, 0)
 idle : p.disk.stopped = true ∨ p.disk.pending = []
theorem rst_good {d : K.Disk} (h : d.good) : (rst d).good := ⟨h.1, h.2.1, by simp [rst], by simp [rst], by simp [rst], h.2.2.2.2.2.1, by simp [rst]⟩
theorem good_of {d : K.Disk} (h : d.check = 0) : d.good := by
 by_cases hg : d.good
 · exact hg
 · rw [K.check_bad hg] at h; exact absurd h (by decide)
def jr (d : K.Disk) : K.Jour := ⟨K.recs d.sectors, d.sectors.length, (K.recs d.sectors).length⟩
theorem open_rst {d : K.Disk} (h : d.check = 0) : K.openJ (rst d) = (jr d, 0) := by
 have hg := rst_good (good_of h)
 unfold K.openJ
 rw [if_pos (K.check_good hg), if_neg (by simp [rst]), if_neg (by simp [rst])]
 rfl
theorem open_run {d : K.Disk} (h : d.check = 0) (hs : d.stopped = false) (hp : d.pending = []) : K.openJ d = (jr d, 0) := by
 unfold K.openJ
 rw [if_pos h, if_neg (by rw [hs]; simp), if_neg (by rw [hp]; simp)]
 rfl
theorem inv_of {d : K.Disk} (h : d.check = 0) : ∃ R, K.Inv d.sectors R (K.greatL d.sectors) ∧ R.map (·.1) = K.recs d.sectors := by
 have hg := good_of h
 exact K.Inv.of hg.2.2.2.2.2.1 (by have := hg.2.1; omega)
theorem occ_le {d : K.Disk} (h : d.check = 0) : K.occN (K.recs d.sectors) ≤ d.sectors.length := by
 obtain ⟨R, hi, hR⟩ := inv_of h
 obtain ⟨tail, e, _⟩ := hi.form
 have := congrArg List.length e
 rw [List.length_append, K.lay_len] at this
 rw [← hR]
 show K.occR R ≤ _
 omega
theorem jr_good {d : K.Disk} (h : d.check = 0) : (jr d).good := by
 have hg := good_of h
 have ho := occ_le h
 have h1 := hg.1
 have h2 := hg.2.1
 exact ⟨by simp only [jr]; omega, by simp only [jr]; omega, by simp only [jr]; omega, by simp only [jr]; omega, by simp only [jr]; omega⟩
theorem rst_check {d : K.Disk} (h : d.check = 0) : (rst d).check = 0 := K.check_good (rst_good (good_of h))
theorem valid_of {p : Party} (hf : p.formed) (ho : owned p.id p.log) (hj : p.jour = jr p.disk) (hw : p.jour.records = p.log.map recE) (hi : p.disk.stopped = true ∨ p.disk.pending = []) : p.valid :=
 ⟨hf, ho, by rw [hj]; exact jr_good hf.2.2, by rw [hj]; rfl, by rw [hj]; rfl, hw, by rw [open_rst hf.2.2, hj], hi⟩
theorem Party.valid.jr {p : Party} (h : p.valid) : p.jour = jr p.disk := by
 have := h.opened
 rw [open_rst h.formed.2.2] at this
 exact (congrArg Prod.fst this).symm
open Classical in
noncomputable def Party.check (p : Party) : Int := if p.valid then 0 else 510
theorem check_valid {p : Party} (h : p.valid) : p.check = 0 := by unfold Party.check; rw [if_pos h]
theorem check_not {p : Party} (h : ¬ p.valid) : p.check = 510 := by unfold Party.check; rw [if_neg h]
open Classical in
noncomputable def decF (b : List UInt8) : Rec × Int := if h : ∃ x : Rec × Int, DecIs b x.1 x.2 then Classical.choose h else (zeroR, 0)
theorem decF_is {b : List UInt8} (hb : b.length ≤ 1000000) : DecIs b (decF b).1 (decF b).2 := by
 have h : ∃ x : Rec × Int, DecIs b x.1 x.2 := by
   obtain ⟨r, e, h⟩ := DecIs.ex b hb
   exact ⟨(r, e), h⟩
 unfold decF
 rw [dif_pos h]
 exact Classical.choose_spec h
inductive RestIs (p : Party) : Party → Int → Prop
 | form (h : ¬ p.formed) : RestIs p zeroP 510
 | dec (h : p.formed) (k : Nat) (hk : k < (jr p.disk).records.length) (hb : ∀ j (hj : j < (jr p.disk).records.length), j < k → (decF (jr p.disk).records[j]).2 = 0) (he : (decF (jr p.disk).records[k]).2 ≠ 0) : RestIs p zeroP (decF (jr p.disk).records[k]).2
 | own (h : p.formed) (ha : ∀ b ∈ (jr p.disk).records, (decF b).2 = 0) (ho : ¬ owned p.id ((jr p.disk).records.map fun b => (decF b).1)) : RestIs p zeroP 510
 | ok (h : p.formed) (ha : ∀ b ∈ (jr p.disk).records, (decF b).2 = 0) (ho : owned p.id ((jr p.disk).records.map fun b => (decF b).1)) : RestIs p ⟨p.kind, p.id, p.seed, rst p.disk, jr p.disk, (jr p.disk).records.map fun b => (decF b).1⟩ 0
theorem first_bad {α : Type} (l : List α) (f : α → Int) : ∀ n, n ≤ l.length → (∀ j (h : j < l.length), j < n → f l[j] = 0) ∨ ∃ k, ∃ h : k < l.length, (∀ j (h : j < l.length), j < k → f l[j] = 0) ∧ f l[k] ≠ 0
 | 0, _ => .inl (by intro j h hj; omega)
 | n + 1, hn => by
   rcases first_bad l f n (by omega) with h | h
   · by_cases e : f (l[n]'(by omega)) = 0
     · refine .inl fun j hj hjn => ?_
       by_cases ej : j = n
       · subst ej; exact e
       · exact h j hj (by omega)
     · exact .inr ⟨n, by omega, h, e⟩
   · exact .inr h
theorem RestIs.ex (p : Party) : ∃ q e, RestIs p q e := by
 by_cases hf : p.formed
 · rcases first_bad (jr p.disk).records (fun b => (decF b).2) _ (Nat.le_refl _) with h | ⟨k, hk, h1, h2⟩
   · have ha : ∀ b ∈ (jr p.disk).records, (decF b).2 = 0 := fun b hb => by
       obtain ⟨i, hi, rfl⟩ := List.getElem_of_mem hb
       exact h i hi hi
     by_cases ho : owned p.id ((jr p.disk).records.map fun b => (decF b).1)
     · exact ⟨_, _, .ok hf ha ho⟩
     · exact ⟨_, _, .own hf ha ho⟩
   · exact ⟨_, _, .dec hf k hk h1 h2⟩
 · exact ⟨_, _, .form hf⟩
open Classical in
noncomputable def Party.note (p : Party) (kind day : Int) (body : List UInt8) : Party × Int :=
 if p.valid then
   (if (addR p.log (mkR p.log p.id kind day body)).2 = 0 then
     (if (p.jour.append (recE (mkR p.log p.id kind day body))).2 = 0 then
       (if ((p.jour.append (recE (mkR p.log p.id kind day body))).1.sync p.disk).2.2 = 0 then (⟨p.kind, p.id, p.seed, ((p.jour.append (recE (mkR p.log p.id kind day body))).1.sync p.disk).2.1, ((p.jour.append (recE (mkR p.log p.id kind day body))).1.sync p.disk).1, (addR p.log (mkR p.log p.id kind day body)).1⟩, 0)
       else if ((p.jour.append (recE (mkR p.log p.id kind day body))).1.sync p.disk).2.2 = 470 then ((if 0 < ((p.jour.append (recE (mkR p.log p.id kind day body))).1.sync p.disk).2.1.sectors.length then { p with disk := ((p.jour.append (recE (mkR p.log p.id kind day body))).1.sync p.disk).2.1 } else p), 470)
       else (zeroP, ((p.jour.append (recE (mkR p.log p.id kind day body))).1.sync p.disk).2.2))
     else (zeroP, (p.jour.append (recE (mkR p.log p.id kind day body))).2))
   else (zeroP, (addR p.log (mkR p.log p.id kind day body)).2))
 else (zeroP, 510)
def Party.crash (p : Party) (left : Int) : Party × Int := if p.formed then (if (p.disk.stop left).2 = 0 then ({ p with disk := (p.disk.stop left).1 }, 0) else (zeroP, (p.disk.stop left).2)) else (zeroP, 510)
end Go.Proofs.YtjfjpnefohbobaaGreatDoor
/- Parties: formed, owned, open, same, written. Conditions: none. -/
namespace Go.Proofs.YtjfjpnefohbobaaGreatDoor
open Go.Avc
open Classical in
noncomputable def ownedB (id : Int) (l : List Rec) : Bool := decide (owned id l)
theorem ownedB_true {id : Int} {l : List Rec} (h : owned id l) : ownedB id l = true := by unfold ownedB; simp [h]
theorem ownedB_false {id : Int} {l : List Rec} (h : ¬ owned id l) : ownedB id l = false := by unfold ownedB; simp [h]
attribute [local irreducible] PSub Wp PSpec Le Need Both
attribute [local irreducible] recE recD tagged sha headOf
theorem pformed_spec (p : Party) : PSpec Tryz.prog 33 [.agg (encP p)] (.bool (decide p.formed)) := by
 have q := K.check_spec p.disk
 obtain ⟨c, hc⟩ : ∃ c, c = p.disk.check := ⟨_, rfl⟩
 rw [← hc] at q
 refine PSpec.of_vc (fun Γ => more6 false Γ.P Γ.fx) (fun Γ => more6_ok) Tryz.func33 rfl Tryz.call33 (by simp) ?_
 rintro ⟨P, N, w0, X, β0, fx, y, hy, pk, df⟩ rfl rfl rfl hoff rfl; change y.on = false at hoff
 repeat' ((try conv => whnf); first|(first|refine k3 ?_ ?_|refine k4 ?_ ?_) <;> intro hb <;> (try rw [lM] at hb) <;> try (exfalso; omega)|fail)
 · refine .inl ⟨_, q, ?_⟩
   skip
   exact PSub.val_bool (by rw [decide_eq_decide]; unfold Party.formed; rw [← hc]; constructor <;> intro h <;> first | exact h.2.2 | exact ⟨by omega, by omega, h⟩)
 all_goals exact PSub.val_bool (decide_eq_false (by unfold Party.formed; omega)).symm
theorem popen_spec (p : Party) : PSpec Tryz.prog 40 [.agg (encP p)] (K.encJE (K.openJ (rst p.disk))) := by
 have q1 := K.restart_spec p.disk
 have q2 := K.open_spec (rst p.disk)
 obtain ⟨j, hj⟩ : ∃ j, j = K.openJ (rst p.disk) := ⟨_, rfl⟩
 rw [← hj] at q2 ⊢
 refine PSpec.of_vc (fun Γ => more6 false Γ.P Γ.fx) (fun Γ => more6_ok) Tryz.func40 rfl Tryz.call40 (by simp) ?_
 rintro ⟨P, N, w0, X, β0, fx, y, hy, pk, df⟩ rfl rfl rfl hoff rfl; change y.on = false at hoff
 skip
 refine .inl ⟨_, q1, ?_⟩
 repeat' ((try conv => whnf); first|refine aq rfl ?_|fail)
 refine .inl ⟨_, q2, ?_⟩
 repeat' ((try conv => whnf); first|refine aq rfl ?_|fail)
 exact PSub.of_eq rfl
theorem owned_spec (p : Party) (l : List Rec) (hl : ∀ x ∈ l, x.can) (hlen : l.length ≤ 1000000) : PSpec Tryz.prog 35 [.agg (encP p), encRs l] (.bool (ownedB p.id l)) := by
 have q := evCheck_spec l hl hlen
 obtain ⟨c, hc⟩ : ∃ c, c = errV (validB l) := ⟨_, rfl⟩
 rw [← hc] at q
 refine PSpec.of_vc (fun Γ => more6 false Γ.P Γ.fx) (fun Γ => more6_ok) Tryz.func35 rfl Tryz.call35 (by simp) ?_
 rintro ⟨P, N, w0, X, β0, fx, y, hy, pk, df⟩ rfl rfl rfl hoff rfl; change y.on = false at hoff
 skip
 refine Wp.draw (more := more6 true _ _) more6_det more6_ok FOK.wide rfl (by decide +kernel) (by conv => lhs; reduce) ?_
 skip
 refine ⟨_, q, ?_⟩
 repeat' ((try conv => whnf); first|(first|refine k3 ?_ ?_|refine k4 ?_ ?_) <;> intro hb <;> (try rw [lM] at hb) <;> try (exfalso; omega)|refine s5 nm nm ?_|fail)
 · exact PSub.val_bool (ownedB_true ⟨errV_zero (by rw [← hc]; assumption), .inl (by omega)⟩).symm
 · have e := firstP_at (l := l) (by omega)
   have hv := errV_zero (l := l) (by rw [← hc]; assumption)
   refine PSub.val_bool ?_
   by_cases h : firstP l = p.id
   · rw [ownedB_true ⟨hv, .inr h⟩]; exact decide_eq_true (e.trans h)
   · rw [ownedB_false (fun ho => by rcases ho.2 with h' | h'; omega; exact h h')]; exact decide_eq_false (fun h' => h (e.symm.trans h'))
 · exact PSub.val_bool (ownedB_false (fun ho => by rw [validB_true ho.1] at hc; exact absurd hc (by assumption))).symm
theorem psame_spec (a b : K.Jour) : PSpec Tryz.prog 41 [K.encJ a, K.encJ b] (.bool (a.same b)) := by
 have q := K.equalFunc_spec a.records b.records
 refine PSpec.of_vc (fun Γ => more6 false Γ.P Γ.fx) (fun Γ => more6_ok) Tryz.func41 rfl Tryz.call41 (by simp) ?_
 rintro ⟨P, N, w0, X, β0, fx, y, hy, pk, df⟩ rfl rfl rfl hoff rfl; change y.on = false at hoff
 repeat' ((try conv => whnf); first|(first|refine k3 ?_ ?_|refine k4 ?_ ?_) <;> intro hb <;> (try rw [lM] at hb) <;> try (exfalso; omega)|fail)
 refine .inl ⟨_, q, ?_⟩
 skip
 · exact PSub.val_bool (by simp [K.Jour.same, *])
 · exact PSub.val_bool (by simp [K.Jour.same, *])
 · exact PSub.val_bool (by simp [K.Jour.same, *])
theorem written1_spec (b : List UInt8) (r : Rec) (hr : r.can) : PSpec Tryz.prog 93 [encB b, .agg (encR r)] (.bool (b == recE r)) := by
 have q := evEncode_spec r hr.1 (by have := hr.2; omega)
 have q2 := K.equal_spec b (recE r)
 refine PSpec.of_vc (fun Γ => more6 false Γ.P Γ.fx) (fun Γ => more6_ok) Tryz.func93 rfl Tryz.call93 (by simp) ?_
 rintro ⟨P, N, w0, X, β0, fx, y, hy, pk, df⟩ rfl rfl rfl hoff rfl; change y.on = false at hoff
 skip
 refine .inl ⟨_, q, ?_⟩
 repeat' ((try conv => whnf); first|refine aq rfl ?_|fail)
 refine .inl ⟨_, q2, ?_⟩
 skip
 exact PSub.refl _
theorem equalW_spec (a : List (List UInt8)) (l : List Rec) (hl : ∀ x ∈ l, x.can) (hlen : l.length ≤ 1000000) : PSpec Tryz.prog 92 [K.encS a, encRs l, .fn 93 []] (.bool (a == l.map recE)) := by
 refine PSpec.of_vc (fun Γ => more6 false Γ.P Γ.fx) (fun Γ => more6_ok) Tryz.func92 rfl Tryz.call92 (by simp) ?_
 rintro ⟨P, N, w0, X, β0, fx, y, hy, pk, df⟩ rfl rfl rfl hoff rfl; change y.on = false at hoff
 repeat' ((try conv => whnf); first|(first|refine k3 ?_ ?_|refine k4 ?_ ?_) <;> intro hb <;> (try rw [lM] at hb) <;> try (exfalso; omega)|fail)
 rotate_left
 · refine PSub.val_bool (Bool.eq_false_iff.2 ?_).symm
   intro h; have := eq_of_beq h; subst this; exact hb (by simp)
 refine Wp.loop (fun k : Nat => ⟨[(1, .pure (encRs l)), (2, .pure (.fn 93 [])), (15, .pure (K.encS a)), (16, .int a.length), (17, .int k)], [], []⟩) (fun k => k ≤ a.length ∧ a.take k = (l.map recE).take k) (fun k => a.length - k) 0 (Le.of ?_ ?_ rfl rfl rfl) ⟨by omega, by simp⟩ ?_
 · (repeat' (first|exact trivial|refine aq ?_ ?_|exact oq|exact l1 bd|fail))
 · (repeat' (first|exact trivial|fail))
 rintro k ⟨hk, hs⟩
 have hab : a.length = l.length := by rw [List.length_map] at hb; omega
 by_cases hk2 : k < a.length
 · have hk3 : k < l.length := by omega
   obtain ⟨E, hE⟩ : ∃ E, E = (a[k] == recE l[k]) := ⟨_, rfl⟩
   have q := written1_spec a[k] l[k] (hl _ (List.getElem_mem hk3))
   rw [← hE] at q
   refine code_sound (more := more6 false _ _) more6_ok FOK.wide _ ?_
   repeat' ((try conv => whnf); first|(first|refine k3 ?_ ?_|refine k4 ?_ ?_) <;> intro hb <;> (try rw [lM] at hb) <;> try (exfalso; omega)|refine aq rfl ?_|refine s5 nm nm ?_|fail)
   refine .inl ⟨_, q, ?_⟩
   repeat' ((try conv => whnf); first|refine k5 (fun hb => ?_) fun hb => ?_|refine s4 nm ?_|fail)
   · have hkk : a[k] = recE l[k] := eq_of_beq (hE.symm.trans (by assumption))
     exact ⟨k + 1, Le.of (by (repeat' (first|exact trivial|refine aq ?_ ?_|exact oq|fail))) (by (repeat' (first|exact trivial|fail))) rfl rfl rfl, ⟨by omega, by rw [List.take_succ_eq_append_getElem hk2, List.take_succ_eq_append_getElem (show k < (l.map recE).length by rw [List.length_map]; omega), hs, hkk, List.getElem_map]⟩, by omega⟩
   · refine PSub.val_bool (Bool.eq_false_iff.2 ?_).symm
     have hbE : E = false := by assumption
     intro h; have h' := eq_of_beq h
     rw [hbE] at hE
     have : a[k] = recE l[k] := by simp only [h', List.getElem_map]
     rw [this] at hE; simp at hE
 · have ek : k = a.length := by omega
   subst ek
   refine code_sound (more := more6 false _ _) more6_ok FOK.wide _ ?_
   repeat' ((try conv => whnf); first|(first|refine k3 ?_ ?_|refine k4 ?_ ?_) <;> intro hb <;> (try rw [lM] at hb) <;> try (exfalso; omega)|fail)
   refine PSub.val_bool ?_
   rw [List.take_length, List.take_of_length_le (by rw [List.length_map]; omega)] at hs
   rw [hs]; simp
theorem pwritten_spec (p : Party) (hl : ∀ x ∈ p.log, x.can) (hlen : p.log.length ≤ 1000000) : PSpec Tryz.prog 38 [.agg (encP p)] (.bool (p.jour.records == p.log.map recE)) := by
 have q := equalW_spec p.jour.records p.log hl hlen
 refine PSpec.of_vc (fun Γ => more6 false Γ.P Γ.fx) (fun Γ => more6_ok) Tryz.func38 rfl Tryz.call38 (by simp) ?_
 rintro ⟨P, N, w0, X, β0, fx, y, hy, pk, df⟩ rfl rfl rfl hoff rfl; change y.on = false at hoff
 skip
 refine .inl ⟨_, q, ?_⟩
 skip
 exact PSub.refl _
end Go.Proofs.YtjfjpnefohbobaaGreatDoor
/- Parties: Check. Conditions: none. -/
namespace Go.Proofs.YtjfjpnefohbobaaGreatDoor
open Go.Avc
def boxP (p : Party) : Option Blk := some (.box (pures (encP p)))
structure Party.can (p : Party) : Prop where
 log : ∀ x ∈ p.log, x.can
 len : p.log.length ≤ 10000
 jour : K.lensN p.jour.records ≤ 50000
 seed : p.seed.length = 32
def pc2 (p : Party) : Bool := decide (p.jour.check = 0) && (decide (p.jour.synced = p.jour.records.length) && decide (p.jour.many = p.disk.sectors.length))
def pc3 (p : Party) : Bool := decide ((K.openJ (rst p.disk)).2 = 0) && (K.openJ (rst p.disk)).1.same p.jour
def pc4 (p : Party) : Bool := p.disk.stopped || decide (p.disk.pending.length = 0)
attribute [local irreducible] PSub Wp PSpec Le Need Both
attribute [local irreducible] recE recD tagged sha headOf
theorem pc1_spec (p : Party) (h : p.can) : GSpec Tryz.prog 34 1 ⟨numE 0 [.loc 100 0 0], [(100, boxP p)], [100]⟩ [100] 1 ⟨[(0, .bool (ownedB p.id p.log))], [(100, boxP p)], [100]⟩ := by
 have q := owned_spec p p.log h.log (by have := h.len; omega)
 refine GSpec.of_vc (fun Γ => more6 false Γ.P Γ.fx) (fun Γ => more6_ok) Tryz.func34 rfl Tryz.call34 (by decide) ?_
 rintro ⟨P, N, w0, X, β0, fx, y, hy, pk, df⟩ rfl rfl rfl hoff rfl; change y.on = false at hoff
 skip
 refine .inl ⟨_, q, ?_⟩
 skip
 all_goals exact Le.of (by (repeat' (first|exact trivial|refine aq ?_ ?_|exact oq|fail)); all_goals exact SubA.bool (by simp_all)) (by (repeat' (first|exact trivial|refine aq ?_ ?_|refine Exists.intro _ (aq rfl ?_)|exact oq|fail))) rfl rfl rfl
theorem pc2_spec (p : Party) (h : p.can) : GSpec Tryz.prog 36 1 ⟨numE 0 [.loc 100 0 0], [(100, boxP p)], [100]⟩ [100] 1 ⟨[(0, .bool (pc2 p))], [(100, boxP p)], [100]⟩ := by
 have q := K.jcheck_spec p.jour (by have := h.jour; omega)
 obtain ⟨c, hc⟩ : ∃ c, c = p.jour.check := ⟨_, rfl⟩
 rw [← hc] at q
 unfold pc2
 rw [← hc]
 refine GSpec.of_vc (fun Γ => more6 false Γ.P Γ.fx) (fun Γ => more6_ok) Tryz.func36 rfl Tryz.call36 (by decide) ?_
 rintro ⟨P, N, w0, X, β0, fx, y, hy, pk, df⟩ rfl rfl rfl hoff rfl; change y.on = false at hoff
 skip
 refine .inl ⟨_, q, ?_⟩
 repeat' ((try conv => whnf); first|(first|refine k3 ?_ ?_|refine k4 ?_ ?_) <;> intro hb <;> (try rw [lM] at hb) <;> try (exfalso; omega)|fail)
 all_goals exact Le.of (by (repeat' (first|exact trivial|refine aq ?_ ?_|exact SubA.bool bo|fail)); all_goals exact SubA.bool (by simp_all)) (by (repeat' (first|exact trivial|refine aq ?_ ?_|refine Exists.intro _ (aq rfl ?_)|exact oq|fail))) rfl rfl rfl
theorem pc3_spec (p : Party) (h : p.can) : GSpec Tryz.prog 39 1 ⟨numE 0 [.loc 100 0 0], [(100, boxP p)], [100]⟩ [100] 1 ⟨[(0, .bool (pc3 p))], [(100, boxP p)], [100]⟩ := by
 have q := popen_spec p
 unfold pc3
 obtain ⟨⟨j, e⟩, hj⟩ : ∃ j, j = K.openJ (rst p.disk) := ⟨_, rfl⟩
 rw [← hj] at q ⊢
 dsimp only at *
 have q2 := psame_spec j p.jour
 obtain ⟨s, hs⟩ : ∃ s, s = j.same p.jour := ⟨_, rfl⟩
 rw [← hs] at q2 ⊢
 refine GSpec.of_vc (fun Γ => more6 false Γ.P Γ.fx) (fun Γ => more6_ok) Tryz.func39 rfl Tryz.call39 (by decide) ?_
 rintro ⟨P, N, w0, X, β0, fx, y, hy, pk, df⟩ rfl rfl rfl hoff rfl; change y.on = false at hoff
 skip
 refine .inl ⟨_, q, ?_⟩
 repeat' ((try conv => whnf); first|(first|refine k3 ?_ ?_|refine k4 ?_ ?_) <;> intro hb <;> (try rw [lM] at hb) <;> try (exfalso; omega)|refine aq rfl ?_|fail)
 · refine .inl ⟨_, q2, ?_⟩
   skip
   all_goals exact Le.of (by (repeat' (first|exact trivial|refine aq ?_ ?_|exact SubA.bool bo|fail)); all_goals exact SubA.bool (by simp_all)) (by (repeat' (first|exact trivial|refine aq ?_ ?_|refine Exists.intro _ (aq rfl ?_)|exact oq|fail))) rfl rfl rfl
 all_goals exact Le.of (by (repeat' (first|exact trivial|refine aq ?_ ?_|exact SubA.bool bo|fail)); all_goals exact SubA.bool (by simp_all)) (by (repeat' (first|exact trivial|refine aq ?_ ?_|refine Exists.intro _ (aq rfl ?_)|exact oq|fail))) rfl rfl rfl
theorem pc4_spec (p : Party) : GSpec Tryz.prog 42 1 ⟨numE 0 [.loc 100 0 0], [(100, boxP p)], [100]⟩ [100] 1 ⟨[(0, .bool (pc4 p))], [(100, boxP p)], [100]⟩ := by
 unfold pc4
 refine GSpec.of_vc (fun Γ => more6 false Γ.P Γ.fx) (fun Γ => more6_ok) Tryz.func42 rfl Tryz.call42 (by decide) ?_
 rintro ⟨P, N, w0, X, β0, fx, y, hy, pk, df⟩ rfl rfl rfl hoff rfl; change y.on = false at hoff
 repeat' ((try conv => whnf); first|refine k6 (fun hb => ?_) fun hb => ?_|fail)
 all_goals exact Le.of (by (repeat' (first|exact trivial|refine aq ?_ ?_|fail)); all_goals exact SubA.bool (by simp_all)) (by (repeat' (first|exact trivial|refine aq ?_ ?_|refine Exists.intro _ (aq rfl ?_)|exact oq|fail))) rfl rfl rfl
theorem same_eq {a b : K.Jour} (h : a.same b = true) : a = b := by
 cases a; cases b
 simp only [K.Jour.same, Bool.and_eq_true, decide_eq_true_eq, beq_iff_eq] at h
 obtain ⟨⟨rfl, rfl⟩, rfl⟩ := h
 rfl
theorem same_refl (a : K.Jour) : a.same a = true := by simp [K.Jour.same]
theorem good_iff (j : K.Jour) : j.check = 0 ↔ j.good := by
 unfold K.Jour.check
 split
 · simp [*]
 · simp [*]
theorem valid_iff (p : Party) : p.valid ↔ (decide p.formed = true ∧ ownedB p.id p.log = true ∧ pc2 p = true ∧ (p.jour.records == p.log.map recE) = true ∧ pc3 p = true ∧ pc4 p = true) := by
 simp only [pc2, pc3, pc4, Bool.and_eq_true, Bool.or_eq_true, decide_eq_true_eq, beq_iff_eq, good_iff, ownedB]
 constructor
 · rintro ⟨a, b, c, d, e, f, g, h⟩
   exact ⟨a, b, ⟨c, d, e⟩, f, ⟨by rw [g], by rw [g]; exact same_refl _⟩, by rcases h with h | h; exact .inl h; exact .inr (by rw [h]; rfl)⟩
 · rintro ⟨a, b, ⟨c, d, e⟩, f, ⟨g1, g2⟩, h⟩
   refine ⟨a, b, c, d, e, f, ?_, by rcases h with h | h; exact .inl h; exact .inr (List.eq_nil_of_length_eq_zero h)⟩
   have := same_eq g2
   exact Prod.ext this g1
theorem pcheck_spec (p : Party) (h : p.can) : PSpec Tryz.prog 10 [.agg (encP p)] (.int p.check) := by
 have hiff := valid_iff p
 have q1 := pformed_spec p
 have q2 := pc1_spec p h
 have q3 := pc2_spec p h
 have q4 := pwritten_spec p h.log (by have := h.len; omega)
 have q5 := pc3_spec p h
 have q6 := pc4_spec p
 obtain ⟨b1, e1⟩ : ∃ b, b = decide p.formed := ⟨_, rfl⟩
 obtain ⟨b2, e2⟩ : ∃ b, b = ownedB p.id p.log := ⟨_, rfl⟩
 obtain ⟨b3, e3⟩ : ∃ b, b = pc2 p := ⟨_, rfl⟩
 obtain ⟨b4, e4⟩ : ∃ b, b = (p.jour.records == p.log.map recE) := ⟨_, rfl⟩
 obtain ⟨b5, e5⟩ : ∃ b, b = pc3 p := ⟨_, rfl⟩
 obtain ⟨b6, e6⟩ : ∃ b, b = pc4 p := ⟨_, rfl⟩
 rw [← e1, ← e2, ← e3, ← e4, ← e5, ← e6] at hiff
 rw [← e1] at q1
 rw [← e2] at q2
 rw [← e3] at q3
 rw [← e4] at q4
 rw [← e5] at q5
 rw [← e6] at q6
 have fail : ¬ (b1 = true ∧ b2 = true ∧ b3 = true ∧ b4 = true ∧ b5 = true ∧ b6 = true) → PSub (.val (.int .i64 510)) (.int p.check) := fun hn => by
   rw [check_not (fun hv => hn (hiff.1 hv))]; exact PSub.refl _
 refine PSpec.of_vc (fun Γ => more6 false Γ.P Γ.fx) (fun Γ => more6_ok) Tryz.func10 rfl Tryz.call10 (by simp) ?_
 rintro ⟨P, N, w0, X, β0, fx, y, hy, pk, df⟩ rfl rfl rfl hoff rfl; change y.on = false at hoff
 repeat' ((try conv => whnf); first|refine aq rfl ?_|refine aq bd ?_|fail)
 refine Wp.loop (fun k : Nat => ⟨[(18, .lsl 17 0 6), (19, .int 6), (20, .int k)], [(17, some (.box [.fn (33 + bmB) [.agg (pures (encP p))], .fn 34 [.loc 3 0 0], .fn 36 [.loc 3 0 0], .fn (38 + bmB) [.agg (pures (encP p))], .fn 39 [.loc 3 0 0], .fn 42 [.loc 3 0 0]])), (3, boxP p)], [17, 3]⟩)
   (fun i => i ≤ 6 ∧ (1 ≤ i → b1 = true) ∧ (2 ≤ i → b2 = true) ∧ (3 ≤ i → b3 = true) ∧ (4 ≤ i → b4 = true) ∧ (5 ≤ i → b5 = true) ∧ (6 ≤ i → b6 = true)) (fun i => 6 - i) 0 (Le.of ?_ ?_ rfl rfl rfl) ⟨by omega, by omega, by omega, by omega, by omega, by omega, by omega⟩ ?_
 · (repeat' (first|exact trivial|refine aq ?_ ?_|exact oq|fail))
 · (repeat' (first|exact trivial|refine aq ?_ ?_|refine Exists.intro _ (aq rfl ?_)|exact oq|fail))
 rintro i ⟨hi, g1, g2, g3, g4, g5, g6⟩
 have hcs : i = 0 ∨ i = 1 ∨ i = 2 ∨ i = 3 ∨ i = 4 ∨ i = 5 ∨ i = 6 := by omega
 rcases hcs with rfl | rfl | rfl | rfl | rfl | rfl | rfl
 · refine code_sound (more := more6 false _ _) more6_ok FOK.wide _ ?_
   repeat' ((try conv => whnf); first|refine aq rfl ?_|refine aq bd ?_|fail)
   refine .inl ⟨_, q1, ?_⟩
   repeat' ((try conv => whnf); first|refine k5 (fun hb => ?_) fun hb => ?_|refine s4 nm ?_|fail)
   · exact ⟨1, Le.of (by (repeat' (first|exact trivial|refine aq ?_ ?_|exact oq|fail))) (by (repeat' (first|exact trivial|refine aq ?_ ?_|refine Exists.intro _ (aq rfl ?_)|exact oq|fail))) rfl rfl rfl, ⟨by omega, by simp_all, by simp_all, by simp_all, by simp_all, by simp_all, by simp_all⟩, by omega⟩
   · exact fail (by simp_all)
 · refine code_sound (more := more6 false _ _) more6_ok FOK.wide _ ?_
   repeat' ((try conv => whnf); first|refine aq rfl ?_|refine aq bd ?_|fail)
   refine .inr ⟨[(100, 3)], [.loc 100 0 0], [(100, boxP p)], [100], [100], 1, _, q2, ⟨Or.inl rfl, trivial⟩, ⟨rfl, trivial⟩, ?_⟩
   repeat' ((try conv => whnf); first|refine k5 (fun hb => ?_) fun hb => ?_|refine s4 nm ?_|fail)
   · exact ⟨2, Le.of (by (repeat' (first|exact trivial|refine aq ?_ ?_|exact oq|fail))) (by (repeat' (first|exact trivial|refine aq ?_ ?_|refine Exists.intro _ (aq rfl ?_)|exact oq|fail))) rfl rfl rfl, ⟨by omega, by simp_all, by simp_all, by simp_all, by simp_all, by simp_all, by simp_all⟩, by omega⟩
   · exact fail (by simp_all)
 · refine code_sound (more := more6 false _ _) more6_ok FOK.wide _ ?_
   repeat' ((try conv => whnf); first|refine aq rfl ?_|refine aq bd ?_|fail)
   refine .inr ⟨[(100, 3)], [.loc 100 0 0], [(100, boxP p)], [100], [100], 1, _, q3, ⟨Or.inl rfl, trivial⟩, ⟨rfl, trivial⟩, ?_⟩
   repeat' ((try conv => whnf); first|refine k5 (fun hb => ?_) fun hb => ?_|refine s4 nm ?_|fail)
   · exact ⟨3, Le.of (by (repeat' (first|exact trivial|refine aq ?_ ?_|exact oq|fail))) (by (repeat' (first|exact trivial|refine aq ?_ ?_|refine Exists.intro _ (aq rfl ?_)|exact oq|fail))) rfl rfl rfl, ⟨by omega, by simp_all, by simp_all, by simp_all, by simp_all, by simp_all, by simp_all⟩, by omega⟩
   · exact fail (by simp_all)
 · refine code_sound (more := more6 false _ _) more6_ok FOK.wide _ ?_
   repeat' ((try conv => whnf); first|refine aq rfl ?_|refine aq bd ?_|fail)
   refine .inl ⟨_, q4, ?_⟩
   repeat' ((try conv => whnf); first|refine k5 (fun hb => ?_) fun hb => ?_|refine s4 nm ?_|fail)
   · exact ⟨4, Le.of (by (repeat' (first|exact trivial|refine aq ?_ ?_|exact oq|fail))) (by (repeat' (first|exact trivial|refine aq ?_ ?_|refine Exists.intro _ (aq rfl ?_)|exact oq|fail))) rfl rfl rfl, ⟨by omega, by simp_all, by simp_all, by simp_all, by simp_all, by simp_all, by simp_all⟩, by omega⟩
   · exact fail (by simp_all)
 · refine code_sound (more := more6 false _ _) more6_ok FOK.wide _ ?_
   repeat' ((try conv => whnf); first|refine aq rfl ?_|refine aq bd ?_|fail)
   refine .inr ⟨[(100, 3)], [.loc 100 0 0], [(100, boxP p)], [100], [100], 1, _, q5, ⟨Or.inl rfl, trivial⟩, ⟨rfl, trivial⟩, ?_⟩
   repeat' ((try conv => whnf); first|refine k5 (fun hb => ?_) fun hb => ?_|refine s4 nm ?_|fail)
   · exact ⟨5, Le.of (by (repeat' (first|exact trivial|refine aq ?_ ?_|exact oq|fail))) (by (repeat' (first|exact trivial|refine aq ?_ ?_|refine Exists.intro _ (aq rfl ?_)|exact oq|fail))) rfl rfl rfl, ⟨by omega, by simp_all, by simp_all, by simp_all, by simp_all, by simp_all, by simp_all⟩, by omega⟩
   · exact fail (by simp_all)
 · refine code_sound (more := more6 false _ _) more6_ok FOK.wide _ ?_
   repeat' ((try conv => whnf); first|refine aq rfl ?_|refine aq bd ?_|fail)
   refine .inr ⟨[(100, 3)], [.loc 100 0 0], [(100, boxP p)], [100], [100], 1, _, q6, ⟨Or.inl rfl, trivial⟩, ⟨rfl, trivial⟩, ?_⟩
   repeat' ((try conv => whnf); first|refine k5 (fun hb => ?_) fun hb => ?_|refine s4 nm ?_|fail)
   · exact ⟨6, Le.of (by (repeat' (first|exact trivial|refine aq ?_ ?_|exact oq|fail))) (by (repeat' (first|exact trivial|refine aq ?_ ?_|refine Exists.intro _ (aq rfl ?_)|exact oq|fail))) rfl rfl rfl, ⟨by omega, by simp_all, by simp_all, by simp_all, by simp_all, by simp_all, by simp_all⟩, by omega⟩
   · exact fail (by simp_all)
 · refine code_sound (more := more6 false _ _) more6_ok FOK.wide _ ?_
   skip
   rw [check_valid (hiff.2 ⟨g1 (by omega), g2 (by omega), g3 (by omega), g4 (by omega), g5 (by omega), g6 (by omega)⟩)]
   exact PSub.refl _
end Go.Proofs.YtjfjpnefohbobaaGreatDoor
/- Parties: plain laws of Note and Restart. Conditions: none. -/
namespace Go.Proofs.YtjfjpnefohbobaaGreatDoor
open Go.Avc
theorem running {p : Party} (hv : p.valid) (hs : p.disk.stopped = false) : p.disk.pending = [] := by
 rcases hv.idle with h | h
 · rw [hs] at h; cases h
 · exact h
theorem invD_of {p : Party} (hv : p.valid) (hs : p.disk.stopped = false) : ∃ R, K.InvD p.disk R (K.greatL p.disk.sectors) ∧ R.map (·.1) = p.jour.records := by
 obtain ⟨R, hi, hR⟩ := inv_of hv.formed.2.2
 have hg := good_of hv.formed.2.2
 refine ⟨R, ⟨running hv hs, hs, ⟨by have := hg.2.2.2.1; omega, by have := hg.2.2.2.2.1; omega⟩, ⟨by have := hg.1; omega, by have := hg.2.1; omega⟩, hi⟩, ?_⟩
 rw [hR, hv.jr]
 rfl
noncomputable def Party.noteE (p : Party) (kind day : Int) (body : List UInt8) : Int :=
 if (addR p.log (mkR p.log p.id kind day body)).2 ≠ 0 then (addR p.log (mkR p.log p.id kind day body)).2
 else if (p.jour.append (recE (mkR p.log p.id kind day body))).2 ≠ 0 then (p.jour.append (recE (mkR p.log p.id kind day body))).2
 else if K.greatL p.disk.sectors = 4294967295 then 480 else 0
theorem addR_cases (l : List Rec) (r : Rec) (hv : Valid l) : (addR l r = (l ++ [r], 0) ∧ Fits l r) ∨ ∃ e, addR l r = ([], e) ∧ (e = 2 ∨ e = 500) ∧ ¬ Fits l r := by
 by_cases h1 : l.length = 4096
 · exact .inr ⟨2, addR_full hv h1, .inl rfl, fun h => by have := h.many; omega⟩
 · by_cases h2 : Fits l r
   · exact .inl ⟨addR_yes hv h1 h2, h2⟩
   · exact .inr ⟨500, addR_no hv h1 h2, .inr rfl, h2⟩
theorem append_err (j : K.Jour) (b : List UInt8) (hj : j.good) : ((j.append b).2 = 0 ∧ (j.append b).1 = ⟨j.records ++ [b], j.many, j.synced⟩ ∧ K.occN j.records + K.piecesN b.length ≤ j.many) ∨ (j.append b).2 = 2 := by
 rcases K.append_cases j b with ⟨h1, h2, _, h4⟩ | ⟨h1, _, _⟩
 · exact .inl ⟨h1, h2, h4⟩
 · right
   unfold K.Jour.append at h1 ⊢
   rw [if_pos hj] at h1 ⊢
   split
   · rfl
   · rename_i h; rw [if_neg h] at h1; exact absurd rfl h1
def Party.plus (p : Party) (d : K.Disk) (r : Rec) : Party := ⟨p.kind, p.id, p.seed, d, ⟨p.jour.records ++ [recE r], p.jour.many, p.jour.records.length + 1⟩, p.log ++ [r]⟩
theorem owned_snoc {id : Int} {l : List Rec} {r : Rec} (ho : owned id l) (hf : Fits l r) (hr : r.party = id) : owned id (l ++ [r]) := by
 refine ⟨valid_snoc ho.1 hf, .inr ?_⟩
 by_cases h : l.length = 0
 · have : l = [] := List.eq_nil_of_length_eq_zero h
   subst this
   exact hr
 · rw [← firstP_at (l := l ++ [r]) (by simp), List.getElem_append_left (by omega), firstP_at (by omega)]
   rcases ho.2 with h' | h'
   · exact absurd h' h
   · exact h'
theorem disk_check {d : K.Disk} {R : List (List UInt8 × Nat)} {G : Nat} (h : K.InvD d R G) : d.check = 0 := K.check_good h.good
theorem note_run {p : Party} (hv : p.valid) (hs : p.disk.stopped = false) (kind day : Int) (body : List UInt8) :
   (p.noteE kind day body ≠ 0 ∧ p.noteE kind day body ≠ 470 ∧ p.note kind day body = (zeroP, p.noteE kind day body)) ∨
   (p.noteE kind day body = 0 ∧ Fits p.log (mkR p.log p.id kind day body) ∧
     ((∃ d', p.note kind day body = (p.plus d' (mkR p.log p.id kind day body), 0) ∧ (p.plus d' (mkR p.log p.id kind day body)).valid ∧ d'.stopped = false ∧ (p.disk.left = -1 → d'.left = -1) ∧ (p.disk.left = -1 ∨ 1 ≤ p.disk.left) ∧ K.greatL d'.sectors ≤ K.greatL p.disk.sectors + 1) ∨
      (p.disk.left ≠ -1 ∧ ∃ d', p.note kind day body = ({ p with disk := d' }, 470) ∧ ({ p with disk := d' } : Party).valid ∧ d'.stopped = true ∧ d'.sectors.length = p.disk.sectors.length))) := by
 obtain ⟨m, hm⟩ : ∃ m, m = mkR p.log p.id kind day body := ⟨_, rfl⟩
 unfold Party.noteE Party.note
 rw [if_pos hv, ← hm]
 rcases addR_cases p.log m hv.owned.1 with ⟨h1, h2⟩ | ⟨e, h1, h2, _⟩
 rotate_left
 · rw [h1]
   left
   have he : e ≠ 0 := by omega
   simp [he]
   omega
 rw [h1]
 simp only [ne_eq, not_true, if_false, if_true]
 rcases append_err p.jour (recE m) hv.good with ⟨h3, h4, h5⟩ | h3
 rotate_left
 · left
   rw [h3]
   simp
 rw [h3, h4]
 simp only [ne_eq, not_true, if_false, if_true]
 obtain ⟨R, hi, hR⟩ := invD_of hv hs
 have hrl : (R.length : Int) = p.jour.synced := by rw [hv.synced, ← hR, List.length_map]
 have hocc : K.occN (p.jour.records ++ [recE m]) = K.occN p.jour.records + K.piecesN (recE m).length := by rw [K.occN_append]; simp [K.occN]
 by_cases hG : K.greatL p.disk.sectors = 4294967295
 · left
   have hsy : (⟨p.jour.records ++ [recE m], p.jour.many, p.jour.synced⟩ : K.Jour).sync p.disk = (K.zeroJ, K.zeroD, 480) := by
     have hjg : (⟨p.jour.records ++ [recE m], p.jour.many, p.jour.synced⟩ : K.Jour).good := by
       obtain ⟨g1, g2, g3, g4, g5⟩ := hv.good
       exact ⟨g1, g2, g3, by simp; omega, by simp only [hocc]; omega⟩
     unfold K.Jour.sync
     rw [if_neg (by simpa using hjg), if_neg (by simpa using hv.formed.2.2), if_neg (by rw [hs]; simp), if_neg (by rw [running hv hs]; simp; exact hv.many)]
     have ht : (p.jour.records ++ [recE m]).take p.jour.synced.toNat = p.jour.records := by
       rw [hv.synced, Int.toNat_natCast]; exact List.take_left' rfl
     rw [if_neg (by rw [ht, hv.jr]; simp [jr]), if_pos hG]
   rw [hsy, if_pos hG]
   simp
 · rw [if_neg hG]
   right
   refine ⟨rfl, h2, ?_⟩
   have hlt : K.greatL p.disk.sectors < 4294967295 := by
     have : K.greatL p.disk.sectors < 4294967296 := by
       have := K.greatL_le (ss := p.disk.sectors) (g := 4294967295) (fun s _ => ⟨by have := K.four_lt s 0; omega, by have := K.four_lt s 124; omega⟩)
       omega
     omega
   rcases hi.syncW (j := ⟨p.jour.records ++ [recE m], p.jour.many, p.jour.synced⟩) (new := [recE m]) hlt (by rw [hR]) hv.many hrl.symm (by simp only [hocc]; have := hv.many; omega) with ⟨d', G', e1, e2, e3, e4, e5, e6⟩ | ⟨e0, d', n, G', e1, e2, e3, e4, e5, e6⟩
   · left
     have hrec : K.recs d'.sectors = p.jour.records ++ [recE m] := by rw [e3.inv.recs, List.map_append, hR]; simp
     refine ⟨d', ?_, ?_, e3.run, e5, e6 (by simp), by rw [e3.inv.great]; exact e4⟩
     · rw [e1]
       simp only [if_true]
       unfold Party.plus
       simp
     · refine valid_of ⟨hv.formed.1, hv.formed.2.1, disk_check e3⟩ (owned_snoc hv.owned h2 (by rw [hm]; rfl)) ?_ ?_ (.inr e3.pend)
       · show (⟨_, _, _⟩ : K.Jour) = ⟨_, _, _⟩
         simp only [Party.plus, hrec, e2, hv.many]
         simp
       · simp [Party.plus, hv.written]
   · right
     have hn : n = 0 := by simp at e3; exact e3
     subst hn
     have hrec : K.recs d'.sectors = p.jour.records := by
       have := e4.inv.recs
       rw [this, List.map_append, hR]; simp
     have hdc : d'.check = 0 := by
       have hg := e4.good
       rw [e6]
       exact K.check_good ⟨hg.1, hg.2.1, by simp, by simp, by simp, hg.2.2.2.2.2.1, by simp⟩
     refine ⟨e0, d', ?_, ?_, by rw [e6], e2⟩
     · rw [e1]
       have hpos : 0 < d'.sectors.length := by rw [e2]; have := (good_of hv.formed.2.2).1; omega
       simp [hpos]
     · refine valid_of ⟨hv.formed.1, hv.formed.2.1, hdc⟩ hv.owned ?_ hv.written (.inl (by show d'.stopped = true; rw [e6]))
       rw [hv.jr]
       show (⟨_, _, _⟩ : K.Jour) = ⟨_, _, _⟩
       rw [hrec, e2, hv.jr]
       rfl
theorem dec_rec {r : Rec} (h : r.ok) (hb : r.body.length ≤ 800000) : decF (recE r) = (r, 0) := by
 have hl := recE_len h (by omega)
 have h1 := decF_is (b := recE r) (by omega)
 have hd := decode_enc (recV_check r) (by show (recE r).length ≤ _; omega) (recV_fits h (by omega))
 have hd' : decode (recE r) = (recV r, 0) := hd
 generalize hx : decF (recE r) = x at h1
 obtain ⟨a, b⟩ := x
 dsimp only at h1
 cases h1 with
 | bad h => rw [hd'] at h; exact absurd (congrArg Prod.snd h) (by simp)
 | no v h _ _ hn => rw [hd'] at h; exact absurd (congrArg Prod.fst h).symm (hn r (by assumption))
 | ok a h ha =>
   rw [hd'] at h
   have e := congrArg Prod.fst h
   obtain ⟨_, h6⟩ := recV_inj (v := recV r) (r := r) (by rw [recV, lstV_kids]; rfl) rfl (by assumption)
   obtain ⟨_, h7⟩ := recV_inj (v := recV r) (r := a) (by rw [recV, lstV_kids]; rfl) e ha
   rw [h6, h7]
theorem restart_valid {p q : Party} {e : Int} (hv : p.valid) (hl : ∀ r ∈ p.log, r.can) (h : RestIs p q e) : e = 0 ∧ q = { p with disk := rst p.disk } ∧ q.valid := by
 have hrec : (jr p.disk).records = p.log.map recE := by rw [← hv.jr]; exact hv.written
 have hdec : ∀ b ∈ (jr p.disk).records, (decF b).2 = 0 := fun b hb => by
   rw [hrec] at hb
   obtain ⟨r, hr, rfl⟩ := List.mem_map.1 hb
   rw [dec_rec (hl r hr).1 (hl r hr).2]
 have hlog : ((jr p.disk).records.map fun b => (decF b).1) = p.log := by
   rw [hrec, List.map_map]
   conv => rhs; rw [← List.map_id p.log]
   refine List.map_congr_left fun r hr => ?_
   simp only [Function.comp, dec_rec (hl r hr).1 (hl r hr).2, id]
 cases h with
 | form h => exact absurd hv.formed h
 | dec _ k hk _ he => exact absurd (hdec _ (List.getElem_mem hk)) he
 | own _ _ ho => rw [hlog] at ho; exact absurd hv.owned ho
 | ok _ _ _ =>
   refine ⟨rfl, ?_, ?_⟩
   · rw [hlog, ← hv.jr]
   · rw [hlog, ← hv.jr]
     exact valid_of ⟨hv.formed.1, hv.formed.2.1, rst_check hv.formed.2.2⟩ hv.owned (by rw [hv.jr]; rfl) hv.written (.inr rfl)
end Go.Proofs.YtjfjpnefohbobaaGreatDoor
/- Parties: the decoded records, Restart. Conditions: none. -/
namespace Go.Proofs.YtjfjpnefohbobaaGreatDoor
open Go.Avc
noncomputable def decs (l : List (List UInt8)) : List (List PV) := l.map fun b => [.agg (encR (decF b).1), .int (decF b).2]
theorem decs_get {l : List (List UInt8)} {k : Nat} (h : k < l.length) : (decs l)[k]? = some [.agg (encR (decF l[k]).1), .int (decF l[k]).2] := by
 unfold decs
 rw [List.getElem?_map, List.getElem?_eq_getElem h]
 rfl
attribute [local irreducible] PSub Wp PSpec Le Need Both
attribute [local irreducible] recE recD tagged sha headOf decF decode
theorem decoded_spec (p : Party) (j : K.Jour) : PSpec Tryz.prog 55 [.agg (encP p), K.encJ j] (.fn 95 [.ptr (jourC j)]) := by
 refine PSpec.of_vc (fun Γ => more6 false Γ.P Γ.fx) (fun Γ => more6_ok) Tryz.func55 rfl Tryz.call55 (by simp) ?_
 rintro ⟨P, N, w0, X, β0, fx, y, hy, pk, df⟩ rfl rfl rfl hoff rfl; change y.on = false at hoff
 skip
 exact PSub.refl _
theorem decoded1_spec (j : K.Jour) (hj : j.records.length ≤ 1000000) (hl : ∀ b ∈ j.records, b.length ≤ 1000000) : ISpec Tryz.prog 95 [.ptr (jourC j)] (decs j.records) := by
 refine ISpec.of_vc (fun Γ => more6 false Γ.P Γ.fx) (fun Γ => more6_ok) Tryz.func95 rfl Tryz.call95 (Nat.le_of_ble_eq_true rfl) rfl ?_
 rintro ⟨P, N, w0, X, β0, fx, y, hy, pk, df⟩ rfl rfl rfl rfl hon hxs
 dsimp only at hon hxs
 skip
 refine Wp.loop (fun k : Nat => ⟨[(0, .pure (.val (.func (.yield y.l) #[] #[]))), (6, .pure (K.encS j.records)), (7, .int j.records.length), (8, .int k), (20, .gh k false)], [], []⟩) (fun k => k ≤ j.records.length) (fun k => j.records.length - k) 0 (Le.of ?_ ?_ rfl rfl rfl) (by omega) ?_
 · (repeat' (first|exact trivial|refine aq ?_ ?_|exact oq|exact l1 bd|fail))
 · (repeat' (first|exact trivial|fail))
 intro k hk
 by_cases hk2 : k < j.records.length
 · have hp := decs_get hk2
   have q := evDecode_spec j.records[k] (hl _ (List.getElem_mem hk2)) _ _ (decF_is (hl _ (List.getElem_mem hk2)))
   obtain ⟨⟨r, e⟩, hr⟩ : ∃ r, r = decF j.records[k] := ⟨_, rfl⟩
   rw [← hr] at hp q
   refine code_sound (more := more6 false _ _) more6_ok FOK.wide _ ?_
   repeat' ((try conv => whnf); first|(first|refine k3 ?_ ?_|refine k4 ?_ ?_) <;> intro hb <;> (try rw [lM] at hb) <;> try (exfalso; omega)|refine s5 nm nm ?_|fail)
   refine .inl ⟨_, q, ?_⟩
   repeat' ((try conv => whnf); first|refine aq rfl ?_|refine aq bd ?_|fail)
   refine needY (i := k) hxs hp (SubL.refl _) ?_
   repeat' ((try conv => whnf); first|refine Both.intro ?_ ?_|refine s4 nm ?_|fail)
   · exact ⟨k + 1, Le.of (by (repeat' (first|exact trivial|refine aq ?_ ?_|exact oq|fail))) (by (repeat' (first|exact trivial|fail))) rfl rfl rfl, by omega, by omega⟩
   · exact ⟨k + 1, true, rfl, by simp⟩
 · refine code_sound (more := more6 false _ _) more6_ok FOK.wide _ ?_
   repeat' ((try conv => whnf); first|(first|refine k3 ?_ ?_|refine k4 ?_ ?_) <;> intro hb <;> (try rw [lM] at hb) <;> try (exfalso; omega)|fail)
   exact ⟨k, false, rfl, fun _ => by rw [decs, List.length_map]; omega⟩
def zcells : List PV := .val (.int .i64 0) :: .val (.int .i64 0) :: dc z32 [.val (.slice none 0 0), .val (.slice none 0 0), .val (.int .i64 0), .val (.bool false), .val (.slice none 0 0), .val (.int .i64 0), .val (.int .i64 0), .val (.slice none 0 0)]
theorem sub_dc {d : List UInt8} {l m : List PV} (h : SubL l m) : SubL (dc d l) (dc d m) := by
 unfold dc
 simp only [SubL, h, and_true]
 repeat' refine And.intro (PSub.refl _) ?_
 all_goals exact PSub.refl _
theorem sub_zeroP {e : Int} {r : Party × Int} (h : r = (zeroP, e)) : PSub (.tup [.agg zcells, .val (.int .i64 e)]) (encPE r) := by
 subst h
 refine PSub.tup ⟨PSub.agg ⟨PSub.refl _, PSub.refl _, sub_dc ⟨PSub.nil 1, PSub.nil 2, PSub.refl _, PSub.refl _, PSub.nil 1, PSub.refl _, PSub.refl _, PSub.nil 37, trivial⟩⟩, PSub.refl _, trivial⟩
theorem owned_rows (p : Party) (l : List Rec) (hl : ∀ x ∈ l, x.can) (hlen : l.length ≤ 1000000) (rows : List (List PV)) (hr : rows = l.map encR) : PSpec Tryz.prog 35 [.agg (encP p), .sl 37 rows] (.bool (ownedB p.id l)) := by
 subst hr
 exact owned_spec p l hl hlen
theorem RestIs.dec_eq {p q : Party} {e : Int} (h : RestIs p q e) (hf : p.formed) {k : Nat} (hk : k < (jr p.disk).records.length) (hb : ∀ j (hj : j < (jr p.disk).records.length), j < k → (decF (jr p.disk).records[j]).2 = 0) (he : (decF (jr p.disk).records[k]).2 ≠ 0) : (q, e) = (zeroP, (decF (jr p.disk).records[k]).2) := by
 cases h with
 | form h => exact absurd hf h
 | dec _ j hj hb' he' =>
   rcases Nat.lt_trichotomy j k with h | h | h
   · exact absurd (hb j hj h) he'
   · subst h; rfl
   · exact absurd (hb' k hk h) he
 | own _ ha _ => exact absurd (ha _ (List.getElem_mem hk)) he
 | ok _ ha _ => exact absurd (ha _ (List.getElem_mem hk)) he
theorem RestIs.end_eq {p q : Party} {e : Int} (h : RestIs p q e) (hf : p.formed) (hb : ∀ j (hj : j < (jr p.disk).records.length), (decF (jr p.disk).records[j]).2 = 0) :
   (owned p.id ((jr p.disk).records.map fun b => (decF b).1) ∧ (q, e) = (⟨p.kind, p.id, p.seed, rst p.disk, jr p.disk, (jr p.disk).records.map fun b => (decF b).1⟩, 0)) ∨ (¬ owned p.id ((jr p.disk).records.map fun b => (decF b).1) ∧ (q, e) = (zeroP, 510)) := by
 cases h with
 | form h => exact absurd hf h
 | dec _ j hj _ he' => exact absurd (hb j hj) he'
 | own _ _ ho => exact .inr ⟨ho, rfl⟩
 | ok _ _ ho => exact .inl ⟨ho, rfl⟩
theorem recs_len {d : K.Disk} (h : d.check = 0) : ∀ b ∈ (jr d).records, b.length ≤ 800000 := fun b hb => by
 have h1 := occ_le h
 have h2 := (good_of h).2.1
 have h3 : ∀ l : List (List UInt8), b ∈ l → K.piecesN b.length ≤ K.occN l := by
   intro l
   induction l with
   | nil => intro h; cases h
   | cons x l ih =>
     intro h
     simp only [K.occN, List.map_cons, List.sum_cons] at ih ⊢
     rcases List.mem_cons.1 h with rfl | h
     · omega
     · have := ih h; omega
 have h4 := h3 _ hb
 have h5 := K.pieces_cov b.length
 simp only [jr] at h4
 omega
theorem prestart_spec (p q : Party) (e : Int) (hR : RestIs p q e) : PSpec Tryz.prog 16 [.agg (encP p)] (encPE (q, e)) := by
 have q1 := pformed_spec p
 have q2 := popen_spec p
 have q5 := K.restart_spec p.disk
 obtain ⟨b1, e1⟩ : ∃ b, b = decide p.formed := ⟨_, rfl⟩
 rw [← e1] at q1
 by_cases hf : p.formed
 rotate_left
 · have hr : (q, e) = (zeroP, 510) := by
     cases hR with
     | form => rfl
     | dec h => exact absurd h hf
     | own h => exact absurd h hf
     | ok h => exact absurd h hf
   have hb1 : b1 = false := by rw [e1]; exact decide_eq_false hf
   refine PSpec.of_vc (fun Γ => more6 false Γ.P Γ.fx) (fun Γ => more6_ok) Tryz.func16 rfl Tryz.call16 (by simp) ?_
   rintro ⟨P, N, w0, X, β0, fx, y, hy, pk, df⟩ rfl rfl rfl hoff rfl; change y.on = false at hoff
   repeat' ((try conv => whnf); first|refine aq rfl ?_|fail)
   refine .inl ⟨_, q1, ?_⟩
   repeat' ((try conv => whnf); first|refine k5 (fun hb => ?_) fun hb => ?_|refine aq rfl ?_|fail)
   · exact absurd hb1 (by simp_all)
   · exact sub_zeroP hr
 · have hb1 : b1 = true := by rw [e1]; exact decide_eq_true hf
   rw [open_rst hf.2.2] at q2
   obtain ⟨J, hJ⟩ : ∃ J, J = jr p.disk := ⟨_, rfl⟩
   obtain ⟨z, hz⟩ : ∃ z : Int, z = 0 := ⟨_, rfl⟩
   rw [← hJ, ← hz] at q2
   have hrec : ∀ b ∈ J.records, b.length ≤ 800000 := by rw [hJ]; exact recs_len hf.2.2
   have hrec2 : ∀ b ∈ J.records, b.length ≤ 1000000 := fun b hb => by have := hrec b hb; omega
   have hlen : J.records.length ≤ 1000000 := by
     have h1 := occ_le hf.2.2
     have h2 := (good_of hf.2.2).2.1
     have h3 : ∀ l : List (List UInt8), l.length ≤ K.occN l := by
       intro l
       induction l with
       | nil => exact Nat.zero_le _
       | cons x l ih => simp only [K.occN, List.map_cons, List.sum_cons, List.length_cons] at ih ⊢; have := K.pieces_pos x.length; omega
     have h4 := h3 J.records
     rw [hJ] at h4 ⊢
     simp only [jr] at h4 ⊢
     omega
   have q2' : PSpec Tryz.prog 40 [.agg (encP p)] (.tup [K.encJ J, .int z]) := q2
   refine PSpec.of_vc (fun Γ => more6 false Γ.P Γ.fx) (fun Γ => more6_ok) Tryz.func16 rfl Tryz.call16 (by simp) ?_
   rintro ⟨P, N, w0, X, β0, fx, y, hy, pk, df⟩ rfl rfl rfl hoff rfl; change y.on = false at hoff
   repeat' ((try conv => whnf); first|refine aq rfl ?_|fail)
   refine .inl ⟨_, q1, ?_⟩
   repeat' ((try conv => whnf); first|refine k5 (fun hb => ?_) fun hb => ?_|refine aq rfl ?_|fail)
   rotate_left
   · exact absurd hb1 (by simp_all)
   refine .inl ⟨_, q2', ?_⟩
   repeat' ((try conv => whnf); first|(first|refine k3 ?_ ?_|refine k4 ?_ ?_) <;> intro hb <;> (try rw [lM] at hb) <;> try (exfalso; omega)|refine aq rfl ?_|fail)
   · refine .inl ⟨_, decoded_spec p J, ?_⟩
     repeat' ((try conv => whnf); first|refine aq rfl ?_|fail)
     refine Wp.rangeFunc (decoded1_spec J hlen hrec2) [(1, .loc 1 0 0), (2, .loc 2 0 0), (3, .loc 3 0 0), (4, .loc 4 0 0), (5, .loc 5 0 0), (6, .loc 6 0 0), (26, .pure (.fn 95 [.ptr (jourC J)]))]
       (fun i => [(1, boxP p), (2, some (.box (pures zcells))), (3, some (.box [.int z])), (4, boxP p), (5, some (.box (pures (jourC J)))), (6, some (.box [.lsl 300 0 (J.records.take i).length])), (300, some (.row 37 ((J.records.take i).map fun b => encR (decF b).1)))]) (fun _ => [1, 2, 3, 4, 5, 6, 300]) [1, 2, 3, 4, 5, 6]
       (fun i => ∀ j (h : j < J.records.length), j < i → (decF J.records[j]).2 = 0)
       (Le.trans (Le.virt (k := 300) (sz := 37) rfl rfl (by omega)) (Le.of ?_ ?_ rfl rfl rfl)) rfl hoff (fun j h hj => by omega) rfl rfl (fun _ => rfl) rfl (fun i row hrow => ?_) ?_ ?_
     · (repeat' (first|exact trivial|refine aq ?_ ?_|exact oq|fail))
     · (repeat' (first|exact trivial|exact rfl|refine aq ?_ ?_|refine Exists.intro _ (aq rfl ?_)|exact oq|exact l6 rfl|fail))
     · have hi : i < J.records.length := by have := (List.getElem?_eq_some_iff.1 hrow).1; rwa [decs, List.length_map] at this
       rw [decs_get hi] at hrow
       cases hrow
       rfl
     · rintro ⟨P1, N1, w1, X1, β1, fx1, y1, hy1, pk1, df1⟩ rfl rfl rfl hoff1 rfl l k row hrow hok; change y1.on = false at hoff1
       have hk : k < J.records.length := by have := (List.getElem?_eq_some_iff.1 hrow).1; rwa [decs, List.length_map] at this
       rw [decs_get hk] at hrow
       cases hrow
       obtain ⟨⟨r, er⟩, hr⟩ : ∃ r, r = decF J.records[k] := ⟨_, rfl⟩
       rw [← hr]
       dsimp only
       refine code_sound (more := more6 false _ _) more6_ok (FOK.inRound _) _ ?_
       repeat' ((try conv => whnf); first|refine aq rfl ?_|fail)
       rintro ⟨P2, N2, w2, X2, β2, fx2, y2, hy2, pk2, df2⟩ rfl rfl rfl hoff2 rfl; change y2.on = false at hoff2
       refine code_sound (more := more6 false _ _) more6_ok (FOK.inRound _) _ ?_
       repeat' ((try conv => whnf); first|(first|refine k3 ?_ ?_|refine k4 ?_ ?_) <;> intro hb <;> (try rw [lM] at hb) <;> try (exfalso; omega)|refine Both.intro ?_ ?_|refine aq rfl ?_|refine aq bd ?_|fail)
       · have hlt : (J.records.take k).length = k := by simp; omega
         refine Le.map [(300, 36)] trivial ?_ rfl rfl rfl rfl
         (repeat' (first|exact trivial|refine aq ?_ ?_|refine Exists.intro _ (aq rfl ?_)|exact oq|exact SubA.lsl ls|fail))
         all_goals first
           | (refine SubA.lsl ?_; focus (simp; omega))
           | (refine rowEq ?_; focus (rw [List.take_succ_eq_append_getElem hk, List.map_append, List.map_singleton, ← hr]; rfl))
           | (refine SubA.int ?_; omega)
       · intro j h hj
         by_cases ej : j = k
         · subst ej; rw [← hr]; assumption
         · exact hok j h (by omega)
       · refine sub_zeroP ?_
         subst hJ
         rw [hR.dec_eq hf hk hok (by rw [← hr]; assumption), ← hr]
     · intro hdone
       rw [decs, List.length_map] at hdone
       have hall : ∀ j (hj : j < J.records.length), (decF J.records[j]).2 = 0 := fun j hj => hdone j hj hj
       have hend := hR.end_eq hf (by rw [← hJ]; exact hall)
       rw [← hJ] at hend
       obtain ⟨L, hL⟩ : ∃ L, L = J.records.map fun b => (decF b).1 := ⟨_, rfl⟩
       rw [← hL] at hend
       have hLc : ∀ x ∈ L, x.can := fun x hx => by
         rw [hL] at hx
         obtain ⟨b, hb', rfl⟩ := List.mem_map.1 hx
         obtain ⟨j, hj, rfl⟩ := List.getElem_of_mem hb'
         rcases dec_ok (decF_is (hrec2 _ (List.getElem_mem hj))) with ⟨_, h2, h3⟩ | ⟨h1, _⟩
         · refine ⟨h2, ?_⟩
           have := body_le (r := (decF J.records[j]).1)
           rw [h3] at this
           have := hrec _ (List.getElem_mem hj)
           omega
         · exact absurd (hall j hj) h1
       have hrows : ∀ n m, J.records.length ≤ n → J.records.length ≤ m → List.take n (List.drop 0 (List.map (fun b => encR (decF b).1) (List.take m J.records))) = L.map encR := fun n m hn hm => by
         rw [List.drop_zero, List.take_of_length_le (l := J.records) hm, List.take_of_length_le (by rw [List.length_map]; exact hn), hL, List.map_map]
         rfl
       have hdl : (decs J.records).length = J.records.length := by rw [decs, List.length_map]
       have q4 := owned_rows p L hLc (by rw [hL, List.length_map]; exact hlen)
       obtain ⟨ow, how⟩ : ∃ b, b = ownedB p.id L := ⟨_, rfl⟩
       rw [← how] at q4
       skip
       refine .inl ⟨_, q4 _ (hrows _ _ (by rw [List.length_take]; omega) (by omega)), ?_⟩
       repeat' ((try conv => whnf); first|refine k5 (fun hb => ?_) fun hb => ?_|refine aq rfl ?_|fail)
       · refine Wp.draw (more := more6 true _ _) more6_det more6_ok FOK.wide rfl (by decide +kernel) (by conv => lhs; reduce) ?_
         skip
         refine ⟨_, q5, ?_⟩
         repeat' ((try conv => whnf); first|refine aq rfl ?_|fail)
         rcases hend with ⟨_, h⟩ | ⟨ho, _⟩
         · rw [h]
           exact PSub.tup ⟨PSub.agg ⟨PSub.refl _, PSub.refl _, sub_dc ⟨PSub.refl _, PSub.refl _, PSub.refl _, PSub.refl _, PSub.refl _, PSub.refl _, PSub.refl _, sub_sl (hrows _ _ (by rw [List.length_take]; omega) (by omega)), trivial⟩⟩, PSub.refl _, trivial⟩
         · rw [ownedB_false ho] at how; simp_all
       · refine sub_zeroP ?_
         rcases hend with ⟨ho, _⟩ | ⟨_, h⟩
         · rw [ownedB_true ho] at how; simp_all
         · exact h
end Go.Proofs.YtjfjpnefohbobaaGreatDoor
/- Parties: New, Crash, Count, Note. Conditions: none. -/
namespace Go.Proofs.YtjfjpnefohbobaaGreatDoor
open Go.Avc
def newP (kind id n : Int) (seed : List UInt8) : Party × Int := if kind < 1 ∨ 4 < kind ∨ id < 0 ∨ 16 ≤ id then (zeroP, 510) else if (K.newD n).2 = 0 then (⟨kind, id, seed, (K.newD n).1, jr (K.newD n).1, []⟩, 0) else (zeroP, (K.newD n).2)
theorem newD_ok {n : Int} (h : (K.newD n).2 = 0) : (K.newD n).1.check = 0 ∧ (K.newD n).1.stopped = false ∧ (K.newD n).1.pending = [] := by
 unfold K.newD at h ⊢
 split
 · rename_i hn; rw [if_pos hn] at h; exact absurd h (by decide)
 · rename_i hn
   refine ⟨K.check_good ?_, rfl, rfl⟩
   refine ⟨by simp; omega, by simp; omega, by simp, by simp, by simp, fun s hs => ?_, by simp⟩
   rw [(List.mem_replicate.1 hs).2]
   rfl
def countL (l : List Rec) (kind : Int) : Nat := (l.filter fun r => decide (r.kind = kind)).length
theorem countL_take {l : List Rec} {kind : Int} {k : Nat} (h : k < l.length) : countL (l.take (k + 1)) kind = countL (l.take k) kind + if l[k].kind = kind then 1 else 0 := by
 unfold countL
 rw [List.take_succ_eq_append_getElem h, List.filter_append, List.length_append]
 congr 1
 by_cases e : l[k].kind = kind <;> simp [e]
theorem countL_le (l : List Rec) (kind : Int) : countL l kind ≤ l.length := List.length_filter_le ..
attribute [local irreducible] PSub Wp PSpec Le Need Both
attribute [local irreducible] recE recD tagged sha headOf decF decode
theorem pnew_spec (kind id n : Int) (seed : List UInt8) : PSpec Tryz.prog 12 [.int kind, .int id, .int n, .agg (dcells seed)] (encPE (newP kind id n seed)) := by
 have q1 := K.new_spec n
 have hok := newD_ok (n := n)
 obtain ⟨⟨d, e⟩, hd⟩ : ∃ d, d = K.newD n := ⟨_, rfl⟩
 have hN : newP kind id n seed = if kind < 1 ∨ 4 < kind ∨ id < 0 ∨ 16 ≤ id then (zeroP, 510) else if e = 0 then (⟨kind, id, seed, d, jr d, []⟩, 0) else (zeroP, e) := by unfold newP; rw [← hd]
 rw [hN]
 rw [← hd] at q1 hok
 dsimp only at hok
 have q2 := K.open_spec d
 refine PSpec.of_vc (fun Γ => more6 false Γ.P Γ.fx) (fun Γ => more6_ok) Tryz.func12 rfl Tryz.call12 (by simp) ?_
 rintro ⟨P, N, w0, X, β0, fx, y, hy, pk, df⟩ rfl rfl rfl hoff rfl; change y.on = false at hoff
 repeat' ((try conv => whnf); first|(first|refine k3 ?_ ?_|refine k4 ?_ ?_) <;> intro hb <;> (try rw [lM] at hb) <;> try (exfalso; omega)|refine aq rfl ?_|refine ⟨_, singles_rfl _, ?_⟩|fail)
 any_goals (refine sub_zeroP ?_; rw [if_pos (by omega)]; done)
 refine .inl ⟨_, q1, ?_⟩
 repeat' ((try conv => whnf); first|(first|refine k3 ?_ ?_|refine k4 ?_ ?_) <;> intro hb <;> (try rw [lM] at hb) <;> try (exfalso; omega)|refine aq rfl ?_|fail)
 · obtain ⟨h1, h2, h3⟩ := hok (by assumption)
   rw [open_run h1 h2 h3] at q2
   obtain ⟨z, hz⟩ : ∃ z : Int, z = 0 := ⟨_, rfl⟩
   rw [← hz] at q2
   have q2' : PSpec Tryz.prog 51 [K.encD d] (.tup [K.encJ (jr d), .int z]) := q2
   refine .inl ⟨_, q2', ?_⟩
   repeat' ((try conv => whnf); first|(first|refine k3 ?_ ?_|refine k4 ?_ ?_) <;> intro hb <;> (try rw [lM] at hb) <;> try (exfalso; omega)|refine aq rfl ?_|refine .inr ⟨rfl, rfl, rfl, ?_⟩|fail)
   rw [if_neg (by omega), if_pos (by assumption)]
   exact PSub.tup ⟨PSub.agg ⟨PSub.refl _, PSub.refl _, sub_dc ⟨PSub.refl _, PSub.refl _, PSub.refl _, PSub.refl _, PSub.refl _, PSub.refl _, PSub.refl _, PSub.nil 37, trivial⟩⟩, PSub.refl _, trivial⟩
 · refine sub_zeroP ?_
   rw [if_neg (by omega), if_neg (by assumption)]
theorem pcrash_spec (p : Party) (left : Int) : PSpec Tryz.prog 14 [.agg (encP p), .int left] (encPE (p.crash left)) := by
 have q1 := pformed_spec p
 have q2 := K.stop_spec p.disk left
 have hC : p.crash left = if p.formed then (if (p.disk.stop left).2 = 0 then ({ p with disk := (p.disk.stop left).1 }, 0) else (zeroP, (p.disk.stop left).2)) else (zeroP, 510) := rfl
 obtain ⟨⟨d, e⟩, hd⟩ : ∃ d, d = p.disk.stop left := ⟨_, rfl⟩
 rw [hC, ← hd]
 rw [← hd] at q2
 obtain ⟨b1, e1⟩ : ∃ b, b = decide p.formed := ⟨_, rfl⟩
 rw [← e1] at q1
 refine PSpec.of_vc (fun Γ => more6 false Γ.P Γ.fx) (fun Γ => more6_ok) Tryz.func14 rfl Tryz.call14 (by simp) ?_
 rintro ⟨P, N, w0, X, β0, fx, y, hy, pk, df⟩ rfl rfl rfl hoff rfl; change y.on = false at hoff
 skip
 refine .inl ⟨_, q1, ?_⟩
 repeat' ((try conv => whnf); first|refine k5 (fun hb => ?_) fun hb => ?_|refine aq rfl ?_|fail)
 · have hf : p.formed := of_decide_eq_true (by rw [← e1]; assumption)
   rw [if_pos hf]
   refine .inl ⟨_, q2, ?_⟩
   repeat' ((try conv => whnf); first|(first|refine k3 ?_ ?_|refine k4 ?_ ?_) <;> intro hb <;> (try rw [lM] at hb) <;> try (exfalso; omega)|refine aq rfl ?_|fail)
   · rw [if_pos (by assumption)]
     exact PSub.tup ⟨PSub.agg ⟨PSub.refl _, PSub.refl _, sub_dc (SubL.refl _)⟩, PSub.refl _, trivial⟩
   · refine sub_zeroP ?_
     rw [if_neg (by assumption)]
 · refine sub_zeroP ?_
   rw [if_neg (fun h => by rw [decide_eq_true h] at e1; simp_all)]
theorem pcount_spec (p : Party) (kind : Int) (hl : p.log.length ≤ 1000000) : PSpec Tryz.prog 18 [.agg (encP p), .int kind] (.int (countL p.log kind)) := by
 refine PSpec.of_vc (fun Γ => more6 false Γ.P Γ.fx) (fun Γ => more6_ok) Tryz.func18 rfl Tryz.call18 (by simp) ?_
 rintro ⟨P, N, w0, X, β0, fx, y, hy, pk, df⟩ rfl rfl rfl hoff rfl; change y.on = false at hoff
 skip
 refine Wp.loop (fun k : Nat => ⟨[(1, .int kind), (4, .int (countL (p.log.take k) kind)), (8, .pure (encRs p.log)), (9, .int p.log.length), (10, .int k)], [], []⟩) (fun k => k ≤ p.log.length) (fun k => p.log.length - k) 0 (Le.of ?_ ?_ rfl rfl rfl) (by omega) ?_
 · (repeat' (first|exact trivial|refine aq ?_ ?_|exact oq|exact l1 bd|fail))
 · (repeat' (first|exact trivial|fail))
 intro k hk
 have hc1 := countL_le (p.log.take k) kind
 rw [List.length_take] at hc1
 by_cases hk2 : k < p.log.length
 · have ht := countL_take (kind := kind) hk2
   refine code_sound (more := more6 false _ _) more6_ok FOK.wide _ ?_
   repeat' ((try conv => whnf); first|(first|refine k3 ?_ ?_|refine k4 ?_ ?_) <;> intro hb <;> (try rw [lM] at hb) <;> try (exfalso; omega)|refine aq rfl ?_|refine s4 nm ?_|refine s5 nm nm ?_|fail)
   · exact ⟨k + 1, Le.of (by (repeat' (first|exact trivial|refine aq ?_ ?_|exact oq|fail)); all_goals exact SubA.int (by rw [ht, if_pos (by assumption)]; omega)) (by (repeat' (first|exact trivial|fail))) rfl rfl rfl, by omega, by omega⟩
   · exact ⟨k + 1, Le.of (by (repeat' (first|exact trivial|refine aq ?_ ?_|exact oq|fail)); all_goals exact SubA.int (by rw [ht, if_neg (by assumption)]; omega)) (by (repeat' (first|exact trivial|fail))) rfl rfl rfl, by omega, by omega⟩
 · have ek : k = p.log.length := by omega
   subst ek
   refine code_sound (more := more6 false _ _) more6_ok FOK.wide _ ?_
   repeat' ((try conv => whnf); first|(first|refine k3 ?_ ?_|refine k4 ?_ ?_) <;> intro hb <;> (try rw [lM] at hb) <;> try (exfalso; omega)|fail)
   exact PSub.val_int (by rw [List.take_length])
end Go.Proofs.YtjfjpnefohbobaaGreatDoor
