/- Journals: a sector of a record, byte by byte; it is good. Conditions: none. -/
import Derived.Test.YtcgpikmaapallaaWh
import Derived.Test.YtcgpikmaapallaaWi
import Derived.Test.YtcgpikmaapallaaWj
import Derived.Test.YtcgpikmaapallaaWd
set_option linter.unusedSimpArgs false
set_option linter.unusedVariables false
namespace Go.Proofs.Ytcgpikmaapallaa
open Go.Avc
def n4 (n : Nat) : List UInt8 := [UInt8.ofNat (n / 2 ^ 24), UInt8.ofNat (n / 2 ^ 16), UInt8.ofNat (n / 2 ^ 8), UInt8.ofNat (n / 2 ^ 0)]
def kindB (bg en : Bool) : UInt8 := (if bg then 1 else 0) + (if en then 2 else 0)
def bodyOf (k : Nat) (bg en : Bool) (p : List UInt8) : List UInt8 := [UInt8.ofNat (k / 256), UInt8.ofNat k, kindB bg en, UInt8.ofNat p.length] ++ p ++ List.replicate (112 - p.length) 0
theorem bodyOf_len (k : Nat) (bg en : Bool) (p : List UInt8) (h : p.length ≤ 112) : (bodyOf k bg en p).length = 116 := by simp [bodyOf]; omega
theorem sec2_eq (g k : Nat) (bg en : Bool) : sec2 g k bg en = n4 g ++ [0, 0, 0, 0, UInt8.ofNat (k / 256), UInt8.ofNat k, kindB bg en, 0] ++ (List.replicate 112 0 ++ n4 g) := by
  have h0 : sec0 g k = n4 g ++ [0, 0, 0, 0, UInt8.ofNat (k / 256), UInt8.ofNat k, 0, 0] ++ (List.replicate 112 0 ++ n4 g) := rfl
  have ho : ∀ (a b x f : UInt8) (r : List UInt8), orAt (n4 g ++ [0, 0, 0, 0, a, b, x, 0] ++ r) f = n4 g ++ [0, 0, 0, 0, a, b, x ||| f, 0] ++ r := fun a b x f r => rfl
  have e1 : (0 : UInt8) ||| 1 = 1 := by decide
  have e2 : (0 : UInt8) ||| 2 = 2 := by decide
  have e3 : (1 : UInt8) ||| 2 = 3 := by decide
  have f0 : kindB false false = 0 := by decide
  have f1 : kindB true false = 1 := by decide
  have f2 : kindB false true = 2 := by decide
  have f3 : kindB true true = 3 := by decide
  cases bg <;> cases en <;> simp only [sec2, sec1, if_true, if_false, Bool.false_eq_true, h0, ho, e1, e2, e3, f0, f1, f2, f3]
theorem sec3_eq (g k : Nat) (bg en : Bool) (p : List UInt8) (h : p.length ≤ 112) : sec3 g k bg en p = n4 g ++ ([0, 0, 0, 0] ++ (bodyOf k bg en p ++ n4 g)) := by
  unfold sec3
  rw [sec2_eq]
  have e1 : (n4 g ++ [0, 0, 0, 0, UInt8.ofNat (k / 256), UInt8.ofNat k, kindB bg en, 0] ++ (List.replicate 112 0 ++ n4 g)).set 11 (UInt8.ofNat p.length)
      = (n4 g ++ [0, 0, 0, 0, UInt8.ofNat (k / 256), UInt8.ofNat k, kindB bg en, UInt8.ofNat p.length]) ++ (List.replicate 112 0 ++ n4 g) := rfl
  rw [e1]
  unfold ovr
  rw [List.take_left' (by rfl), List.take_of_length_le (Nat.le_refl _), List.drop_append, show List.drop (12 + p.length) (n4 g ++ [0, 0, 0, 0, UInt8.ofNat (k / 256), UInt8.ofNat k, kindB bg en, UInt8.ofNat p.length]) = [] from List.drop_eq_nil_of_le (by show 12 ≤ _; omega),
    show 12 + p.length - (n4 g ++ [0, 0, 0, 0, UInt8.ofNat (k / 256), UInt8.ofNat k, kindB bg en, UInt8.ofNat p.length]).length = p.length by (show 12 + p.length - 12 = _); omega, List.drop_append, List.drop_replicate, List.length_replicate, show p.length - 112 = 0 by omega, List.drop_zero]
  unfold bodyOf
  simp
theorem setB_n4 (a b c d e f g h : UInt8) (l : List UInt8) (n : Nat) : setB (a :: b :: c :: d :: e :: f :: g :: h :: l) 4 n 4 = a :: b :: c :: d :: (n4 n ++ l) := by
  simp [setB, n4]
theorem secOf_eq (g k : Nat) (bg en : Bool) (p : List UInt8) (h : p.length ≤ 112) : secOf g k bg en p = n4 g ++ (n4 (crc (bodyOf k bg en p)) ++ (bodyOf k bg en p ++ n4 g)) := by
  have hb : body (sec3 g k bg en p) = bodyOf k bg en p := by
    rw [sec3_eq g k bg en p h]
    unfold body
    rw [show List.drop 8 (n4 g ++ ([0, 0, 0, 0] ++ (bodyOf k bg en p ++ n4 g))) = bodyOf k bg en p ++ n4 g from rfl]
    exact List.take_left' (bodyOf_len k bg en p h)
  unfold secOf
  rw [hb, sec3_eq g k bg en p h]
  exact setB_n4 _ _ _ _ _ _ _ _ _ _
theorem four_n4 (n : Nat) (hn : n < 4294967296) (l : List UInt8) : four (n4 n ++ l) 0 = n := by
  simp only [four, n4, List.cons_append, List.nil_append, List.getD_cons_zero, List.getD_cons_succ, UInt8.toNat_ofNat', Nat.reducePow, Nat.pow_zero, Nat.div_one]
  omega
theorem four_app (l m : List UInt8) (a : Nat) (h : l.length = a) : four (l ++ m) a = four m 0 := by
  subst h
  simp [four, List.getD, List.getElem?_append_right]
theorem body_secOf (g k : Nat) (bg en : Bool) (p : List UInt8) (h : p.length ≤ 112) : body (secOf g k bg en p) = bodyOf k bg en p := by
  rw [secOf_eq g k bg en p h]
  unfold body
  rw [show List.drop 8 (n4 g ++ (n4 (crc (bodyOf k bg en p)) ++ (bodyOf k bg en p ++ n4 g))) = bodyOf k bg en p ++ n4 g from rfl]
  exact List.take_left' (bodyOf_len k bg en p h)
theorem crc_lt (l : List UInt8) : crc l < 4294967296 := by unfold crc; exact Nat.xor_lt_two_pow (n := 32) (by decide) (crcN_lt _)
theorem secOf_four0 (g k : Nat) (bg en : Bool) (p : List UInt8) (h : p.length ≤ 112) (hg : g < 4294967296) : four (secOf g k bg en p) 0 = g := by
  rw [secOf_eq g k bg en p h]; exact four_n4 g hg _
theorem secOf_four4 (g k : Nat) (bg en : Bool) (p : List UInt8) (h : p.length ≤ 112) : four (secOf g k bg en p) 4 = crc (bodyOf k bg en p) := by
  rw [secOf_eq g k bg en p h, four_app _ _ 4 rfl]; exact four_n4 _ (crc_lt _) _
theorem secOf_four124 (g k : Nat) (bg en : Bool) (p : List UInt8) (h : p.length ≤ 112) (hg : g < 4294967296) : four (secOf g k bg en p) 124 = g := by
  have e : secOf g k bg en p = (n4 g ++ n4 (crc (bodyOf k bg en p)) ++ bodyOf k bg en p) ++ (n4 g ++ []) := by rw [secOf_eq g k bg en p h]; simp
  rw [e, four_app _ _ 124 (by rw [List.length_append, bodyOf_len k bg en p h]; rfl)]
  exact four_n4 g hg _
theorem secOf_get (g k : Nat) (bg en : Bool) (p : List UInt8) (h : p.length ≤ 112) (i : Nat) (hi : i < 4) : (secOf g k bg en p).getD (8 + i) 0 = [UInt8.ofNat (k / 256), UInt8.ofNat k, kindB bg en, UInt8.ofNat p.length].getD i 0 := by
  rw [secOf_eq g k bg en p h]
  unfold bodyOf
  match i, hi with
  | 0, _ => rfl
  | 1, _ => rfl
  | 2, _ => rfl
  | 3, _ => rfl
theorem secOf_size (g k : Nat) (bg en : Bool) (p : List UInt8) (h : p.length ≤ 112) : sizeF (secOf g k bg en p) = p.length := by
  unfold sizeF
  rw [secOf_get g k bg en p h 3 (by omega)]
  simp only [List.getD_cons_zero, List.getD_cons_succ, UInt8.toNat_ofNat']
  omega
theorem secOf_num (g k : Nat) (bg en : Bool) (p : List UInt8) (h : p.length ≤ 112) (hk : k < 65536) : numF (secOf g k bg en p) = k := by
  unfold numF
  rw [secOf_get g k bg en p h 0 (by omega), secOf_get g k bg en p h 1 (by omega)]
  simp only [List.getD_cons_zero, List.getD_cons_succ, UInt8.toNat_ofNat']
  omega
theorem secOf_kind (g k : Nat) (bg en : Bool) (p : List UInt8) (h : p.length ≤ 112) : (secOf g k bg en p).getD 10 0 = kindB bg en := by
  rw [secOf_get g k bg en p h 2 (by omega)]; rfl
theorem secOf_has1 (g k : Nat) (bg en : Bool) (p : List UInt8) (h : p.length ≤ 112) : hasF (secOf g k bg en p) 1 = bg := by
  unfold hasF; rw [secOf_kind g k bg en p h]; cases bg <;> cases en <;> decide
theorem secOf_has2 (g k : Nat) (bg en : Bool) (p : List UInt8) (h : p.length ≤ 112) : hasF (secOf g k bg en p) 2 = en := by
  unfold hasF; rw [secOf_kind g k bg en p h]; cases bg <;> cases en <;> decide
theorem secOf_from12 (g k : Nat) (bg en : Bool) (p : List UInt8) (h : p.length ≤ 112) : (secOf g k bg en p).drop 12 = p ++ (List.replicate (112 - p.length) 0 ++ n4 g) := by
  rw [secOf_eq g k bg en p h]
  unfold bodyOf
  simp only [List.append_assoc]
  rfl
theorem secOf_data (g k : Nat) (bg en : Bool) (p : List UInt8) (h : p.length ≤ 112) : dataF (secOf g k bg en p) = p := by
  unfold dataF
  rw [secOf_size g k bg en p h, secOf_from12 g k bg en p h]
  exact List.take_left' rfl
/-- A sector that is written is good. -/
theorem secOf_good (g k : Nat) (bg en : Bool) (p : List UInt8) (h : p.length ≤ 112) (hg : g < 4294967296) (hg0 : 0 < g) (hk : k < 65536) (he : en = false → p.length = 112) (hb : bg = false → 1 ≤ p.length) : GoodP (secOf g k bg en p) k := by
  refine ⟨by rw [secOf_four0 g k bg en p h hg]; omega, by rw [secOf_four0 g k bg en p h hg, secOf_four124 g k bg en p h hg], by rw [secOf_num g k bg en p h hk], ?_, by rw [secOf_size g k bg en p h]; exact h, ?_, ?_, ?_, ?_⟩
  · rw [secOf_kind g k bg en p h]; cases bg <;> cases en <;> decide
  · rw [secOf_has2 g k bg en p h, secOf_size g k bg en p h]; exact he
  · rw [secOf_has1 g k bg en p h, secOf_size g k bg en p h]; exact hb
  · rw [secOf_size g k bg en p h, ← List.drop_drop, secOf_from12 g k bg en p h, List.drop_left' rfl, List.take_left' (by simp)]
    intro b hb; exact (List.mem_replicate.1 hb).2
  · rw [secOf_four4 g k bg en p h, body_secOf g k bg en p h]
end Go.Proofs.Ytcgpikmaapallaa
/- Journals: what is read from sectors that were written. Conditions: none. -/
namespace Go.Proofs.Ytcgpikmaapallaa
open Go.Avc
def secE (b : List UInt8) (first g i : Nat) : List UInt8 := secOf g (first + i) (i == 0) (i + 1 == piecesN b.length) (partOf b i)
theorem partOf_full {b : List UInt8} {i : Nat} (h : i + 1 < piecesN b.length) : (partOf b i).length = 112 := by
  unfold piecesN at h; simp only [partOf, List.length_take, List.length_drop]; omega
theorem partOf_pos {b : List UInt8} {i : Nat} (h : i < piecesN b.length) (h0 : 0 < i) : 1 ≤ (partOf b i).length := by
  unfold piecesN at h; simp only [partOf, List.length_take, List.length_drop]; omega
theorem take_part (b : List UInt8) (i : Nat) : b.take (112 * i) ++ partOf b i = b.take (112 * (i + 1)) := by
  unfold partOf; rw [Nat.mul_succ, List.take_add]
theorem pieces_cov (n : Nat) : n ≤ 112 * piecesN n := by unfold piecesN; omega
theorem pieces_pos (n : Nat) : 1 ≤ piecesN n := by unfold piecesN; omega
theorem encodeL_get (b : List UInt8) (first g i : Nat) (h : i < (encodeL b first g).length) : (encodeL b first g)[i] = secE b first g i := by simp [encodeL, secE]
theorem encodeL_drop (b : List UInt8) (first g i : Nat) (h : i < piecesN b.length) : (encodeL b first g).drop i = secE b first g i :: (encodeL b first g).drop (i + 1) := by
  rw [List.drop_eq_getElem_cons (by rw [encodeL_len]; exact h), encodeL_get]
theorem secE_good {b : List UInt8} {first g i : Nat} (hg : g < 4294967296) (hg0 : 0 < g) (hk : first + i < 65536) (h : i < piecesN b.length) : GoodP (secE b first g i) (first + i : Nat) :=
  secOf_good g (first + i) _ _ _ (partOf_le b i) hg hg0 hk (fun he => partOf_full (by have : ¬ i + 1 = piecesN b.length := by simpa using he
                                                                                      omega)) (fun hb => partOf_pos h (by have : ¬ i = 0 := by simpa using hb
                                                                                                                          omega))
theorem secE_has1 (b : List UInt8) (first g i : Nat) : hasF (secE b first g i) 1 = (i == 0) := secOf_has1 _ _ _ _ _ (partOf_le b i)
theorem secE_has2 (b : List UInt8) (first g i : Nat) : hasF (secE b first g i) 2 = (i + 1 == piecesN b.length) := secOf_has2 _ _ _ _ _ (partOf_le b i)
theorem secE_four (b : List UInt8) (first g i : Nat) (hg : g < 4294967296) : four (secE b first g i) 0 = g := secOf_four0 _ _ _ _ _ (partOf_le b i) hg
theorem secE_four124 (b : List UInt8) (first g i : Nat) (hg : g < 4294967296) : four (secE b first g i) 124 = g := secOf_four124 _ _ _ _ _ (partOf_le b i) hg
theorem secE_data (b : List UInt8) (first g i : Nat) : dataF (secE b first g i) = partOf b i := secOf_data _ _ _ _ _ (partOf_le b i)
theorem secE_len (b : List UInt8) (first g i : Nat) : (secE b first g i).length = 128 := secOf_len _ _ _ _ (partOf_le b i)
theorem cont_enc {b : List UInt8} {first g : Nat} (hg : g < 4294967296) (hg0 : 0 < g) (hk : first + piecesN b.length ≤ 65536) (tail : List (List UInt8)) : ∀ (m i : Nat), i + m + 1 = piecesN b.length →
    contL g (first + i) (secE b first g i) (b.take (112 * (i + 1))) ((encodeL b first g).drop (i + 1) ++ tail) = some (b, first + piecesN b.length - 1, tail)
  | 0, i, h => by
    have hp := pieces_cov b.length
    rw [contL_has (by rw [secE_has2]; simpa using h), List.take_of_length_le (by rw [← h] at hp; omega), List.drop_eq_nil_of_le (by rw [encodeL_len]; omega)]
    simp only [List.nil_append]
    congr 3; omega
  | m + 1, i, h => by
    rw [encodeL_drop b first g (i + 1) (by omega), List.cons_append, contL_next (k := first + i) (by rw [secE_has2]; simp; omega) ⟨secE_good (i := i + 1) hg hg0 (by omega) (by omega), by rw [secE_has1]; rfl, secE_four b first g (i + 1) hg⟩, secE_data, take_part]
    exact cont_enc hg hg0 hk tail m (i + 1) (by omega)
theorem recsL_enc {b : List UInt8} {first g gen f : Nat} (hg : g < 4294967296) (hg0 : 0 < g) (hgen : gen ≤ g) (hk : first + piecesN b.length ≤ 65536) (tail : List (List UInt8)) :
    recsL (f + 1) gen first (encodeL b first g ++ tail) = b :: recsL f g (first + piecesN b.length) tail := by
  have hp := pieces_pos b.length
  have e := encodeL_drop b first g 0 hp
  rw [List.drop_zero] at e
  have hc := cont_enc (b := b) hg hg0 hk tail (piecesN b.length - 1) 0 (by omega)
  have e0 : b.take (112 * (0 + 1)) = dataF (secE b first g 0) := by rw [secE_data, ← take_part]; simp
  rw [e0, Nat.add_zero] at hc
  rw [e, List.cons_append, recsL, if_pos ⟨by have := secE_good (b := b) (i := 0) (first := first) hg hg0 (by omega) hp; simpa using this, by rw [secE_has1]; rfl, by rw [secE_four _ _ _ _ hg]; exact hgen⟩, secE_four _ _ _ _ hg, hc]
  simp only
  rw [show first + piecesN b.length - 1 + 1 = first + piecesN b.length by omega]
/-- Records one after the other, each with its generation. -/
def lay : Nat → List (List UInt8 × Nat) → List (List UInt8)
  | _, [] => []
  | k, (b, g) :: R => encodeL b k g ++ lay (k + piecesN b.length) R
def occR (R : List (List UInt8 × Nat)) : Nat := occN (R.map (·.1))
def genOK : Nat → List (List UInt8 × Nat) → Prop
  | _, [] => True
  | gen, (_, g) :: R => gen ≤ g ∧ g < 4294967296 ∧ genOK g R
def lastG : Nat → List (List UInt8 × Nat) → Nat
  | gen, [] => gen
  | _, (_, g) :: R => lastG g R
theorem occR_cons (x : List UInt8 × Nat) (R : List (List UInt8 × Nat)) : occR (x :: R) = piecesN x.1.length + occR R := by simp [occR, occN]
theorem occR_append (R R' : List (List UInt8 × Nat)) : occR (R ++ R') = occR R + occR R' := by simp [occR, occN]
theorem lay_len : ∀ (R : List (List UInt8 × Nat)) (k : Nat), (lay k R).length = occR R
  | [], _ => rfl
  | (b, g) :: R, k => by rw [lay, List.length_append, encodeL_len, lay_len R, occR_cons]
theorem lay_append : ∀ (R R' : List (List UInt8 × Nat)) (k : Nat), lay k (R ++ R') = lay k R ++ lay (k + occR R) R'
  | [], R', k => by simp [lay, occR, occN]
  | (b, g) :: R, R', k => by rw [List.cons_append, lay, lay, lay_append R R', occR_cons, List.append_assoc, Nat.add_assoc]
theorem lay_128 : ∀ (R : List (List UInt8 × Nat)) (k : Nat), ∀ s ∈ lay k R, s.length = 128
  | [], _, s, h => by simp [lay] at h
  | (b, g) :: R, k, s, h => by
    rw [lay] at h
    rcases List.mem_append.1 h with h | h
    · exact encodeL_128 b k g s h
    · exact lay_128 R _ s h
theorem genOK_append : ∀ (R R' : List (List UInt8 × Nat)) (gen : Nat), genOK gen R → genOK (lastG gen R) R' → genOK gen (R ++ R')
  | [], _, _, _, h => h
  | (_, _) :: R, R', _, ⟨h1, h2, h3⟩, h => ⟨h1, h2, genOK_append R R' _ h3 h⟩
theorem lastG_append : ∀ (R R' : List (List UInt8 × Nat)) (gen : Nat), lastG gen (R ++ R') = lastG (lastG gen R) R'
  | [], _, _ => rfl
  | (_, _) :: R, R', _ => lastG_append R R' _
theorem recsL_lay : ∀ (R : List (List UInt8 × Nat)) (f gen k : Nat) (tail : List (List UInt8)), 0 < gen → genOK gen R → k + occR R ≤ 65536 →
    recsL (f + R.length) gen k (lay k R ++ tail) = R.map (·.1) ++ recsL f (lastG gen R) (k + occR R) tail
  | [], f, gen, k, tail, _, _, _ => by simp [lay, lastG, occR, occN]
  | (b, g) :: R, f, gen, k, tail, h0, ⟨h1, h2, h3⟩, hk => by
    rw [occR_cons] at hk
    rw [lay, List.append_assoc, List.length_cons, ← Nat.add_assoc, recsL_enc h2 (by omega) h1 (by simp only at hk; omega), recsL_lay R f g _ tail (by omega) h3 (by simp only at hk; omega), lastG, occR_cons, List.map_cons, List.cons_append, Nat.add_assoc]
theorem occR_ge (R : List (List UInt8 × Nat)) : R.length ≤ occR R := by
  induction R with
  | nil => simp
  | cons x R ih => rw [occR_cons, List.length_cons]; have := pieces_pos x.1.length; omega
def Stop (gen k : Nat) (tail : List (List UInt8)) : Prop := ∀ f, recsL f gen k tail = []
theorem recs_lay {R : List (List UInt8 × Nat)} {tail : List (List UInt8)} (hg : genOK 1 R) (hk : occR R ≤ 65536) (hs : Stop (lastG 1 R) (occR R) tail) : recs (lay 0 R ++ tail) = R.map (·.1) := by
  unfold recs
  have hl : (lay 0 R ++ tail).length = ((lay 0 R ++ tail).length - R.length) + R.length := by
    have := occR_ge R
    rw [List.length_append, lay_len]; omega
  rw [hl, recsL_lay R _ 1 0 tail (by omega) hg (by omega), Nat.zero_add, hs, List.append_nil]
theorem stop_nil (gen k : Nat) : Stop gen k [] := fun f => by cases f <;> rfl
theorem stop_bad {gen k : Nat} {s : List UInt8} {tail : List (List UInt8)} (h : ¬ (GoodP s k ∧ hasF s 1 = true ∧ gen ≤ four s 0)) : Stop gen k (s :: tail) := fun f => by
  cases f with
  | zero => rfl
  | succ f => rw [recsL, if_neg h]
theorem stop_old {gen k : Nat} {tail : List (List UInt8)} (h : ∀ s ∈ tail, four s 0 < gen) : Stop gen k tail := by
  cases tail with
  | nil => exact stop_nil gen k
  | cons s l => exact stop_bad fun hh => by have := h s (.head _); have := hh.2.2; omega
/-- A record whose sectors are interrupted by one that is not good is not there. -/
theorem cont_torn {b : List UInt8} {first g : Nat} (hg : g < 4294967296) {t : List UInt8} (ht : ∀ k : Int, ¬ GoodP t k) (tail : List (List UInt8)) (m : Nat) (hm : m < piecesN b.length) (hg0 : 0 < g) (hk : first + piecesN b.length ≤ 65536) : ∀ (d i : Nat) (acc : List UInt8), i + d + 1 = m →
    contL g (first + i) (secE b first g i) acc (((encodeL b first g).drop (i + 1)).take (m - (i + 1)) ++ t :: tail) = none
  | 0, i, acc, h => by
    rw [show m - (i + 1) = 0 by omega, List.take_zero, List.nil_append]
    exact contL_bad (by rw [secE_has2]; simp; omega) fun hh => ht _ hh.1
  | d + 1, i, acc, h => by
    rw [encodeL_drop b first g (i + 1) (by omega), show m - (i + 1) = (m - (i + 1 + 1)) + 1 by omega, List.take_succ_cons, List.cons_append,
      contL_next (k := first + i) (by rw [secE_has2]; simp; omega) ⟨secE_good (i := i + 1) hg hg0 (by omega) (by omega), by rw [secE_has1]; rfl, secE_four b first g (i + 1) hg⟩]
    exact cont_torn hg ht tail m hm hg0 hk d (i + 1) _ (by omega)
theorem stop_torn {b : List UInt8} {first g : Nat} (hg : g < 4294967296) (hg0 : 0 < g) (hk : first + piecesN b.length ≤ 65536) {t : List UInt8} (ht : ∀ k : Int, ¬ GoodP t k) (tail : List (List UInt8)) (m : Nat) (hm : m < piecesN b.length) (gen : Nat) :
    Stop gen first ((encodeL b first g).take m ++ t :: tail) := by
  cases m with
  | zero => rw [List.take_zero, List.nil_append]; exact stop_bad fun h => ht _ h.1
  | succ m =>
    have e := encodeL_drop b first g 0 (pieces_pos _)
    rw [List.drop_zero] at e
    intro f
    cases f with
    | zero => rfl
    | succ f =>
      rw [e, List.take_succ_cons, List.cons_append, recsL]
      split
      · rw [secE_four b first g 0 hg]
        have := cont_torn (b := b) (first := first) hg ht tail (m + 1) hm hg0 hk m 0 (dataF (secE b first g 0)) (by omega)
        rw [Nat.add_zero, show m + 1 - (0 + 1) = m by omega] at this
        rw [this]
      · rfl
theorem torn_lay {g : Nat} (hg : g < 4294967296) (hg0 : 0 < g) {t : List UInt8} (ht : ∀ k : Int, ¬ GoodP t k) (tail : List (List UInt8)) : ∀ (l : List (List UInt8)) (a m : Nat), a + occN l ≤ 65536 → m < occN l →
    ∃ j, j ≤ l.length ∧ ∃ tl, (lay a (l.map (·, g))).take m ++ t :: tail = lay a ((l.take j).map (·, g)) ++ tl ∧ ∀ gen, Stop gen (a + occN (l.take j)) tl
  | [], a, m, _, h => by simp [occN] at h
  | b :: l, a, m, ha, h => by
    have e : occN (b :: l) = piecesN b.length + occN l := by simp [occN]
    rw [e] at ha h
    by_cases hm : m < piecesN b.length
    · refine ⟨0, by omega, _, rfl, fun gen => ?_⟩
      simp only [List.take_zero, List.map_cons, lay]
      rw [List.take_append_of_le_length (by rw [encodeL_len]; omega), show a + occN [] = a from rfl]
      exact stop_torn hg hg0 (by omega) ht tail m hm gen
    · obtain ⟨j, hj, tl, h1, h2⟩ := torn_lay hg hg0 ht tail l (a + piecesN b.length) (m - piecesN b.length) (by omega) (by omega)
      refine ⟨j + 1, by simp; omega, tl, ?_, fun gen => ?_⟩
      · rw [List.take_succ_cons, List.map_cons, List.map_cons, lay, lay, List.take_append, List.take_of_length_le (by rw [encodeL_len]; omega), encodeL_len, List.append_assoc, h1, List.append_assoc]
      · have e2 : occN ((b :: l).take (j + 1)) = piecesN b.length + occN (l.take j) := by simp [occN]
        rw [e2, ← Nat.add_assoc]; exact h2 gen
end Go.Proofs.Ytcgpikmaapallaa
/- Journals: what Sync leaves on the disk. Conditions: none. -/
namespace Go.Proofs.Ytcgpikmaapallaa
open Go.Avc
def seqW : Nat → List (List UInt8) → List (Int × List UInt8)
  | _, [] => []
  | a, w :: ws => ((a : Int), w) :: seqW (a + 1) ws
theorem seqW_zip : ∀ (ws : List (List UInt8)) (a : Nat), (ws.zipIdx a).map (fun x => ((x.2 : Int), x.1)) = seqW a ws
  | [], _ => rfl
  | w :: ws, a => by simp only [List.zipIdx_cons, List.map_cons, seqW, seqW_zip ws (a + 1)]
theorem seqW_append : ∀ (ws vs : List (List UInt8)) (a : Nat), seqW a (ws ++ vs) = seqW a ws ++ seqW (a + ws.length) vs
  | [], vs, a => by simp [seqW]
  | w :: ws, vs, a => by simp only [List.cons_append, seqW, seqW_append ws vs (a + 1), List.length_cons]; rw [show a + 1 + ws.length = a + (ws.length + 1) by omega]
theorem seqW_len : ∀ (ws : List (List UInt8)) (a : Nat), (seqW a ws).length = ws.length
  | [], _ => rfl
  | w :: ws, a => by simp only [seqW, List.length_cons, seqW_len ws]
theorem seqW_take (ws : List (List UInt8)) (a m : Nat) : (seqW a ws).take m = seqW a (ws.take m) := by
  induction ws generalizing a m with
  | nil => simp [seqW]
  | cons w ws ih => cases m with
    | zero => simp [seqW]
    | succ m => simp only [seqW, List.take_succ_cons, ih]
theorem seqW_get (ws : List (List UInt8)) (a m : Nat) (h : m < ws.length) : (seqW a ws).getD m (0, []) = (((a + m : Nat) : Int), ws[m]) := by
  induction ws generalizing a m with
  | nil => simp at h
  | cons w ws ih => cases m with
    | zero => simp [seqW]
    | succ m =>
      simp only [seqW, List.getD_cons_succ, List.getElem_cons_succ]
      rw [ih (a + 1) m (by simpa using h), show a + 1 + m = a + (m + 1) by omega]
theorem seqW_mem {ws : List (List UInt8)} {a : Nat} {x : Int × List UInt8} (h : x ∈ seqW a ws) : (a : Int) ≤ x.1 ∧ x.1 < a + ws.length ∧ x.2 ∈ ws := by
  induction ws generalizing a with
  | nil => simp [seqW] at h
  | cons w ws ih =>
    rcases List.mem_cons.1 h with rfl | h
    · simp; omega
    · obtain ⟨h1, h2, h3⟩ := ih h
      simp only [List.length_cons]
      exact ⟨by omega, by omega, List.mem_cons_of_mem _ h3⟩
theorem putL_seq (g : Nat) : ∀ (l : List (List UInt8)) (a : Nat), putL g a l = seqW a (lay a (l.map (·, g)))
  | [], a => rfl
  | b :: l, a => by rw [putL, seqW_zip, putL_seq g l, List.map_cons, lay, seqW_append, encodeL_len]
theorem perform_seq : ∀ (ws : List (List UInt8)) (a : Nat) (ss : List (List UInt8)), a + ws.length ≤ ss.length → perform ss (seqW a ws) = ss.take a ++ (ws ++ ss.drop (a + ws.length))
  | [], a, ss, _ => by simp [perform, seqW]
  | w :: ws, a, ss, h => by
    simp only [List.length_cons] at h
    have e : perform ss (seqW a (w :: ws)) = perform (ss.set a w) (seqW (a + 1) ws) := by simp [perform, seqW]
    rw [e, perform_seq ws (a + 1) _ (by simp; omega), List.drop_set_of_lt (by omega), List.take_succ_eq_append_getElem (by simp; omega), List.take_set_of_le (by omega)]
    simp only [List.getElem_set_self, List.append_assoc, List.cons_append, List.nil_append, List.length_cons]
    rw [show a + 1 + ws.length = a + (ws.length + 1) by omega]
theorem greatL_ge {ss : List (List UInt8)} {s : List UInt8} (h : s ∈ ss) : four s 0 ≤ greatL ss ∧ four s 124 ≤ greatL ss := by
  have mono : ∀ (l : List (List UInt8)) (n : Nat), n ≤ l.foldl (fun n s => max (max n (four s 0)) (four s 124)) n := fun l => by
    induction l with
    | nil => intro n; exact Nat.le_refl _
    | cons s l ih => intro n; rw [List.foldl_cons]; exact Nat.le_trans (by omega) (ih _)
  have gen : ∀ (l : List (List UInt8)) (n : Nat), s ∈ l → four s 0 ≤ l.foldl (fun n s => max (max n (four s 0)) (four s 124)) n ∧ four s 124 ≤ l.foldl (fun n s => max (max n (four s 0)) (four s 124)) n := fun l => by
    induction l with
    | nil => intro n h; cases h
    | cons t l ih =>
      intro n h
      rw [List.foldl_cons]
      rcases List.mem_cons.1 h with rfl | h
      · have := mono l (max (max n (four s 0)) (four s 124)); omega
      · exact ih _ h
  exact gen ss 0 h
theorem greatL_le {ss : List (List UInt8)} {g : Nat} (h : ∀ s ∈ ss, four s 0 ≤ g ∧ four s 124 ≤ g) : greatL ss ≤ g := by
  unfold greatL
  suffices H : ∀ n, n ≤ g → ss.foldl (fun n s => max (max n (four s 0)) (four s 124)) n ≤ g from H 0 (by omega)
  induction ss with
  | nil => exact fun n h => h
  | cons s ss ih =>
    intro n hn
    have := h s (.head _)
    exact ih (fun t ht => h t (List.mem_cons_of_mem _ ht)) _ (by show max (max n (four s 0)) (four s 124) ≤ g; omega)
theorem lay_four {g : Nat} (hg : g < 4294967296) : ∀ (l : List (List UInt8)) (a : Nat), ∀ s ∈ lay a (l.map (·, g)), four s 0 = g ∧ four s 124 = g
  | [], _, s, h => by simp [lay] at h
  | b :: l, a, s, h => by
    rw [List.map_cons, lay] at h
    rcases List.mem_append.1 h with h | h
    · obtain ⟨i, hi, rfl⟩ := List.getElem_of_mem h
      rw [encodeL_get]
      exact ⟨secE_four b a g i hg, secE_four124 b a g i hg⟩
    · exact lay_four hg l _ s h
/-- The sectors hold the records R, each with its generation; the greatest number in them is G. -/
structure Inv (ss : List (List UInt8)) (R : List (List UInt8 × Nat)) (G : Nat) : Prop where
  s128 : ∀ s ∈ ss, s.length = 128
  gen : genOK 1 R
  last : lastG 1 R ≤ G + 1
  great : greatL ss = G
  fits : occR R ≤ 65536
  form : ∃ tail, ss = lay 0 R ++ tail ∧ Stop (lastG 1 R) (occR R) tail
theorem Inv.recs {ss : List (List UInt8)} {R : List (List UInt8 × Nat)} {G : Nat} (h : Inv ss R G) : recs ss = R.map (·.1) := by
  obtain ⟨tail, h1, h2⟩ := h.form
  rw [h1]; exact recs_lay h.gen h.fits h2
theorem genOK_map {g : Nat} (hg : g < 4294967296) : ∀ (l : List (List UInt8)) (gen : Nat), gen ≤ g → genOK gen (l.map (·, g))
  | [], _, _ => trivial
  | _ :: l, _, h => ⟨h, hg, genOK_map hg l g (Nat.le_refl _)⟩
theorem lastG_map {g : Nat} : ∀ (l : List (List UInt8)) (gen : Nat), gen ≤ g → lastG gen (l.map (·, g)) ≤ g
  | [], _, h => h
  | _ :: l, _, _ => lastG_map l g (Nat.le_refl _)
theorem lastG_map' {g : Nat} : ∀ (l : List (List UInt8)) (gen : Nat), l ≠ [] → lastG gen (l.map (·, g)) = g
  | [], _, h => absurd rfl h
  | [_], _, _ => rfl
  | _ :: b :: l, _, _ => lastG_map' (b :: l) g (by simp)
theorem occR_map (l : List (List UInt8)) (g : Nat) : occR (l.map (·, g)) = occN l := by simp [occR, Function.comp_def]
theorem torn_bad {w s : List UInt8} (hw : w.length = 128) (h : four w 0 ≠ four s 124) : ∀ k : Int, ¬ GoodP (w.take 64 ++ s.drop 64) k := by
  intro k hk
  have e1 : four (w.take 64 ++ s.drop 64) 0 = four w 0 := by
    have : ∀ i, i < 64 → (w.take 64 ++ s.drop 64).getD i 0 = w.getD i 0 := fun i hi => by
      simp only [List.getD]
      rw [List.getElem?_append_left (by simp; omega), List.getElem?_take, if_pos hi]
    simp only [four, this 0 (by omega), this (0 + 1) (by omega), this (0 + 2) (by omega), this (0 + 3) (by omega)]
  have e2 : four (w.take 64 ++ s.drop 64) 124 = four s 124 := by
    have : ∀ i, 64 ≤ i → (w.take 64 ++ s.drop 64).getD i 0 = s.getD i 0 := fun i hi => by
      simp only [List.getD]
      rw [List.getElem?_append_right (by simp; omega), List.getElem?_drop]
      congr 2; simp; omega
    simp only [four, this 124 (by omega), this (124 + 1) (by omega), this (124 + 2) (by omega), this (124 + 3) (by omega)]
  exact h (e1.symm.trans (hk.2.1.trans e2))
theorem torn_four {w s : List UInt8} (hw : w.length = 128) : four (w.take 64 ++ s.drop 64) 0 = four w 0 ∧ four (w.take 64 ++ s.drop 64) 124 = four s 124 := by
  refine ⟨?_, ?_⟩
  · have : ∀ i, i < 64 → (w.take 64 ++ s.drop 64).getD i 0 = w.getD i 0 := fun i hi => by
      simp only [List.getD]
      rw [List.getElem?_append_left (by simp; omega), List.getElem?_take, if_pos hi]
    simp only [four, this 0 (by omega), this (0 + 1) (by omega), this (0 + 2) (by omega), this (0 + 3) (by omega)]
  · have : ∀ i, 64 ≤ i → (w.take 64 ++ s.drop 64).getD i 0 = s.getD i 0 := fun i hi => by
      simp only [List.getD]
      rw [List.getElem?_append_right (by simp; omega), List.getElem?_drop]
      congr 2; simp; omega
    simp only [four, this 124 (by omega), this (124 + 1) (by omega), this (124 + 2) (by omega), this (124 + 3) (by omega)]
/-- All the writes are performed. -/
theorem Inv.whole {ss : List (List UInt8)} {R : List (List UInt8 × Nat)} {G : Nat} (h : Inv ss R G) {new : List (List UInt8)} (hocc : occR R + occN new ≤ ss.length) (hl : ss.length ≤ 4096) (hne : new ≠ []) (hG : G < 4294967295) :
    Inv (perform ss (putL (G + 1) (occR R) new)) (R ++ new.map (·, G + 1)) (G + 1) := by
  obtain ⟨tail, h1, h2⟩ := h.form
  have hpe : perform ss (putL (G + 1) (occR R) new) = lay 0 (R ++ new.map (·, G + 1)) ++ ss.drop (occR R + occN new) := by
    rw [putL_seq, perform_seq _ _ _ (by rw [lay_len, occR_map]; exact hocc), lay_len, occR_map, lay_append, Nat.zero_add]
    rw [show ss.take (occR R) = lay 0 R by rw [h1]; exact List.take_left' (lay_len R 0)]
    simp
  have hold : ∀ s ∈ ss, four s 0 ≤ G ∧ four s 124 ≤ G := fun s hs => by rw [← h.great]; exact greatL_ge hs
  have hR0 : ∀ s ∈ lay 0 R, four s 0 ≤ G ∧ four s 124 ≤ G := fun s hs => hold s (by rw [h1]; exact List.mem_append_left _ hs)
  have hlay : ∀ s ∈ lay (0 + occR R) (new.map (·, G + 1)), four s 0 = G + 1 ∧ four s 124 = G + 1 := lay_four (by omega) new _
  have hlast : lastG 1 (R ++ new.map (·, G + 1)) = G + 1 := by rw [lastG_append]; exact lastG_map' new _ hne
  refine ⟨?_, genOK_append _ _ _ h.gen (genOK_map (by omega) new _ h.last), by omega, ?_, by rw [occR_append, occR_map]; omega, _, hpe, ?_⟩
  · rw [hpe]
    intro s hs
    rcases List.mem_append.1 hs with hs | hs
    · exact lay_128 _ _ s hs
    · exact h.s128 s (List.mem_of_mem_drop hs)
  · rw [hpe]
    apply Nat.le_antisymm
    · refine greatL_le fun s hs => ?_
      rcases List.mem_append.1 hs with hs | hs
      · rw [lay_append] at hs
        rcases List.mem_append.1 hs with hs | hs
        · have := hR0 s hs; omega
        · have := hlay s hs; omega
      · have := hold s (List.mem_of_mem_drop hs); omega
    · cases new with
      | nil => exact absurd rfl hne
      | cons b l =>
        have e := encodeL_drop b (0 + occR R) (G + 1) 0 (pieces_pos _)
        rw [List.drop_zero] at e
        have hm : secE b (0 + occR R) (G + 1) 0 ∈ lay (0 + occR R) ((b :: l).map (·, G + 1)) := by
          rw [List.map_cons, lay, e]; exact List.mem_append_left _ (.head _)
        have hg := (hlay _ hm).1
        have := (greatL_ge (ss := lay 0 (R ++ (b :: l).map (·, G + 1)) ++ ss.drop (occR R + occN (b :: l))) (s := secE b (0 + occR R) (G + 1) 0) (List.mem_append_left _ (by rw [lay_append]; exact List.mem_append_right _ hm))).1
        omega
  · rw [hlast]
    exact stop_old fun s hs => by have := (hold s (List.mem_of_mem_drop hs)).1; omega
/-- The disk stops in the middle. -/
theorem Inv.torn {ss : List (List UInt8)} {R : List (List UInt8 × Nat)} {G : Nat} (h : Inv ss R G) {new : List (List UInt8)} (hocc : occR R + occN new ≤ ss.length) (hl : ss.length ≤ 4096) (hG : G < 4294967295) {m : Nat} (hm : m < occN new) :
    ∃ j, j ≤ new.length ∧ Inv (tear (perform ss ((putL (G + 1) (occR R) new).take m)) ((putL (G + 1) (occR R) new).getD m (0, []))) (R ++ (new.take j).map (·, G + 1)) (G + 1) := by
  obtain ⟨tail, h1, h2⟩ := h.form
  obtain ⟨W, hW⟩ : ∃ W, W = lay (occR R) (new.map (·, G + 1)) := ⟨_, rfl⟩
  have hWl : W.length = occN new := by rw [hW, lay_len, occR_map]
  have hWm := List.getElem_mem (show m < W.length by omega)
  have hW128 : W[m].length = 128 := lay_128 _ _ _ (by rw [← hW]; exact hWm)
  have hlay : ∀ s ∈ W, four s 0 = G + 1 ∧ four s 124 = G + 1 := by rw [hW]; exact lay_four (by omega) new _
  have hold : ∀ s ∈ ss, four s 0 ≤ G ∧ four s 124 ≤ G := fun s hs => by rw [← h.great]; exact greatL_ge hs
  have hlt : occR R + m < ss.length := by omega
  have hpe : perform ss ((putL (G + 1) (occR R) new).take m) = ss.take (occR R) ++ (W.take m ++ ss.drop (occR R + m)) := by
    rw [putL_seq, seqW_take, ← hW, perform_seq _ _ _ (by rw [List.length_take]; omega), List.length_take, Nat.min_eq_left (by omega)]
  have hdr : ss.drop (occR R + m) = ss[occR R + m] :: ss.drop (occR R + m + 1) := List.drop_eq_getElem_cons hlt
  have hte : tear (perform ss ((putL (G + 1) (occR R) new).take m)) ((putL (G + 1) (occR R) new).getD m (0, [])) = lay 0 R ++ (W.take m ++ (W[m].take 64 ++ ss[occR R + m].drop 64) :: ss.drop (occR R + m + 1)) := by
    rw [hpe, putL_seq, ← hW, seqW_get W _ m (by omega), show ss.take (occR R) = lay 0 R by rw [h1]; exact List.take_left' (lay_len R 0), hdr]
    unfold tear
    simp only [Int.toNat_natCast]
    have hl1 : (lay 0 R ++ W.take m).length = occR R + m := by rw [List.length_append, lay_len, List.length_take]; omega
    have e1 : lay 0 R ++ (W.take m ++ ss[occR R + m] :: ss.drop (occR R + m + 1)) = (lay 0 R ++ W.take m) ++ ss[occR R + m] :: ss.drop (occR R + m + 1) := by simp
    rw [e1]
    have e2 : ((lay 0 R ++ W.take m) ++ ss[occR R + m] :: ss.drop (occR R + m + 1)).getD (occR R + m) [] = ss[occR R + m] := by
      simp only [List.getD]
      rw [List.getElem?_append_right (by omega), hl1, Nat.sub_self, List.getElem?_cons_zero, Option.getD_some]
    rw [e2, List.set_append_right _ _ (by omega), hl1, Nat.sub_self, List.set_cons_zero]
    simp
  have hos := hold _ (List.getElem_mem hlt)
  have hwm := hlay _ hWm
  have htb := torn_bad (w := W[m]) (s := ss[occR R + m]) hW128 (by omega)
  have htf := torn_four (w := W[m]) (s := ss[occR R + m]) hW128
  obtain ⟨j, hj, tl, e1, e2⟩ := torn_lay (g := G + 1) (by omega) (by omega) htb (ss.drop (occR R + m + 1)) new (occR R) m (by omega) hm
  rw [← hW] at e1
  have hform : tear (perform ss ((putL (G + 1) (occR R) new).take m)) ((putL (G + 1) (occR R) new).getD m (0, [])) = lay 0 (R ++ (new.take j).map (·, G + 1)) ++ tl := by
    rw [hte, e1, lay_append, Nat.zero_add]; simp
  have hoj : occN (new.take j) ≤ occN new := by
    unfold occN
    conv => rhs; rw [← List.take_append_drop j new, List.map_append, List.sum_append]
    omega
  have hl : lastG 1 (R ++ (new.take j).map (·, G + 1)) ≤ G + 1 := by rw [lastG_append]; exact lastG_map _ _ h.last
  have hall : ∀ s ∈ tear (perform ss ((putL (G + 1) (occR R) new).take m)) ((putL (G + 1) (occR R) new).getD m (0, [])), s.length = 128 ∧ four s 0 ≤ G + 1 ∧ four s 124 ≤ G + 1 := by
    rw [hte]
    intro s hs
    rcases List.mem_append.1 hs with hs | hs
    · have hs' : s ∈ ss := by rw [h1]; exact List.mem_append_left _ hs
      have := hold s hs'
      exact ⟨h.s128 s hs', by omega, by omega⟩
    rcases List.mem_append.1 hs with hs | hs
    · have hs' := List.mem_of_mem_take hs
      have := hlay s hs'
      exact ⟨lay_128 _ _ _ (by rw [← hW]; exact hs'), by omega, by omega⟩
    rcases List.mem_cons.1 hs with rfl | hs
    · have h8 := h.s128 _ (List.getElem_mem hlt)
      exact ⟨by simp; omega, by omega, by omega⟩
    · have hs' := List.mem_of_mem_drop hs
      have := hold s hs'
      exact ⟨h.s128 s hs', by omega, by omega⟩
  refine ⟨j, hj, fun s hs => (hall s hs).1, genOK_append _ _ _ h.gen (genOK_map (by omega) _ _ h.last), by omega, ?_, by rw [occR_append, occR_map]; omega, tl, hform, ?_⟩
  · apply Nat.le_antisymm (greatL_le fun s hs => (hall s hs).2)
    have := (greatL_ge (ss := lay 0 R ++ (W.take m ++ (W[m].take 64 ++ ss[occR R + m].drop 64) :: ss.drop (occR R + m + 1))) (s := W[m].take 64 ++ ss[occR R + m].drop 64) (List.mem_append_right _ (List.mem_append_right _ (.head _)))).1
    rw [← hte] at this
    omega
  · rw [occR_append, occR_map]; exact e2 _
end Go.Proofs.Ytcgpikmaapallaa
/- Journals: Open, Append and Sync of a disk whose records are known. Conditions: none. -/
namespace Go.Proofs.Ytcgpikmaapallaa
open Go.Avc
structure InvD (d : Disk) (R : List (List UInt8 × Nat)) (G : Nat) : Prop where
  pend : d.pending = []
  run : d.stopped = false
  left : -1 ≤ d.left ∧ d.left ≤ 65536
  len : 1 ≤ d.sectors.length ∧ d.sectors.length ≤ 4096
  inv : Inv d.sectors R G
theorem InvD.good {d : Disk} {R : List (List UInt8 × Nat)} {G : Nat} (h : InvD d R G) : d.good := by
  have h1 := h.len
  have h2 := h.left
  exact ⟨by omega, by omega, by rw [h.pend]; simp, by omega, by omega, h.inv.s128, by rw [h.pend]; simp⟩
theorem InvD.open {d : Disk} {R : List (List UInt8 × Nat)} {G : Nat} (h : InvD d R G) : openJ d = (⟨R.map (·.1), d.sectors.length, R.length⟩, 0) := by
  unfold openJ
  rw [if_pos (check_good h.good), if_neg (by rw [h.run]; simp), if_neg (by rw [h.pend]; simp), h.inv.recs, List.length_map]
theorem occN_append (l m : List (List UInt8)) : occN (l ++ m) = occN l + occN m := by simp [occN]
/-- What Sync does. -/
theorem InvD.sync {d : Disk} {R : List (List UInt8 × Nat)} {G : Nat} (h : InvD d R G) (hG : G < 4294967295) {j : Jour} {new : List (List UInt8)} (hr : j.records = R.map (·.1) ++ new) (hm : j.many = d.sectors.length) (hs : j.synced = R.length)
    (hocc : occN j.records ≤ d.sectors.length) :
    (∃ d' G', j.sync d = (⟨j.records, j.many, j.records.length⟩, d', 0) ∧ d'.sectors.length = d.sectors.length ∧ InvD d' (R ++ new.map (·, G + 1)) G' ∧ G' ≤ G + 1 ∧ (d.left = -1 → d'.left = -1)) ∨
    (d.left ≠ -1 ∧ ∃ d' n G', j.sync d = (zeroJ, d', 470) ∧ d'.sectors.length = d.sectors.length ∧ n ≤ new.length ∧ InvD ⟨d'.sectors, [], -1, false⟩ (R ++ (new.take n).map (·, G + 1)) G' ∧ G' ≤ G + 1) := by
  have hl := h.len
  have hleft := h.left
  have hgood : j.good := ⟨by omega, by omega, by omega, by rw [hr, hs]; simp; omega, by omega⟩
  have htake : j.records.take j.synced.toNat = R.map (·.1) := by
    rw [hr, hs, Int.toNat_natCast]; exact List.take_left' (by simp)
  have hdrop : j.records.drop j.synced.toNat = new := by
    rw [hr, hs, Int.toNat_natCast]; exact List.drop_left' (by simp)
  have hoR : occN (R.map (·.1)) = occR R := rfl
  have hsum : occN j.records = occR R + occN new := by rw [hr, occN_append, hoR]
  have hsync : j.sync d = if j.synced = j.records.length then (j, d, 0) else
      if ({ d with pending := putL (G + 1) (occR R) new } : Disk).sync.2 = 0 then ({ j with synced := j.records.length }, ({ d with pending := putL (G + 1) (occR R) new } : Disk).sync.1, 0)
      else (zeroJ, ({ d with pending := putL (G + 1) (occR R) new } : Disk).sync.1, ({ d with pending := putL (G + 1) (occR R) new } : Disk).sync.2) := by
    unfold Jour.sync
    rw [if_neg (by simpa using hgood), if_neg (by simpa using check_good h.good), if_neg (by rw [h.run]; simp), if_neg (by rw [h.pend]; simp; omega), htake, if_neg (by rw [h.inv.recs]; simp), hdrop, h.inv.great, if_neg (by omega), hoR]
  rw [hsync]
  by_cases hne : new = []
  · subst hne
    rw [if_pos (by rw [hr, hs]; simp)]
    refine .inl ⟨d, G, ?_, rfl, by simpa using h, by omega, fun h => h⟩
    have : (j.records.length : Int) = j.synced := by rw [hr, hs]; simp
    rw [this]
  · have hnl : 0 < new.length := List.length_pos_iff.2 hne
    rw [if_neg (by rw [hr, hs]; simp; omega)]
    have hpl : (putL (G + 1) (occR R) new).length = occN new := putL_len _ _ _
    have hready : ({ d with pending := putL (G + 1) (occR R) new } : Disk).ready = 0 := by
      refine ready_ok (check_good ⟨(show ¬ d.sectors.length < 1 by omega), (show ¬ 4096 < d.sectors.length by omega), by simp only [hpl]; omega, (show ¬ d.left < -1 by omega), (show ¬ 65536 < d.left by omega), h.inv.s128, ?_⟩) h.run
      intro p hp
      simp only [putL_seq] at hp
      obtain ⟨p1, p2, p3⟩ := seqW_mem hp
      rw [lay_len, occR_map] at p2
      exact ⟨by omega, by simp only; omega, lay_128 _ _ _ p3⟩
    unfold Disk.sync
    rw [if_pos hready]
    simp only [hpl]
    by_cases hw : d.left = -1 ∨ (occN new : Int) ≤ d.left
    · rw [if_pos hw]
      simp only [if_true]
      refine .inl ⟨_, G + 1, rfl, by rw [perform_len], ⟨rfl, rfl, ?_, by rw [perform_len]; exact hl, h.inv.whole (by omega) hl.2 hne hG⟩, by omega, fun h => by simp [h]⟩
      simp only
      split <;> omega
    · rw [if_neg hw]
      rw [if_neg (by simp)]
      have hm : d.left.toNat < occN new := by omega
      obtain ⟨n, hn, hi⟩ := h.inv.torn (new := new) (by omega) hl.2 hG hm
      exact .inr ⟨by omega, _, n, G + 1, rfl, by simp [tear, perform_len], hn, ⟨rfl, rfl, by simp, by simp only [tear, List.length_set, perform_len]; exact hl, hi⟩, by omega⟩
/-- A new disk. -/
theorem new_inv {n : Nat} (h1 : 1 ≤ n) (h2 : n ≤ 4096) : InvD ⟨List.replicate n zeroS, [], -1, false⟩ [] 0 := by
  have hz : four zeroS 0 = 0 ∧ four zeroS 124 = 0 := by decide
  have hm : ∀ s ∈ List.replicate n zeroS, s = zeroS := fun s hs => (List.mem_replicate.1 hs).2
  refine ⟨rfl, rfl, by simp, by simp; omega, fun s hs => by rw [hm s hs]; rfl, trivial, by simp [lastG], ?_, by simp [occR, occN], _, rfl, stop_old fun s hs => by rw [hm s hs, hz.1]; simp [lastG]⟩
  exact Nat.le_zero.1 (greatL_le fun s hs => by rw [hm s hs]; omega)
/-- The records that are appended one after the other, as long as there is room. -/
def Jour.add (j : Jour) : List (List UInt8) → Jour
  | [] => j
  | b :: l => (if (j.append b).2 = 0 then (j.append b).1 else j).add l
theorem Jour.add_append (j : Jour) (l m : List (List UInt8)) : j.add (l ++ m) = (j.add l).add m := by
  induction l generalizing j with
  | nil => rfl
  | cons b l ih => rw [List.cons_append, Jour.add, ih, Jour.add]
theorem append_cases (j : Jour) (b : List UInt8) : ((j.append b).2 = 0 ∧ (j.append b).1 = ⟨j.records ++ [b], j.many, j.synced⟩ ∧ j.good ∧ occN j.records + piecesN b.length ≤ j.many) ∨ ((j.append b).2 ≠ 0 ∧ (j.append b).1 = zeroJ ∧ ¬ (j.good ∧ occN j.records + piecesN b.length ≤ j.many)) := by
  unfold Jour.append
  split
  · rename_i hg
    split
    · exact .inr ⟨by simp, rfl, fun h => by have := h.2; omega⟩
    · exact .inl ⟨rfl, rfl, hg, by omega⟩
  · rename_i hg; exact .inr ⟨by simp, rfl, fun h => hg h.1⟩
/-- What is added depends on the records and the room alone. -/
theorem Jour.add_spec (l : List (List UInt8)) : ∀ (j : Jour), j.good → ∃ new, (j.add l).records = j.records ++ new ∧ (j.add l).many = j.many ∧ (j.add l).synced = j.synced ∧ (j.add l).good ∧ lensN (j.add l).records ≤ lensN j.records + lensN l ∧
    ∀ j' : Jour, j'.good → j'.records = j.records → j'.many = j.many → (j'.add l).records = (j.add l).records := by
  induction l with
  | nil => intro j hg; exact ⟨[], by simp [Jour.add], rfl, rfl, hg, by simp [Jour.add], fun j' _ h _ => h⟩
  | cons b l ih =>
    intro j hg
    have hlen : lensN (b :: l) = b.length + 1 + lensN l := by simp [lensN]
    rcases append_cases j b with ⟨h1, h2, _, h4⟩ | ⟨h1, h2, h3⟩
    · have hg2 : (⟨j.records ++ [b], j.many, j.synced⟩ : Jour).good := by
        obtain ⟨g1, g2, g3, g4, g5⟩ := hg
        exact ⟨g1, g2, g3, by simp; omega, by simp only [occN_append]; simp only [occN, List.map_cons, List.map_nil, List.sum_cons, List.sum_nil] at h4 ⊢; omega⟩
      obtain ⟨new, e1, e2, e3, e4, e5, e6⟩ := ih _ hg2
      rw [Jour.add, if_pos h1, h2]
      refine ⟨b :: new, by rw [e1]; simp, e2, e3, e4, ?_, fun j' hg' hr hm => ?_⟩
      · rw [hlen]
        have : lensN (j.records ++ [b]) = lensN j.records + (b.length + 1) := by simp [lensN]
        simp only [this] at e5; omega
      · rcases append_cases j' b with ⟨k1, k2, _, _⟩ | ⟨k1, k2, k3⟩
        · rw [Jour.add, if_pos k1, k2]
          refine e6 _ ?_ (by simp only; rw [hr]) hm
          obtain ⟨g1, g2, g3, g4, g5⟩ := hg'
          obtain ⟨_, _, _, _, q5⟩ := hg2
          exact ⟨g1, g2, g3, by simp; omega, by simp only [hr, hm] at q5 ⊢; exact q5⟩
        · exact absurd ⟨hg', by rw [hr, hm]; exact h4⟩ k3
    · rw [Jour.add, if_neg h1]
      obtain ⟨new, e1, e2, e3, e4, e5, e6⟩ := ih j hg
      refine ⟨new, e1, e2, e3, e4, by rw [hlen]; omega, fun j' hg' hr hm => ?_⟩
      rcases append_cases j' b with ⟨k1, k2, _, k4⟩ | ⟨k1, k2, k3⟩
      · exact absurd ⟨hg, by rw [← hr, ← hm]; exact k4⟩ h3
      · rw [Jour.add, if_neg k1]; exact e6 j' hg' hr hm
end Go.Proofs.Ytcgpikmaapallaa
/- Journals: the law of syncing in steps is walked. Conditions: none. -/
namespace Go.Proofs.Ytcgpikmaapallaa
open Go.Avc
def d40 : Disk := ⟨List.replicate 40 zeroS, [], -1, false⟩
theorem new40 : newD 40 = (d40, 0) := rfl
theorem open40 : openJ d40 = (⟨[], 40, 0⟩, 0) := (new_inv (n := 40) (by omega) (by omega)).open
theorem InvD.again {d : Disk} {R : List (List UInt8 × Nat)} {G : Nat} (h : InvD d R G) (hG : G < 4294967295) {j : Jour} (hr : j.records = R.map (·.1)) (hm : j.many = d.sectors.length) (hs : j.synced = R.length)
    (hocc : occN j.records ≤ d.sectors.length) : j.sync d = (j, d, 0) := by
  have hl := h.len
  have hgood : j.good := ⟨by omega, by omega, by omega, by rw [hr, hs]; simp, by omega⟩
  have htake : j.records.take j.synced.toNat = R.map (·.1) := by
    rw [hr, hs, Int.toNat_natCast]; exact List.take_of_length_le (by simp)
  unfold Jour.sync
  rw [if_neg (by simpa using hgood), if_neg (by simpa using check_good h.good), if_neg (by rw [h.run]; simp), if_neg (by rw [h.pend]; simp; omega), htake, if_neg (by rw [h.inv.recs]; simp), h.inv.great, if_neg (by omega), if_pos (by rw [hr, hs]; simp)]
theorem Jour.eq_of {j : Jour} {r : List (List UInt8)} {m s : Int} (h1 : j.records = r) (h2 : j.many = m) (h3 : j.synced = s) : j = ⟨r, m, s⟩ := by subst h1 h2 h3; rfl
theorem steps_plain (a b : List (List UInt8)) : ∃ (A AB : List (List UInt8)) (c x y : Disk), (⟨[], 40, 0⟩ : Jour).add a = ⟨A, 40, 0⟩ ∧ (⟨A, 40, 0⟩ : Jour).add b = ⟨AB, 40, 0⟩ ∧ (⟨AB, 40, 0⟩ : Jour).sync d40 = (⟨AB, 40, AB.length⟩, c, 0) ∧
    (⟨A, 40, 0⟩ : Jour).sync d40 = (⟨A, 40, A.length⟩, x, 0) ∧ (⟨A, 40, A.length⟩ : Jour).add b = ⟨AB, 40, A.length⟩ ∧ (⟨AB, 40, A.length⟩ : Jour).sync x = (⟨AB, 40, AB.length⟩, y, 0) ∧
    (⟨AB, 40, AB.length⟩ : Jour).sync y = (⟨AB, 40, AB.length⟩, y, 0) ∧ openJ c = (⟨AB, 40, AB.length⟩, 0) ∧ openJ y = (⟨AB, 40, AB.length⟩, 0) ∧ lensN A ≤ lensN a ∧ lensN AB ≤ lensN a + lensN b ∧
    (⟨A, 40, 0⟩ : Jour).good ∧ (⟨A, 40, A.length⟩ : Jour).good := by
  have h0 : InvD d40 [] 0 := new_inv (n := 40) (by omega) (by omega)
  have g0 : (⟨[], 40, 0⟩ : Jour).good := by decide
  obtain ⟨A, a1, a2, a3, a4, a5, a6⟩ := Jour.add_spec a ⟨[], 40, 0⟩ g0
  simp only [List.nil_append] at a1
  have eA := Jour.eq_of a1 a2 a3
  rw [eA] at a4 a5 a6
  obtain ⟨B, b1, b2, b3, b4, b5, b6⟩ := Jour.add_spec b ⟨A, 40, 0⟩ a4
  simp only at b1 b2 b3
  have eB := Jour.eq_of b1 b2 b3
  rw [eB] at b4 b5 b6
  have gA : (⟨A, 40, A.length⟩ : Jour).good := by
    obtain ⟨g1, g2, g3, g4, g5⟩ := a4
    exact ⟨g1, g2, by simp only; omega, by simp only; omega, g5⟩
  obtain ⟨B', c1, c2, c3, c4, c5, c6⟩ := Jour.add_spec b ⟨A, 40, A.length⟩ gA
  have c1' := b6 ⟨A, 40, A.length⟩ gA rfl rfl
  have eC := Jour.eq_of c1' c2 c3
  simp only at eC
  have oA : occN A ≤ 40 := by have := a4.2.2.2.2; simp only at this; omega
  have oAB : occN (A ++ B) ≤ 40 := by have := b4.2.2.2.2; simp only at this; omega
  have l40 : d40.sectors.length = 40 := by simp [d40]
  have map1 : ∀ (l : List (List UInt8)) (g : Nat), List.map (fun x : List UInt8 × Nat => x.1) (List.map (fun b : List UInt8 => (b, g)) l) = l := fun l g => by simp [Function.comp_def]
  rcases h0.sync (by omega) (j := ⟨A ++ B, 40, 0⟩) (new := A ++ B) (by simp) (by rw [l40]; rfl) rfl (by rw [l40]; exact oAB) with ⟨c, Gc, s1, s2, s3, s4, s5⟩ | ⟨h, _⟩
  rotate_left
  · exact absurd rfl h
  rcases h0.sync (by omega) (j := ⟨A, 40, 0⟩) (new := A) (by simp) (by rw [l40]; rfl) rfl (by rw [l40]; exact oA) with ⟨x, Gx, t1, t2, t3, t4, t5⟩ | ⟨h, _⟩
  rotate_left
  · exact absurd rfl h
  rw [List.nil_append] at s3 t3
  rcases t3.sync (by omega) (j := ⟨A ++ B, 40, A.length⟩) (new := B) (by rw [map1]) (by rw [t2, l40]; rfl) (by simp) (by rw [t2, l40]; exact oAB) with ⟨y, Gy, u1, u2, u3, u4, u5⟩ | ⟨h, _⟩
  rotate_left
  · exact absurd (t5 rfl) h
  have hy : List.map (fun x : List UInt8 × Nat => x.1) (List.map (fun b : List UInt8 => (b, 0 + 1)) A ++ List.map (fun b : List UInt8 => (b, Gx + 1)) B) = A ++ B := by rw [List.map_append, map1, map1]
  have oy := u3.open
  have oc := s3.open
  rw [hy] at oy
  rw [map1] at oc
  rw [u2, t2, l40] at oy
  rw [s2, l40] at oc
  have again := u3.again (by omega) (j := ⟨A ++ B, 40, (A ++ B).length⟩) hy.symm (by rw [u2, t2, l40]; rfl) (by simp) (by rw [u2, t2, l40]; exact oAB)
  refine ⟨A, A ++ B, c, x, y, eA, eB, s1, t1, eC, u1, again, ?_, ?_, by simpa [lensN] using a5, ?_, a4, gA⟩
  · rw [oc]; simp
  · rw [oy]; simp
  · simp only at b5 a5; have : lensN ([] : List (List UInt8)) = 0 := rfl
    omega
theorem add_snoc (j : Jour) (l : List (List UInt8)) {k : Nat} (h : k < l.length) : j.add (l.take (k + 1)) = if ((j.add (l.take k)).append l[k]).2 = 0 then ((j.add (l.take k)).append l[k]).1 else j.add (l.take k) := by
  rw [List.take_succ_eq_append_getElem h, Jour.add_append]; rfl
theorem add_nil (j : Jour) : j.add [] = j := rfl
set_option maxRecDepth 20000
set_option maxHeartbeats 4000000
set_option linter.unusedSimpArgs false
attribute [local irreducible] PSub Wp PSpec Le Need Both
attribute [local irreducible] Jour.add Jour.append
theorem add_spec (j : Jour) (l : List (List UInt8)) (hg : j.good) (hl : lensN j.records + lensN l ≤ 900000) : PSpec Try.prog 26 [encJ j, encS l] (encJ (j.add l)) := by
  have hll := lensN_len l
  refine PSpec.of_vc (fun Γ => more3 false Γ.P Γ.fx) (fun Γ => more3_ok) Try.func26 rfl Try.call26 (by simp) ?_
  rintro ⟨P, N, w0, X, β0, fx, y, hy⟩ rfl rfl rfl hoff; change y.on = false at hoff
  repeat' ((try conv => whnf); first | refine k1 (fun hb => ?_) fun hb => ?_ | refine k2 (fun hb => ?_) fun hb => ?_ | (first | refine k3 (fun hb => ?_) fun hb => ?_ | refine k4 (fun hb => ?_) fun hb => ?_) <;> (try rw [List.length_map] at hb) <;> (try (exfalso; omega; done)) | refine k5 (fun hb => ?_) fun hb => ?_ | refine k6 (fun hb => ?_) fun hb => ?_ | refine Both.intro ?_ ?_ | refine And.intro rfl ?_ | refine s1 ?_ | refine s2 ?_ | refine s3 ?_ | refine s4 nm ?_ | refine s5 nm nm ?_ | refine s6 nm nm ?_ | refine s7 ?_ | refine And.intro (by assumption) ?_ | refine s8 nm ?_ | refine s9 nm nm ?_ | refine sa nm ?_ | refine Exists.intro _ (Exists.intro _ (And.intro (getMapN nm) (And.intro rfl ?_))) | refine Or.inl (Exists.intro _ (And.intro (getMapN nm) (And.intro rfl (And.intro rfl ?_)))) | refine Or.inl (And.intro rfl (And.intro rfl (And.intro bd (And.intro rfl (And.intro rfl ?_))))) | refine ⟨_, singles_flat _ _, ?_⟩ | refine ⟨_, singles_map _ _, ?_⟩ | refine And.intro (onesB_flat _ _ fun _ => rfl) ?_ | refine And.intro (onesB_map _ _ fun _ => rfl) ?_ | refine Or.inr (And.intro rfl (And.intro rfl (And.intro rfl ?_))) | refine And.intro (And.intro (And.intro (onesB_flat _ _ fun _ => rfl) fl) trivial) ?_ | refine And.intro bd ?_ | refine ⟨_, set_map _ _ _, ?_⟩ | refine ⟨_, set_rfl _ _ _, ?_⟩ | refine ⟨_, singles_rfl _, ?_⟩ | fail)
  refine Wp.loop (fun k : Nat => ⟨[(2, .loc 2 0 0), (4, .loc 4 0 0), (9, .pure (encS l)), (10, .int l.length), (11, .int k)],
    [(2, some (.box [.pure (encS (j.add (l.take k)).records), .int (j.add (l.take k)).many, .int (j.add (l.take k)).synced])), (4, some (.box [.pure (.val (.slice none 0 0)), .int 0, .int 0]))], [2, 4]⟩)
    (fun k => k ≤ l.length) (fun k => l.length - k) 0 (Le.of ?_ ?_ rfl rfl rfl) (by omega) ?_
  · simp only [List.take_zero, add_nil]
    (repeat' (first | exact trivial | exact rfl | refine And.intro ?_ ?_ | refine Exists.intro _ (And.intro rfl ?_) | exact Or.inl rfl | exact l1 bd | exact SubA.lsl ls | exact SubA.sl sc | exact SubA.bool bo | exact l6 rfl | exact rowEq rs | fail))
  · simp only [List.take_zero, add_nil]
    (repeat' (first | exact trivial | exact rfl | refine And.intro ?_ ?_ | refine Exists.intro _ (And.intro rfl ?_) | exact Or.inl rfl | exact l1 bd | exact SubA.lsl ls | exact SubA.sl sc | exact SubA.bool bo | exact l6 rfl | exact rowEq rs | fail))
  intro k hk
  obtain ⟨new, a1, a2, a3, a4, a5, a6⟩ := Jour.add_spec (l.take k) j hg
  have hlt := lensN_take l k
  by_cases hk2 : k < l.length
  · have hb := lensN_mem (List.getElem_mem hk2)
    have hsn := add_snoc j l hk2
    obtain ⟨J, hJ⟩ : ∃ J, J = j.add (l.take k) := ⟨_, rfl⟩
    rw [← hJ] at a4 a5 hsn ⊢
    have q := append_spec J l[k] (by omega) (by omega)
    obtain ⟨A, hA⟩ : ∃ A, A = J.append l[k] := ⟨_, rfl⟩
    rw [← hA] at q hsn
    obtain ⟨A1, A2⟩ := A
    first | refine code_sound (more := more3 false _ _) more3_ok FOK.wide _ ?_ | refine code_sound (more := more3 false _ _) more3_ok (FOK.inRound _) _ ?_
    repeat' ((try conv => whnf); first | refine k1 (fun hb => ?_) fun hb => ?_ | refine k2 (fun hb => ?_) fun hb => ?_ | (first | refine k3 (fun hb => ?_) fun hb => ?_ | refine k4 (fun hb => ?_) fun hb => ?_) <;> (try rw [List.length_map] at hb) <;> (try (exfalso; omega; done)) | refine k5 (fun hb => ?_) fun hb => ?_ | refine k6 (fun hb => ?_) fun hb => ?_ | refine Both.intro ?_ ?_ | refine And.intro rfl ?_ | refine s1 ?_ | refine s2 ?_ | refine s3 ?_ | refine s4 nm ?_ | refine s5 nm nm ?_ | refine s6 nm nm ?_ | refine s7 ?_ | refine And.intro (by assumption) ?_ | refine s8 nm ?_ | refine s9 nm nm ?_ | refine sa nm ?_ | refine Exists.intro _ (Exists.intro _ (And.intro (getMapN nm) (And.intro rfl ?_))) | refine Or.inl (Exists.intro _ (And.intro (getMapN nm) (And.intro rfl (And.intro rfl ?_)))) | refine Or.inl (And.intro rfl (And.intro rfl (And.intro bd (And.intro rfl (And.intro rfl ?_))))) | refine ⟨_, singles_flat _ _, ?_⟩ | refine ⟨_, singles_map _ _, ?_⟩ | refine And.intro (onesB_flat _ _ fun _ => rfl) ?_ | refine And.intro (onesB_map _ _ fun _ => rfl) ?_ | refine Or.inr (And.intro rfl (And.intro rfl (And.intro rfl ?_))) | refine And.intro (And.intro (And.intro (onesB_flat _ _ fun _ => rfl) fl) trivial) ?_ | refine And.intro bd ?_ | refine ⟨_, set_map _ _ _, ?_⟩ | refine ⟨_, set_rfl _ _ _, ?_⟩ | refine ⟨_, singles_rfl _, ?_⟩ | fail)
    refine .inl ⟨_, q, ?_⟩
    repeat' ((try conv => whnf); first | refine k1 (fun hb => ?_) fun hb => ?_ | refine k2 (fun hb => ?_) fun hb => ?_ | (first | refine k3 (fun hb => ?_) fun hb => ?_ | refine k4 (fun hb => ?_) fun hb => ?_) <;> (try rw [List.length_map] at hb) <;> (try (exfalso; omega; done)) | refine k5 (fun hb => ?_) fun hb => ?_ | refine k6 (fun hb => ?_) fun hb => ?_ | refine Both.intro ?_ ?_ | refine And.intro rfl ?_ | refine s1 ?_ | refine s2 ?_ | refine s3 ?_ | refine s4 nm ?_ | refine s5 nm nm ?_ | refine s6 nm nm ?_ | refine s7 ?_ | refine And.intro (by assumption) ?_ | refine s8 nm ?_ | refine s9 nm nm ?_ | refine sa nm ?_ | refine Exists.intro _ (Exists.intro _ (And.intro (getMapN nm) (And.intro rfl ?_))) | refine Or.inl (Exists.intro _ (And.intro (getMapN nm) (And.intro rfl (And.intro rfl ?_)))) | refine Or.inl (And.intro rfl (And.intro rfl (And.intro bd (And.intro rfl (And.intro rfl ?_))))) | refine ⟨_, singles_flat _ _, ?_⟩ | refine ⟨_, singles_map _ _, ?_⟩ | refine And.intro (onesB_flat _ _ fun _ => rfl) ?_ | refine And.intro (onesB_map _ _ fun _ => rfl) ?_ | refine Or.inr (And.intro rfl (And.intro rfl (And.intro rfl ?_))) | refine And.intro (And.intro (And.intro (onesB_flat _ _ fun _ => rfl) fl) trivial) ?_ | refine And.intro bd ?_ | refine ⟨_, set_map _ _ _, ?_⟩ | refine ⟨_, set_rfl _ _ _, ?_⟩ | refine ⟨_, singles_rfl _, ?_⟩ | fail)
    · rw [if_pos (by assumption)] at hsn
      refine ⟨k + 1, Le.of ?_ ?_ rfl rfl rfl, by omega, by omega⟩
      · (repeat' (first | exact trivial | exact rfl | refine And.intro ?_ ?_ | refine Exists.intro _ (And.intro rfl ?_) | exact Or.inl rfl | exact l1 bd | exact SubA.lsl ls | exact SubA.sl sc | exact SubA.bool bo | exact l6 rfl | exact rowEq rs | fail))
      · simp only [hsn]
        (repeat' (first | exact trivial | exact rfl | refine And.intro ?_ ?_ | refine Exists.intro _ (And.intro rfl ?_) | exact Or.inl rfl | exact l1 bd | exact SubA.lsl ls | exact SubA.sl sc | exact SubA.bool bo | exact l6 rfl | exact rowEq rs | fail))
    · rw [if_neg (by assumption)] at hsn
      refine ⟨k + 1, Le.of ?_ ?_ rfl rfl rfl, by omega, by omega⟩
      · (repeat' (first | exact trivial | exact rfl | refine And.intro ?_ ?_ | refine Exists.intro _ (And.intro rfl ?_) | exact Or.inl rfl | exact l1 bd | exact SubA.lsl ls | exact SubA.sl sc | exact SubA.bool bo | exact l6 rfl | exact rowEq rs | fail))
      · simp only [hsn]
        (repeat' (first | exact trivial | exact rfl | refine And.intro ?_ ?_ | refine Exists.intro _ (And.intro rfl ?_) | exact Or.inl rfl | exact l1 bd | exact SubA.lsl ls | exact SubA.sl sc | exact SubA.bool bo | exact l6 rfl | exact rowEq rs | fail))
  · have ek : k = l.length := by omega
    subst ek
    rw [List.take_length]
    first | refine code_sound (more := more3 false _ _) more3_ok FOK.wide _ ?_ | refine code_sound (more := more3 false _ _) more3_ok (FOK.inRound _) _ ?_
    repeat' ((try conv => whnf); first | refine k1 (fun hb => ?_) fun hb => ?_ | refine k2 (fun hb => ?_) fun hb => ?_ | (first | refine k3 (fun hb => ?_) fun hb => ?_ | refine k4 (fun hb => ?_) fun hb => ?_) <;> (try rw [List.length_map] at hb) <;> (try (exfalso; omega; done)) | refine k5 (fun hb => ?_) fun hb => ?_ | refine k6 (fun hb => ?_) fun hb => ?_ | refine Both.intro ?_ ?_ | refine And.intro rfl ?_ | refine s1 ?_ | refine s2 ?_ | refine s3 ?_ | refine s4 nm ?_ | refine s5 nm nm ?_ | refine s6 nm nm ?_ | refine s7 ?_ | refine And.intro (by assumption) ?_ | refine s8 nm ?_ | refine s9 nm nm ?_ | refine sa nm ?_ | refine Exists.intro _ (Exists.intro _ (And.intro (getMapN nm) (And.intro rfl ?_))) | refine Or.inl (Exists.intro _ (And.intro (getMapN nm) (And.intro rfl (And.intro rfl ?_)))) | refine Or.inl (And.intro rfl (And.intro rfl (And.intro bd (And.intro rfl (And.intro rfl ?_))))) | refine ⟨_, singles_flat _ _, ?_⟩ | refine ⟨_, singles_map _ _, ?_⟩ | refine And.intro (onesB_flat _ _ fun _ => rfl) ?_ | refine And.intro (onesB_map _ _ fun _ => rfl) ?_ | refine Or.inr (And.intro rfl (And.intro rfl (And.intro rfl ?_))) | refine And.intro (And.intro (And.intro (onesB_flat _ _ fun _ => rfl) fl) trivial) ?_ | refine And.intro bd ?_ | refine ⟨_, set_map _ _ _, ?_⟩ | refine ⟨_, set_rfl _ _ _, ?_⟩ | refine ⟨_, singles_rfl _, ?_⟩ | fail)
    exact PSub.refl _
theorem steps_spec (a b : List (List UInt8)) (h : lensN a + lensN b ≤ 1100000) : PSpec Try.prog 7 [encS a, encS b] (.bool true) := by
  have ha := lensN_len a
  have hb := lensN_len b
  obtain ⟨A, AB, dc, dx, dy, e1, e2, e3, e4, e5, e6, e7, e8, e9, l1, l2, g1, g2⟩ := steps_plain a b
  have hF : lensN (a ++ b) = lensN a + lensN b := by simp [lensN]
  have p1 := new_spec 40
  rw [new40] at p1
  have pf := jfew_spec d40 (a ++ b) (by omega)
  obtain ⟨F, hF2⟩ : ∃ F, F = (decide (d40.sectors.length ≤ 40) && decide (d40.pending.length ≤ 40) && decide (lensN (a ++ b) ≤ 4000)) := ⟨_, rfl⟩
  rw [← hF2] at pf
  have po := open_spec d40
  rw [open40] at po
  refine PSpec.of_vc (fun Γ => more3 false Γ.P Γ.fx) (fun Γ => more3_ok) Try.func7 rfl Try.call7 (by simp) ?_
  rintro ⟨P, N, w0, X, β0, fx, y, hy⟩ rfl rfl rfl hoff; change y.on = false at hoff
  repeat' ((try conv => whnf); first | refine k1 (fun hb => ?_) fun hb => ?_ | refine k2 (fun hb => ?_) fun hb => ?_ | (first | refine k3 (fun hb => ?_) fun hb => ?_ | refine k4 (fun hb => ?_) fun hb => ?_) <;> (try rw [List.length_map] at hb) <;> (try (exfalso; omega; done)) | refine k5 (fun hb => ?_) fun hb => ?_ | refine k6 (fun hb => ?_) fun hb => ?_ | refine Both.intro ?_ ?_ | refine And.intro rfl ?_ | refine s1 ?_ | refine s2 ?_ | refine s3 ?_ | refine s4 nm ?_ | refine s5 nm nm ?_ | refine s6 nm nm ?_ | refine s7 ?_ | refine And.intro (by assumption) ?_ | refine s8 nm ?_ | refine s9 nm nm ?_ | refine sa nm ?_ | refine Exists.intro _ (Exists.intro _ (And.intro (getMapN nm) (And.intro rfl ?_))) | refine Or.inl (Exists.intro _ (And.intro (getMapN nm) (And.intro rfl (And.intro rfl ?_)))) | refine Or.inl (And.intro rfl (And.intro rfl (And.intro bd (And.intro rfl (And.intro rfl ?_))))) | refine ⟨_, singles_flat _ _, ?_⟩ | refine ⟨_, singles_map _ _, ?_⟩ | refine And.intro (onesB_flat _ _ fun _ => rfl) ?_ | refine And.intro (onesB_map _ _ fun _ => rfl) ?_ | refine Or.inr (And.intro rfl (And.intro rfl (And.intro rfl ?_))) | refine And.intro (And.intro (And.intro (onesB_flat _ _ fun _ => rfl) fl) trivial) ?_ | refine And.intro bd ?_ | refine ⟨_, set_map _ _ _, ?_⟩ | refine ⟨_, set_rfl _ _ _, ?_⟩ | refine ⟨_, singles_rfl _, ?_⟩ | fail)
  refine .inl ⟨_, jsane_spec, ?_⟩
  repeat' ((try conv => whnf); first | refine k1 (fun hb => ?_) fun hb => ?_ | refine k2 (fun hb => ?_) fun hb => ?_ | (first | refine k3 (fun hb => ?_) fun hb => ?_ | refine k4 (fun hb => ?_) fun hb => ?_) <;> (try rw [List.length_map] at hb) <;> (try (exfalso; omega; done)) | refine k5 (fun hb => ?_) fun hb => ?_ | refine k6 (fun hb => ?_) fun hb => ?_ | refine Both.intro ?_ ?_ | refine And.intro rfl ?_ | refine s1 ?_ | refine s2 ?_ | refine s3 ?_ | refine s4 nm ?_ | refine s5 nm nm ?_ | refine s6 nm nm ?_ | refine s7 ?_ | refine And.intro (by assumption) ?_ | refine s8 nm ?_ | refine s9 nm nm ?_ | refine sa nm ?_ | refine Exists.intro _ (Exists.intro _ (And.intro (getMapN nm) (And.intro rfl ?_))) | refine Or.inl (Exists.intro _ (And.intro (getMapN nm) (And.intro rfl (And.intro rfl ?_)))) | refine Or.inl (And.intro rfl (And.intro rfl (And.intro bd (And.intro rfl (And.intro rfl ?_))))) | refine ⟨_, singles_flat _ _, ?_⟩ | refine ⟨_, singles_map _ _, ?_⟩ | refine And.intro (onesB_flat _ _ fun _ => rfl) ?_ | refine And.intro (onesB_map _ _ fun _ => rfl) ?_ | refine Or.inr (And.intro rfl (And.intro rfl (And.intro rfl ?_))) | refine And.intro (And.intro (And.intro (onesB_flat _ _ fun _ => rfl) fl) trivial) ?_ | refine And.intro bd ?_ | refine ⟨_, set_map _ _ _, ?_⟩ | refine ⟨_, set_rfl _ _ _, ?_⟩ | refine ⟨_, singles_rfl _, ?_⟩ | fail)
  refine .inl ⟨_, p1, ?_⟩
  repeat' ((try conv => whnf); first | refine k1 (fun hb => ?_) fun hb => ?_ | refine k2 (fun hb => ?_) fun hb => ?_ | (first | refine k3 (fun hb => ?_) fun hb => ?_ | refine k4 (fun hb => ?_) fun hb => ?_) <;> (try rw [List.length_map] at hb) <;> (try (exfalso; omega; done)) | refine k5 (fun hb => ?_) fun hb => ?_ | refine k6 (fun hb => ?_) fun hb => ?_ | refine Both.intro ?_ ?_ | refine And.intro rfl ?_ | refine s1 ?_ | refine s2 ?_ | refine s3 ?_ | refine s4 nm ?_ | refine s5 nm nm ?_ | refine s6 nm nm ?_ | refine s7 ?_ | refine And.intro (by assumption) ?_ | refine s8 nm ?_ | refine s9 nm nm ?_ | refine sa nm ?_ | refine Exists.intro _ (Exists.intro _ (And.intro (getMapN nm) (And.intro rfl ?_))) | refine Or.inl (Exists.intro _ (And.intro (getMapN nm) (And.intro rfl (And.intro rfl ?_)))) | refine Or.inl (And.intro rfl (And.intro rfl (And.intro bd (And.intro rfl (And.intro rfl ?_))))) | refine ⟨_, singles_flat _ _, ?_⟩ | refine ⟨_, singles_map _ _, ?_⟩ | refine And.intro (onesB_flat _ _ fun _ => rfl) ?_ | refine And.intro (onesB_map _ _ fun _ => rfl) ?_ | refine Or.inr (And.intro rfl (And.intro rfl (And.intro rfl ?_))) | refine And.intro (And.intro (And.intro (onesB_flat _ _ fun _ => rfl) fl) trivial) ?_ | refine And.intro bd ?_ | refine ⟨_, set_map _ _ _, ?_⟩ | refine ⟨_, set_rfl _ _ _, ?_⟩ | refine ⟨_, singles_rfl _, ?_⟩ | fail)
  first | refine Wp.draw (more := more3 true _ _) more3_det more3_ok FOK.wide rfl (by decide +kernel) (by conv => lhs; reduce) ?_ | refine Wp.draw (more := more3 true _ _) more3_det more3_ok (FOK.inRound _) rfl (by decide +kernel) (by conv => lhs; reduce) ?_
  repeat' ((try conv => whnf); first | refine k1 (fun hb => ?_) fun hb => ?_ | refine k2 (fun hb => ?_) fun hb => ?_ | (first | refine k3 (fun hb => ?_) fun hb => ?_ | refine k4 (fun hb => ?_) fun hb => ?_) <;> (try rw [List.length_map] at hb) <;> (try (exfalso; omega; done)) | refine k5 (fun hb => ?_) fun hb => ?_ | refine k6 (fun hb => ?_) fun hb => ?_ | refine Both.intro ?_ ?_ | refine And.intro rfl ?_ | refine s1 ?_ | refine s2 ?_ | refine s3 ?_ | refine s4 nm ?_ | refine s5 nm nm ?_ | refine s6 nm nm ?_ | refine s7 ?_ | refine And.intro (by assumption) ?_ | refine s8 nm ?_ | refine s9 nm nm ?_ | refine sa nm ?_ | refine Exists.intro _ (Exists.intro _ (And.intro (getMapN nm) (And.intro rfl ?_))) | refine Or.inl (Exists.intro _ (And.intro (getMapN nm) (And.intro rfl (And.intro rfl ?_)))) | refine Or.inl (And.intro rfl (And.intro rfl (And.intro bd (And.intro rfl (And.intro rfl ?_))))) | refine ⟨_, singles_flat _ _, ?_⟩ | refine ⟨_, singles_map _ _, ?_⟩ | refine And.intro (onesB_flat _ _ fun _ => rfl) ?_ | refine And.intro (onesB_map _ _ fun _ => rfl) ?_ | refine Or.inr (And.intro rfl (And.intro rfl (And.intro rfl ?_))) | refine And.intro (And.intro (And.intro (onesB_flat _ _ fun _ => rfl) fl) trivial) ?_ | refine And.intro bd ?_ | refine ⟨_, set_map _ _ _, ?_⟩ | refine ⟨_, set_rfl _ _ _, ?_⟩ | refine ⟨_, singles_rfl _, ?_⟩ | fail)
  refine ⟨_, pf.args ⟨PSub.of_eq rfl, sub_sl (by simp [List.take_of_length_le]), trivial⟩, ?_⟩
  repeat' ((try conv => whnf); first | refine k1 (fun hb => ?_) fun hb => ?_ | refine k2 (fun hb => ?_) fun hb => ?_ | (first | refine k3 (fun hb => ?_) fun hb => ?_ | refine k4 (fun hb => ?_) fun hb => ?_) <;> (try rw [List.length_map] at hb) <;> (try (exfalso; omega; done)) | refine k5 (fun hb => ?_) fun hb => ?_ | refine k6 (fun hb => ?_) fun hb => ?_ | refine Both.intro ?_ ?_ | refine And.intro rfl ?_ | refine s1 ?_ | refine s2 ?_ | refine s3 ?_ | refine s4 nm ?_ | refine s5 nm nm ?_ | refine s6 nm nm ?_ | refine s7 ?_ | refine And.intro (by assumption) ?_ | refine s8 nm ?_ | refine s9 nm nm ?_ | refine sa nm ?_ | refine Exists.intro _ (Exists.intro _ (And.intro (getMapN nm) (And.intro rfl ?_))) | refine Or.inl (Exists.intro _ (And.intro (getMapN nm) (And.intro rfl (And.intro rfl ?_)))) | refine Or.inl (And.intro rfl (And.intro rfl (And.intro bd (And.intro rfl (And.intro rfl ?_))))) | refine ⟨_, singles_flat _ _, ?_⟩ | refine ⟨_, singles_map _ _, ?_⟩ | refine And.intro (onesB_flat _ _ fun _ => rfl) ?_ | refine And.intro (onesB_map _ _ fun _ => rfl) ?_ | refine Or.inr (And.intro rfl (And.intro rfl (And.intro rfl ?_))) | refine And.intro (And.intro (And.intro (onesB_flat _ _ fun _ => rfl) fl) trivial) ?_ | refine And.intro bd ?_ | refine ⟨_, set_map _ _ _, ?_⟩ | refine ⟨_, set_rfl _ _ _, ?_⟩ | refine ⟨_, singles_rfl _, ?_⟩ | fail)
  rotate_left
  · exact PSub.val_bool (by simp)
  have hF4 := few_few (hF2.symm.trans (by assumption))
  rw [hF] at hF4
  have qa := add_spec ⟨[], 40, 0⟩ a (by decide) (by simp [lensN] at *; omega)
  have qb := add_spec ⟨A, 40, 0⟩ b g1 (by simp only; omega)
  have qb2 := add_spec ⟨A, 40, A.length⟩ b g2 (by simp only; omega)
  rw [e1] at qa
  rw [e2] at qb
  rw [e5] at qb2
  have js1 := jsync_spec ⟨AB, 40, 0⟩ d40 (by simp only; omega)
  have js2 := jsync_spec ⟨A, 40, 0⟩ d40 (by simp only; omega)
  have js3 := jsync_spec ⟨AB, 40, A.length⟩ dx (by simp only; omega)
  have js4 := jsync_spec ⟨AB, 40, AB.length⟩ dy (by simp only; omega)
  rw [e3] at js1
  rw [e4] at js2
  rw [e6] at js3
  rw [e7] at js4
  have o1 := open_spec dc
  have o2 := open_spec dy
  rw [e8] at o1
  rw [e9] at o2
  have hABl := lensN_len AB
  have qs := jsame_spec ⟨AB, 40, AB.length⟩ ⟨AB, 40, AB.length⟩ (by simp only; omega)
  rw [Jour.same_self] at qs
  have qr := sameRecords_spec AB AB (by omega)
  rw [beq_self_eq_true] at qr
  have qd := same_spec dy dy
  rw [show dy.same dy = true from by simp [Disk.same]] at qd
  refine .inl ⟨_, po, ?_⟩
  repeat' ((try conv => whnf); first | refine k1 (fun hb => ?_) fun hb => ?_ | refine k2 (fun hb => ?_) fun hb => ?_ | (first | refine k3 (fun hb => ?_) fun hb => ?_ | refine k4 (fun hb => ?_) fun hb => ?_) <;> (try rw [List.length_map] at hb) <;> (try (exfalso; omega; done)) | refine k5 (fun hb => ?_) fun hb => ?_ | refine k6 (fun hb => ?_) fun hb => ?_ | refine Both.intro ?_ ?_ | refine And.intro rfl ?_ | refine s1 ?_ | refine s2 ?_ | refine s3 ?_ | refine s4 nm ?_ | refine s5 nm nm ?_ | refine s6 nm nm ?_ | refine s7 ?_ | refine And.intro (by assumption) ?_ | refine s8 nm ?_ | refine s9 nm nm ?_ | refine sa nm ?_ | refine Exists.intro _ (Exists.intro _ (And.intro (getMapN nm) (And.intro rfl ?_))) | refine Or.inl (Exists.intro _ (And.intro (getMapN nm) (And.intro rfl (And.intro rfl ?_)))) | refine Or.inl (And.intro rfl (And.intro rfl (And.intro bd (And.intro rfl (And.intro rfl ?_))))) | refine ⟨_, singles_flat _ _, ?_⟩ | refine ⟨_, singles_map _ _, ?_⟩ | refine And.intro (onesB_flat _ _ fun _ => rfl) ?_ | refine And.intro (onesB_map _ _ fun _ => rfl) ?_ | refine Or.inr (And.intro rfl (And.intro rfl (And.intro rfl ?_))) | refine And.intro (And.intro (And.intro (onesB_flat _ _ fun _ => rfl) fl) trivial) ?_ | refine And.intro bd ?_ | refine ⟨_, set_map _ _ _, ?_⟩ | refine ⟨_, set_rfl _ _ _, ?_⟩ | refine ⟨_, singles_rfl _, ?_⟩ | fail)
  first | refine Wp.draw (more := more3 true _ _) more3_det more3_ok FOK.wide rfl (by decide +kernel) (by conv => lhs; reduce) ?_ | refine Wp.draw (more := more3 true _ _) more3_det more3_ok (FOK.inRound _) rfl (by decide +kernel) (by conv => lhs; reduce) ?_
  repeat' ((try conv => whnf); first | refine k1 (fun hb => ?_) fun hb => ?_ | refine k2 (fun hb => ?_) fun hb => ?_ | (first | refine k3 (fun hb => ?_) fun hb => ?_ | refine k4 (fun hb => ?_) fun hb => ?_) <;> (try rw [List.length_map] at hb) <;> (try (exfalso; omega; done)) | refine k5 (fun hb => ?_) fun hb => ?_ | refine k6 (fun hb => ?_) fun hb => ?_ | refine Both.intro ?_ ?_ | refine And.intro rfl ?_ | refine s1 ?_ | refine s2 ?_ | refine s3 ?_ | refine s4 nm ?_ | refine s5 nm nm ?_ | refine s6 nm nm ?_ | refine s7 ?_ | refine And.intro (by assumption) ?_ | refine s8 nm ?_ | refine s9 nm nm ?_ | refine sa nm ?_ | refine Exists.intro _ (Exists.intro _ (And.intro (getMapN nm) (And.intro rfl ?_))) | refine Or.inl (Exists.intro _ (And.intro (getMapN nm) (And.intro rfl (And.intro rfl ?_)))) | refine Or.inl (And.intro rfl (And.intro rfl (And.intro bd (And.intro rfl (And.intro rfl ?_))))) | refine ⟨_, singles_flat _ _, ?_⟩ | refine ⟨_, singles_map _ _, ?_⟩ | refine And.intro (onesB_flat _ _ fun _ => rfl) ?_ | refine And.intro (onesB_map _ _ fun _ => rfl) ?_ | refine Or.inr (And.intro rfl (And.intro rfl (And.intro rfl ?_))) | refine And.intro (And.intro (And.intro (onesB_flat _ _ fun _ => rfl) fl) trivial) ?_ | refine And.intro bd ?_ | refine ⟨_, set_map _ _ _, ?_⟩ | refine ⟨_, set_rfl _ _ _, ?_⟩ | refine ⟨_, singles_rfl _, ?_⟩ | fail)
  refine ⟨_, qa, ?_⟩
  repeat' ((try conv => whnf); first | refine k1 (fun hb => ?_) fun hb => ?_ | refine k2 (fun hb => ?_) fun hb => ?_ | (first | refine k3 (fun hb => ?_) fun hb => ?_ | refine k4 (fun hb => ?_) fun hb => ?_) <;> (try rw [List.length_map] at hb) <;> (try (exfalso; omega; done)) | refine k5 (fun hb => ?_) fun hb => ?_ | refine k6 (fun hb => ?_) fun hb => ?_ | refine Both.intro ?_ ?_ | refine And.intro rfl ?_ | refine s1 ?_ | refine s2 ?_ | refine s3 ?_ | refine s4 nm ?_ | refine s5 nm nm ?_ | refine s6 nm nm ?_ | refine s7 ?_ | refine And.intro (by assumption) ?_ | refine s8 nm ?_ | refine s9 nm nm ?_ | refine sa nm ?_ | refine Exists.intro _ (Exists.intro _ (And.intro (getMapN nm) (And.intro rfl ?_))) | refine Or.inl (Exists.intro _ (And.intro (getMapN nm) (And.intro rfl (And.intro rfl ?_)))) | refine Or.inl (And.intro rfl (And.intro rfl (And.intro bd (And.intro rfl (And.intro rfl ?_))))) | refine ⟨_, singles_flat _ _, ?_⟩ | refine ⟨_, singles_map _ _, ?_⟩ | refine And.intro (onesB_flat _ _ fun _ => rfl) ?_ | refine And.intro (onesB_map _ _ fun _ => rfl) ?_ | refine Or.inr (And.intro rfl (And.intro rfl (And.intro rfl ?_))) | refine And.intro (And.intro (And.intro (onesB_flat _ _ fun _ => rfl) fl) trivial) ?_ | refine And.intro bd ?_ | refine ⟨_, set_map _ _ _, ?_⟩ | refine ⟨_, set_rfl _ _ _, ?_⟩ | refine ⟨_, singles_rfl _, ?_⟩ | fail)
  refine ⟨_, qb, ?_⟩
  repeat' ((try conv => whnf); first | refine k1 (fun hb => ?_) fun hb => ?_ | refine k2 (fun hb => ?_) fun hb => ?_ | (first | refine k3 (fun hb => ?_) fun hb => ?_ | refine k4 (fun hb => ?_) fun hb => ?_) <;> (try rw [List.length_map] at hb) <;> (try (exfalso; omega; done)) | refine k5 (fun hb => ?_) fun hb => ?_ | refine k6 (fun hb => ?_) fun hb => ?_ | refine Both.intro ?_ ?_ | refine And.intro rfl ?_ | refine s1 ?_ | refine s2 ?_ | refine s3 ?_ | refine s4 nm ?_ | refine s5 nm nm ?_ | refine s6 nm nm ?_ | refine s7 ?_ | refine And.intro (by assumption) ?_ | refine s8 nm ?_ | refine s9 nm nm ?_ | refine sa nm ?_ | refine Exists.intro _ (Exists.intro _ (And.intro (getMapN nm) (And.intro rfl ?_))) | refine Or.inl (Exists.intro _ (And.intro (getMapN nm) (And.intro rfl (And.intro rfl ?_)))) | refine Or.inl (And.intro rfl (And.intro rfl (And.intro bd (And.intro rfl (And.intro rfl ?_))))) | refine ⟨_, singles_flat _ _, ?_⟩ | refine ⟨_, singles_map _ _, ?_⟩ | refine And.intro (onesB_flat _ _ fun _ => rfl) ?_ | refine And.intro (onesB_map _ _ fun _ => rfl) ?_ | refine Or.inr (And.intro rfl (And.intro rfl (And.intro rfl ?_))) | refine And.intro (And.intro (And.intro (onesB_flat _ _ fun _ => rfl) fl) trivial) ?_ | refine And.intro bd ?_ | refine ⟨_, set_map _ _ _, ?_⟩ | refine ⟨_, set_rfl _ _ _, ?_⟩ | refine ⟨_, singles_rfl _, ?_⟩ | fail)
  refine ⟨_, js1, ?_⟩
  repeat' ((try conv => whnf); first | refine k1 (fun hb => ?_) fun hb => ?_ | refine k2 (fun hb => ?_) fun hb => ?_ | (first | refine k3 (fun hb => ?_) fun hb => ?_ | refine k4 (fun hb => ?_) fun hb => ?_) <;> (try rw [List.length_map] at hb) <;> (try (exfalso; omega; done)) | refine k5 (fun hb => ?_) fun hb => ?_ | refine k6 (fun hb => ?_) fun hb => ?_ | refine Both.intro ?_ ?_ | refine And.intro rfl ?_ | refine s1 ?_ | refine s2 ?_ | refine s3 ?_ | refine s4 nm ?_ | refine s5 nm nm ?_ | refine s6 nm nm ?_ | refine s7 ?_ | refine And.intro (by assumption) ?_ | refine s8 nm ?_ | refine s9 nm nm ?_ | refine sa nm ?_ | refine Exists.intro _ (Exists.intro _ (And.intro (getMapN nm) (And.intro rfl ?_))) | refine Or.inl (Exists.intro _ (And.intro (getMapN nm) (And.intro rfl (And.intro rfl ?_)))) | refine Or.inl (And.intro rfl (And.intro rfl (And.intro bd (And.intro rfl (And.intro rfl ?_))))) | refine ⟨_, singles_flat _ _, ?_⟩ | refine ⟨_, singles_map _ _, ?_⟩ | refine And.intro (onesB_flat _ _ fun _ => rfl) ?_ | refine And.intro (onesB_map _ _ fun _ => rfl) ?_ | refine Or.inr (And.intro rfl (And.intro rfl (And.intro rfl ?_))) | refine And.intro (And.intro (And.intro (onesB_flat _ _ fun _ => rfl) fl) trivial) ?_ | refine And.intro bd ?_ | refine ⟨_, set_map _ _ _, ?_⟩ | refine ⟨_, set_rfl _ _ _, ?_⟩ | refine ⟨_, singles_rfl _, ?_⟩ | fail)
  first | refine Wp.draw (more := more3 true _ _) more3_det more3_ok FOK.wide rfl (by decide +kernel) (by conv => lhs; reduce) ?_ | refine Wp.draw (more := more3 true _ _) more3_det more3_ok (FOK.inRound _) rfl (by decide +kernel) (by conv => lhs; reduce) ?_
  repeat' ((try conv => whnf); first | refine k1 (fun hb => ?_) fun hb => ?_ | refine k2 (fun hb => ?_) fun hb => ?_ | (first | refine k3 (fun hb => ?_) fun hb => ?_ | refine k4 (fun hb => ?_) fun hb => ?_) <;> (try rw [List.length_map] at hb) <;> (try (exfalso; omega; done)) | refine k5 (fun hb => ?_) fun hb => ?_ | refine k6 (fun hb => ?_) fun hb => ?_ | refine Both.intro ?_ ?_ | refine And.intro rfl ?_ | refine s1 ?_ | refine s2 ?_ | refine s3 ?_ | refine s4 nm ?_ | refine s5 nm nm ?_ | refine s6 nm nm ?_ | refine s7 ?_ | refine And.intro (by assumption) ?_ | refine s8 nm ?_ | refine s9 nm nm ?_ | refine sa nm ?_ | refine Exists.intro _ (Exists.intro _ (And.intro (getMapN nm) (And.intro rfl ?_))) | refine Or.inl (Exists.intro _ (And.intro (getMapN nm) (And.intro rfl (And.intro rfl ?_)))) | refine Or.inl (And.intro rfl (And.intro rfl (And.intro bd (And.intro rfl (And.intro rfl ?_))))) | refine ⟨_, singles_flat _ _, ?_⟩ | refine ⟨_, singles_map _ _, ?_⟩ | refine And.intro (onesB_flat _ _ fun _ => rfl) ?_ | refine And.intro (onesB_map _ _ fun _ => rfl) ?_ | refine Or.inr (And.intro rfl (And.intro rfl (And.intro rfl ?_))) | refine And.intro (And.intro (And.intro (onesB_flat _ _ fun _ => rfl) fl) trivial) ?_ | refine And.intro bd ?_ | refine ⟨_, set_map _ _ _, ?_⟩ | refine ⟨_, set_rfl _ _ _, ?_⟩ | refine ⟨_, singles_rfl _, ?_⟩ | fail)
  refine ⟨_, qa, ?_⟩
  repeat' ((try conv => whnf); first | refine k1 (fun hb => ?_) fun hb => ?_ | refine k2 (fun hb => ?_) fun hb => ?_ | (first | refine k3 (fun hb => ?_) fun hb => ?_ | refine k4 (fun hb => ?_) fun hb => ?_) <;> (try rw [List.length_map] at hb) <;> (try (exfalso; omega; done)) | refine k5 (fun hb => ?_) fun hb => ?_ | refine k6 (fun hb => ?_) fun hb => ?_ | refine Both.intro ?_ ?_ | refine And.intro rfl ?_ | refine s1 ?_ | refine s2 ?_ | refine s3 ?_ | refine s4 nm ?_ | refine s5 nm nm ?_ | refine s6 nm nm ?_ | refine s7 ?_ | refine And.intro (by assumption) ?_ | refine s8 nm ?_ | refine s9 nm nm ?_ | refine sa nm ?_ | refine Exists.intro _ (Exists.intro _ (And.intro (getMapN nm) (And.intro rfl ?_))) | refine Or.inl (Exists.intro _ (And.intro (getMapN nm) (And.intro rfl (And.intro rfl ?_)))) | refine Or.inl (And.intro rfl (And.intro rfl (And.intro bd (And.intro rfl (And.intro rfl ?_))))) | refine ⟨_, singles_flat _ _, ?_⟩ | refine ⟨_, singles_map _ _, ?_⟩ | refine And.intro (onesB_flat _ _ fun _ => rfl) ?_ | refine And.intro (onesB_map _ _ fun _ => rfl) ?_ | refine Or.inr (And.intro rfl (And.intro rfl (And.intro rfl ?_))) | refine And.intro (And.intro (And.intro (onesB_flat _ _ fun _ => rfl) fl) trivial) ?_ | refine And.intro bd ?_ | refine ⟨_, set_map _ _ _, ?_⟩ | refine ⟨_, set_rfl _ _ _, ?_⟩ | refine ⟨_, singles_rfl _, ?_⟩ | fail)
  refine ⟨_, js2, ?_⟩
  repeat' ((try conv => whnf); first | refine k1 (fun hb => ?_) fun hb => ?_ | refine k2 (fun hb => ?_) fun hb => ?_ | (first | refine k3 (fun hb => ?_) fun hb => ?_ | refine k4 (fun hb => ?_) fun hb => ?_) <;> (try rw [List.length_map] at hb) <;> (try (exfalso; omega; done)) | refine k5 (fun hb => ?_) fun hb => ?_ | refine k6 (fun hb => ?_) fun hb => ?_ | refine Both.intro ?_ ?_ | refine And.intro rfl ?_ | refine s1 ?_ | refine s2 ?_ | refine s3 ?_ | refine s4 nm ?_ | refine s5 nm nm ?_ | refine s6 nm nm ?_ | refine s7 ?_ | refine And.intro (by assumption) ?_ | refine s8 nm ?_ | refine s9 nm nm ?_ | refine sa nm ?_ | refine Exists.intro _ (Exists.intro _ (And.intro (getMapN nm) (And.intro rfl ?_))) | refine Or.inl (Exists.intro _ (And.intro (getMapN nm) (And.intro rfl (And.intro rfl ?_)))) | refine Or.inl (And.intro rfl (And.intro rfl (And.intro bd (And.intro rfl (And.intro rfl ?_))))) | refine ⟨_, singles_flat _ _, ?_⟩ | refine ⟨_, singles_map _ _, ?_⟩ | refine And.intro (onesB_flat _ _ fun _ => rfl) ?_ | refine And.intro (onesB_map _ _ fun _ => rfl) ?_ | refine Or.inr (And.intro rfl (And.intro rfl (And.intro rfl ?_))) | refine And.intro (And.intro (And.intro (onesB_flat _ _ fun _ => rfl) fl) trivial) ?_ | refine And.intro bd ?_ | refine ⟨_, set_map _ _ _, ?_⟩ | refine ⟨_, set_rfl _ _ _, ?_⟩ | refine ⟨_, singles_rfl _, ?_⟩ | fail)
  first | refine Wp.draw (more := more3 true _ _) more3_det more3_ok FOK.wide rfl (by decide +kernel) (by conv => lhs; reduce) ?_ | refine Wp.draw (more := more3 true _ _) more3_det more3_ok (FOK.inRound _) rfl (by decide +kernel) (by conv => lhs; reduce) ?_
  repeat' ((try conv => whnf); first | refine k1 (fun hb => ?_) fun hb => ?_ | refine k2 (fun hb => ?_) fun hb => ?_ | (first | refine k3 (fun hb => ?_) fun hb => ?_ | refine k4 (fun hb => ?_) fun hb => ?_) <;> (try rw [List.length_map] at hb) <;> (try (exfalso; omega; done)) | refine k5 (fun hb => ?_) fun hb => ?_ | refine k6 (fun hb => ?_) fun hb => ?_ | refine Both.intro ?_ ?_ | refine And.intro rfl ?_ | refine s1 ?_ | refine s2 ?_ | refine s3 ?_ | refine s4 nm ?_ | refine s5 nm nm ?_ | refine s6 nm nm ?_ | refine s7 ?_ | refine And.intro (by assumption) ?_ | refine s8 nm ?_ | refine s9 nm nm ?_ | refine sa nm ?_ | refine Exists.intro _ (Exists.intro _ (And.intro (getMapN nm) (And.intro rfl ?_))) | refine Or.inl (Exists.intro _ (And.intro (getMapN nm) (And.intro rfl (And.intro rfl ?_)))) | refine Or.inl (And.intro rfl (And.intro rfl (And.intro bd (And.intro rfl (And.intro rfl ?_))))) | refine ⟨_, singles_flat _ _, ?_⟩ | refine ⟨_, singles_map _ _, ?_⟩ | refine And.intro (onesB_flat _ _ fun _ => rfl) ?_ | refine And.intro (onesB_map _ _ fun _ => rfl) ?_ | refine Or.inr (And.intro rfl (And.intro rfl (And.intro rfl ?_))) | refine And.intro (And.intro (And.intro (onesB_flat _ _ fun _ => rfl) fl) trivial) ?_ | refine And.intro bd ?_ | refine ⟨_, set_map _ _ _, ?_⟩ | refine ⟨_, set_rfl _ _ _, ?_⟩ | refine ⟨_, singles_rfl _, ?_⟩ | fail)
  refine ⟨_, qb2, ?_⟩
  repeat' ((try conv => whnf); first | refine k1 (fun hb => ?_) fun hb => ?_ | refine k2 (fun hb => ?_) fun hb => ?_ | (first | refine k3 (fun hb => ?_) fun hb => ?_ | refine k4 (fun hb => ?_) fun hb => ?_) <;> (try rw [List.length_map] at hb) <;> (try (exfalso; omega; done)) | refine k5 (fun hb => ?_) fun hb => ?_ | refine k6 (fun hb => ?_) fun hb => ?_ | refine Both.intro ?_ ?_ | refine And.intro rfl ?_ | refine s1 ?_ | refine s2 ?_ | refine s3 ?_ | refine s4 nm ?_ | refine s5 nm nm ?_ | refine s6 nm nm ?_ | refine s7 ?_ | refine And.intro (by assumption) ?_ | refine s8 nm ?_ | refine s9 nm nm ?_ | refine sa nm ?_ | refine Exists.intro _ (Exists.intro _ (And.intro (getMapN nm) (And.intro rfl ?_))) | refine Or.inl (Exists.intro _ (And.intro (getMapN nm) (And.intro rfl (And.intro rfl ?_)))) | refine Or.inl (And.intro rfl (And.intro rfl (And.intro bd (And.intro rfl (And.intro rfl ?_))))) | refine ⟨_, singles_flat _ _, ?_⟩ | refine ⟨_, singles_map _ _, ?_⟩ | refine And.intro (onesB_flat _ _ fun _ => rfl) ?_ | refine And.intro (onesB_map _ _ fun _ => rfl) ?_ | refine Or.inr (And.intro rfl (And.intro rfl (And.intro rfl ?_))) | refine And.intro (And.intro (And.intro (onesB_flat _ _ fun _ => rfl) fl) trivial) ?_ | refine And.intro bd ?_ | refine ⟨_, set_map _ _ _, ?_⟩ | refine ⟨_, set_rfl _ _ _, ?_⟩ | refine ⟨_, singles_rfl _, ?_⟩ | fail)
  refine ⟨_, js3, ?_⟩
  repeat' ((try conv => whnf); first | refine k1 (fun hb => ?_) fun hb => ?_ | refine k2 (fun hb => ?_) fun hb => ?_ | (first | refine k3 (fun hb => ?_) fun hb => ?_ | refine k4 (fun hb => ?_) fun hb => ?_) <;> (try rw [List.length_map] at hb) <;> (try (exfalso; omega; done)) | refine k5 (fun hb => ?_) fun hb => ?_ | refine k6 (fun hb => ?_) fun hb => ?_ | refine Both.intro ?_ ?_ | refine And.intro rfl ?_ | refine s1 ?_ | refine s2 ?_ | refine s3 ?_ | refine s4 nm ?_ | refine s5 nm nm ?_ | refine s6 nm nm ?_ | refine s7 ?_ | refine And.intro (by assumption) ?_ | refine s8 nm ?_ | refine s9 nm nm ?_ | refine sa nm ?_ | refine Exists.intro _ (Exists.intro _ (And.intro (getMapN nm) (And.intro rfl ?_))) | refine Or.inl (Exists.intro _ (And.intro (getMapN nm) (And.intro rfl (And.intro rfl ?_)))) | refine Or.inl (And.intro rfl (And.intro rfl (And.intro bd (And.intro rfl (And.intro rfl ?_))))) | refine ⟨_, singles_flat _ _, ?_⟩ | refine ⟨_, singles_map _ _, ?_⟩ | refine And.intro (onesB_flat _ _ fun _ => rfl) ?_ | refine And.intro (onesB_map _ _ fun _ => rfl) ?_ | refine Or.inr (And.intro rfl (And.intro rfl (And.intro rfl ?_))) | refine And.intro (And.intro (And.intro (onesB_flat _ _ fun _ => rfl) fl) trivial) ?_ | refine And.intro bd ?_ | refine ⟨_, set_map _ _ _, ?_⟩ | refine ⟨_, set_rfl _ _ _, ?_⟩ | refine ⟨_, singles_rfl _, ?_⟩ | fail)
  refine .inl ⟨_, js4, ?_⟩
  repeat' ((try conv => whnf); first | refine k1 (fun hb => ?_) fun hb => ?_ | refine k2 (fun hb => ?_) fun hb => ?_ | (first | refine k3 (fun hb => ?_) fun hb => ?_ | refine k4 (fun hb => ?_) fun hb => ?_) <;> (try rw [List.length_map] at hb) <;> (try (exfalso; omega; done)) | refine k5 (fun hb => ?_) fun hb => ?_ | refine k6 (fun hb => ?_) fun hb => ?_ | refine Both.intro ?_ ?_ | refine And.intro rfl ?_ | refine s1 ?_ | refine s2 ?_ | refine s3 ?_ | refine s4 nm ?_ | refine s5 nm nm ?_ | refine s6 nm nm ?_ | refine s7 ?_ | refine And.intro (by assumption) ?_ | refine s8 nm ?_ | refine s9 nm nm ?_ | refine sa nm ?_ | refine Exists.intro _ (Exists.intro _ (And.intro (getMapN nm) (And.intro rfl ?_))) | refine Or.inl (Exists.intro _ (And.intro (getMapN nm) (And.intro rfl (And.intro rfl ?_)))) | refine Or.inl (And.intro rfl (And.intro rfl (And.intro bd (And.intro rfl (And.intro rfl ?_))))) | refine ⟨_, singles_flat _ _, ?_⟩ | refine ⟨_, singles_map _ _, ?_⟩ | refine And.intro (onesB_flat _ _ fun _ => rfl) ?_ | refine And.intro (onesB_map _ _ fun _ => rfl) ?_ | refine Or.inr (And.intro rfl (And.intro rfl (And.intro rfl ?_))) | refine And.intro (And.intro (And.intro (onesB_flat _ _ fun _ => rfl) fl) trivial) ?_ | refine And.intro bd ?_ | refine ⟨_, set_map _ _ _, ?_⟩ | refine ⟨_, set_rfl _ _ _, ?_⟩ | refine ⟨_, singles_rfl _, ?_⟩ | fail)
  refine .inl ⟨_, o1, ?_⟩
  repeat' ((try conv => whnf); first | refine k1 (fun hb => ?_) fun hb => ?_ | refine k2 (fun hb => ?_) fun hb => ?_ | (first | refine k3 (fun hb => ?_) fun hb => ?_ | refine k4 (fun hb => ?_) fun hb => ?_) <;> (try rw [List.length_map] at hb) <;> (try (exfalso; omega; done)) | refine k5 (fun hb => ?_) fun hb => ?_ | refine k6 (fun hb => ?_) fun hb => ?_ | refine Both.intro ?_ ?_ | refine And.intro rfl ?_ | refine s1 ?_ | refine s2 ?_ | refine s3 ?_ | refine s4 nm ?_ | refine s5 nm nm ?_ | refine s6 nm nm ?_ | refine s7 ?_ | refine And.intro (by assumption) ?_ | refine s8 nm ?_ | refine s9 nm nm ?_ | refine sa nm ?_ | refine Exists.intro _ (Exists.intro _ (And.intro (getMapN nm) (And.intro rfl ?_))) | refine Or.inl (Exists.intro _ (And.intro (getMapN nm) (And.intro rfl (And.intro rfl ?_)))) | refine Or.inl (And.intro rfl (And.intro rfl (And.intro bd (And.intro rfl (And.intro rfl ?_))))) | refine ⟨_, singles_flat _ _, ?_⟩ | refine ⟨_, singles_map _ _, ?_⟩ | refine And.intro (onesB_flat _ _ fun _ => rfl) ?_ | refine And.intro (onesB_map _ _ fun _ => rfl) ?_ | refine Or.inr (And.intro rfl (And.intro rfl (And.intro rfl ?_))) | refine And.intro (And.intro (And.intro (onesB_flat _ _ fun _ => rfl) fl) trivial) ?_ | refine And.intro bd ?_ | refine ⟨_, set_map _ _ _, ?_⟩ | refine ⟨_, set_rfl _ _ _, ?_⟩ | refine ⟨_, singles_rfl _, ?_⟩ | fail)
  refine .inl ⟨_, o2, ?_⟩
  repeat' ((try conv => whnf); first | refine k1 (fun hb => ?_) fun hb => ?_ | refine k2 (fun hb => ?_) fun hb => ?_ | (first | refine k3 (fun hb => ?_) fun hb => ?_ | refine k4 (fun hb => ?_) fun hb => ?_) <;> (try rw [List.length_map] at hb) <;> (try (exfalso; omega; done)) | refine k5 (fun hb => ?_) fun hb => ?_ | refine k6 (fun hb => ?_) fun hb => ?_ | refine Both.intro ?_ ?_ | refine And.intro rfl ?_ | refine s1 ?_ | refine s2 ?_ | refine s3 ?_ | refine s4 nm ?_ | refine s5 nm nm ?_ | refine s6 nm nm ?_ | refine s7 ?_ | refine And.intro (by assumption) ?_ | refine s8 nm ?_ | refine s9 nm nm ?_ | refine sa nm ?_ | refine Exists.intro _ (Exists.intro _ (And.intro (getMapN nm) (And.intro rfl ?_))) | refine Or.inl (Exists.intro _ (And.intro (getMapN nm) (And.intro rfl (And.intro rfl ?_)))) | refine Or.inl (And.intro rfl (And.intro rfl (And.intro bd (And.intro rfl (And.intro rfl ?_))))) | refine ⟨_, singles_flat _ _, ?_⟩ | refine ⟨_, singles_map _ _, ?_⟩ | refine And.intro (onesB_flat _ _ fun _ => rfl) ?_ | refine And.intro (onesB_map _ _ fun _ => rfl) ?_ | refine Or.inr (And.intro rfl (And.intro rfl (And.intro rfl ?_))) | refine And.intro (And.intro (And.intro (onesB_flat _ _ fun _ => rfl) fl) trivial) ?_ | refine And.intro bd ?_ | refine ⟨_, set_map _ _ _, ?_⟩ | refine ⟨_, set_rfl _ _ _, ?_⟩ | refine ⟨_, singles_rfl _, ?_⟩ | fail)
  refine .inl ⟨_, qs, ?_⟩
  repeat' ((try conv => whnf); first | refine k1 (fun hb => ?_) fun hb => ?_ | refine k2 (fun hb => ?_) fun hb => ?_ | (first | refine k3 (fun hb => ?_) fun hb => ?_ | refine k4 (fun hb => ?_) fun hb => ?_) <;> (try rw [List.length_map] at hb) <;> (try (exfalso; omega; done)) | refine k5 (fun hb => ?_) fun hb => ?_ | refine k6 (fun hb => ?_) fun hb => ?_ | refine Both.intro ?_ ?_ | refine And.intro rfl ?_ | refine s1 ?_ | refine s2 ?_ | refine s3 ?_ | refine s4 nm ?_ | refine s5 nm nm ?_ | refine s6 nm nm ?_ | refine s7 ?_ | refine And.intro (by assumption) ?_ | refine s8 nm ?_ | refine s9 nm nm ?_ | refine sa nm ?_ | refine Exists.intro _ (Exists.intro _ (And.intro (getMapN nm) (And.intro rfl ?_))) | refine Or.inl (Exists.intro _ (And.intro (getMapN nm) (And.intro rfl (And.intro rfl ?_)))) | refine Or.inl (And.intro rfl (And.intro rfl (And.intro bd (And.intro rfl (And.intro rfl ?_))))) | refine ⟨_, singles_flat _ _, ?_⟩ | refine ⟨_, singles_map _ _, ?_⟩ | refine And.intro (onesB_flat _ _ fun _ => rfl) ?_ | refine And.intro (onesB_map _ _ fun _ => rfl) ?_ | refine Or.inr (And.intro rfl (And.intro rfl (And.intro rfl ?_))) | refine And.intro (And.intro (And.intro (onesB_flat _ _ fun _ => rfl) fl) trivial) ?_ | refine And.intro bd ?_ | refine ⟨_, set_map _ _ _, ?_⟩ | refine ⟨_, set_rfl _ _ _, ?_⟩ | refine ⟨_, singles_rfl _, ?_⟩ | fail)
  refine .inl ⟨_, qs, ?_⟩
  repeat' ((try conv => whnf); first | refine k1 (fun hb => ?_) fun hb => ?_ | refine k2 (fun hb => ?_) fun hb => ?_ | (first | refine k3 (fun hb => ?_) fun hb => ?_ | refine k4 (fun hb => ?_) fun hb => ?_) <;> (try rw [List.length_map] at hb) <;> (try (exfalso; omega; done)) | refine k5 (fun hb => ?_) fun hb => ?_ | refine k6 (fun hb => ?_) fun hb => ?_ | refine Both.intro ?_ ?_ | refine And.intro rfl ?_ | refine s1 ?_ | refine s2 ?_ | refine s3 ?_ | refine s4 nm ?_ | refine s5 nm nm ?_ | refine s6 nm nm ?_ | refine s7 ?_ | refine And.intro (by assumption) ?_ | refine s8 nm ?_ | refine s9 nm nm ?_ | refine sa nm ?_ | refine Exists.intro _ (Exists.intro _ (And.intro (getMapN nm) (And.intro rfl ?_))) | refine Or.inl (Exists.intro _ (And.intro (getMapN nm) (And.intro rfl (And.intro rfl ?_)))) | refine Or.inl (And.intro rfl (And.intro rfl (And.intro bd (And.intro rfl (And.intro rfl ?_))))) | refine ⟨_, singles_flat _ _, ?_⟩ | refine ⟨_, singles_map _ _, ?_⟩ | refine And.intro (onesB_flat _ _ fun _ => rfl) ?_ | refine And.intro (onesB_map _ _ fun _ => rfl) ?_ | refine Or.inr (And.intro rfl (And.intro rfl (And.intro rfl ?_))) | refine And.intro (And.intro (And.intro (onesB_flat _ _ fun _ => rfl) fl) trivial) ?_ | refine And.intro bd ?_ | refine ⟨_, set_map _ _ _, ?_⟩ | refine ⟨_, set_rfl _ _ _, ?_⟩ | refine ⟨_, singles_rfl _, ?_⟩ | fail)
  refine .inl ⟨_, qr, ?_⟩
  repeat' ((try conv => whnf); first | refine k1 (fun hb => ?_) fun hb => ?_ | refine k2 (fun hb => ?_) fun hb => ?_ | (first | refine k3 (fun hb => ?_) fun hb => ?_ | refine k4 (fun hb => ?_) fun hb => ?_) <;> (try rw [List.length_map] at hb) <;> (try (exfalso; omega; done)) | refine k5 (fun hb => ?_) fun hb => ?_ | refine k6 (fun hb => ?_) fun hb => ?_ | refine Both.intro ?_ ?_ | refine And.intro rfl ?_ | refine s1 ?_ | refine s2 ?_ | refine s3 ?_ | refine s4 nm ?_ | refine s5 nm nm ?_ | refine s6 nm nm ?_ | refine s7 ?_ | refine And.intro (by assumption) ?_ | refine s8 nm ?_ | refine s9 nm nm ?_ | refine sa nm ?_ | refine Exists.intro _ (Exists.intro _ (And.intro (getMapN nm) (And.intro rfl ?_))) | refine Or.inl (Exists.intro _ (And.intro (getMapN nm) (And.intro rfl (And.intro rfl ?_)))) | refine Or.inl (And.intro rfl (And.intro rfl (And.intro bd (And.intro rfl (And.intro rfl ?_))))) | refine ⟨_, singles_flat _ _, ?_⟩ | refine ⟨_, singles_map _ _, ?_⟩ | refine And.intro (onesB_flat _ _ fun _ => rfl) ?_ | refine And.intro (onesB_map _ _ fun _ => rfl) ?_ | refine Or.inr (And.intro rfl (And.intro rfl (And.intro rfl ?_))) | refine And.intro (And.intro (And.intro (onesB_flat _ _ fun _ => rfl) fl) trivial) ?_ | refine And.intro bd ?_ | refine ⟨_, set_map _ _ _, ?_⟩ | refine ⟨_, set_rfl _ _ _, ?_⟩ | refine ⟨_, singles_rfl _, ?_⟩ | fail)
  refine .inl ⟨_, qr, ?_⟩
  repeat' ((try conv => whnf); first | refine k1 (fun hb => ?_) fun hb => ?_ | refine k2 (fun hb => ?_) fun hb => ?_ | (first | refine k3 (fun hb => ?_) fun hb => ?_ | refine k4 (fun hb => ?_) fun hb => ?_) <;> (try rw [List.length_map] at hb) <;> (try (exfalso; omega; done)) | refine k5 (fun hb => ?_) fun hb => ?_ | refine k6 (fun hb => ?_) fun hb => ?_ | refine Both.intro ?_ ?_ | refine And.intro rfl ?_ | refine s1 ?_ | refine s2 ?_ | refine s3 ?_ | refine s4 nm ?_ | refine s5 nm nm ?_ | refine s6 nm nm ?_ | refine s7 ?_ | refine And.intro (by assumption) ?_ | refine s8 nm ?_ | refine s9 nm nm ?_ | refine sa nm ?_ | refine Exists.intro _ (Exists.intro _ (And.intro (getMapN nm) (And.intro rfl ?_))) | refine Or.inl (Exists.intro _ (And.intro (getMapN nm) (And.intro rfl (And.intro rfl ?_)))) | refine Or.inl (And.intro rfl (And.intro rfl (And.intro bd (And.intro rfl (And.intro rfl ?_))))) | refine ⟨_, singles_flat _ _, ?_⟩ | refine ⟨_, singles_map _ _, ?_⟩ | refine And.intro (onesB_flat _ _ fun _ => rfl) ?_ | refine And.intro (onesB_map _ _ fun _ => rfl) ?_ | refine Or.inr (And.intro rfl (And.intro rfl (And.intro rfl ?_))) | refine And.intro (And.intro (And.intro (onesB_flat _ _ fun _ => rfl) fl) trivial) ?_ | refine And.intro bd ?_ | refine ⟨_, set_map _ _ _, ?_⟩ | refine ⟨_, set_rfl _ _ _, ?_⟩ | refine ⟨_, singles_rfl _, ?_⟩ | fail)
  refine .inl ⟨_, qd, ?_⟩
  repeat' ((try conv => whnf); first | refine k1 (fun hb => ?_) fun hb => ?_ | refine k2 (fun hb => ?_) fun hb => ?_ | (first | refine k3 (fun hb => ?_) fun hb => ?_ | refine k4 (fun hb => ?_) fun hb => ?_) <;> (try rw [List.length_map] at hb) <;> (try (exfalso; omega; done)) | refine k5 (fun hb => ?_) fun hb => ?_ | refine k6 (fun hb => ?_) fun hb => ?_ | refine Both.intro ?_ ?_ | refine And.intro rfl ?_ | refine s1 ?_ | refine s2 ?_ | refine s3 ?_ | refine s4 nm ?_ | refine s5 nm nm ?_ | refine s6 nm nm ?_ | refine s7 ?_ | refine And.intro (by assumption) ?_ | refine s8 nm ?_ | refine s9 nm nm ?_ | refine sa nm ?_ | refine Exists.intro _ (Exists.intro _ (And.intro (getMapN nm) (And.intro rfl ?_))) | refine Or.inl (Exists.intro _ (And.intro (getMapN nm) (And.intro rfl (And.intro rfl ?_)))) | refine Or.inl (And.intro rfl (And.intro rfl (And.intro bd (And.intro rfl (And.intro rfl ?_))))) | refine ⟨_, singles_flat _ _, ?_⟩ | refine ⟨_, singles_map _ _, ?_⟩ | refine And.intro (onesB_flat _ _ fun _ => rfl) ?_ | refine And.intro (onesB_map _ _ fun _ => rfl) ?_ | refine Or.inr (And.intro rfl (And.intro rfl (And.intro rfl ?_))) | refine And.intro (And.intro (And.intro (onesB_flat _ _ fun _ => rfl) fl) trivial) ?_ | refine And.intro bd ?_ | refine ⟨_, set_map _ _ _, ?_⟩ | refine ⟨_, set_rfl _ _ _, ?_⟩ | refine ⟨_, singles_rfl _, ?_⟩ | fail)
  exact PSub.refl _
end Go.Proofs.Ytcgpikmaapallaa
