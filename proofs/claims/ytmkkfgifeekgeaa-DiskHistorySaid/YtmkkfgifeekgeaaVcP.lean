/- Slices of slices, literals, copy, conversions: sound; all together. Conditions: none. -/
import Derived.Test.YtmkkfgifeekgeaaVcO
import Derived.Great.FillDense
namespace Go.Avc
open Go.RowKit

theorem Rl.congr {Γ : Ctx} {s s' : St} {tm : Array Value} {w : World} {β : BM} (h : Rl Γ s tm w β) (h1 : ∀ t, s'.get t = s.get t) (h2 : ∀ k, s'.blk k = s.blk k) (h3 : s'.used = s.used) : Rl Γ s' tm w β :=
  { h with
    slots := fun t => by rw [h1]; exact h.slots t
    blks := fun k => by rw [h2]; exact h.blks k
    used1 := fun t k hk => by rw [h1] at hk; rw [h3]; exact h.used1 t k hk
    used2 := fun k b hb => by rw [h2] at hb; rw [h3]; exact h.used2 k b hb }

section
variable {Γ : Ctx} {s : St} {tm : Array Value} {w : World} {β : BM} {P : Program} {K : Kont}

def optAR (Γ : Ctx) (w : World) (β : BM) : Option AV → Option Value → Prop
  | none, none => True
  | some x, some u => AR w (Av Γ.X β) β x u
  | _, _ => False

theorem run_bound (k : IntKind) (i : Int) (y : Nat) (code : BoundsCode) (h0 : 0 ≤ i) (h1 : i ≤ y) : (Instr.sliceBound (.int k i) y code).run P w = .ok i.toNat w := run_sliceBound w k i y code h0 h1

theorem bounds_sound {isS : Bool} {len cap : Nat} (hlc : len ≤ cap) {lo hi mx : Option AV} {lo' hi' mx' : Option Value} (hlo : optAR Γ w β lo lo') (hhi : optAR Γ w β hi hi') (hmx : optAR Γ w β mx mx') {K : Nat → Nat → Nat → Prop} (hK : boundsVC len lo hi mx K) :
    ∃ l h m k, K l h k ∧ (Instr.sliceBounds isS len cap lo' hi' mx').run P w = .ok (l, h, m) w ∧ l ≤ h ∧ h ≤ m ∧ h ≤ len ∧ m ≤ cap ∧ (mx' = none → m = cap) := by
  unfold boundsVC at hK
  have low : ∀ (h k : Nat), lowVC lo h k K → ∃ l, K l h k ∧ l ≤ h ∧ ((lo' = none ∧ l = 0) ∨ ∃ v, lo' = some v ∧ ∀ code, (Instr.sliceBound v h code).run P w = .ok l w) := by
    intro h k hk
    unfold lowVC at hk
    split at hk
    · cases lo' with
      | none => exact ⟨0, hk, Nat.zero_le _, .inl ⟨rfl, rfl⟩⟩
      | some v => exact hlo.elim
    · cases lo' with
      | none => exact hlo.elim
      | some v =>
        obtain ⟨h0, h1, hk⟩ := hk
        have e := AR.val_inv (Γ := Γ) hlo
        subst e
        exact ⟨_, hk, by omega, .inr ⟨_, rfl, fun code => run_bound _ _ _ _ h0 h1⟩⟩
    · exact hk.elim
  cases mx with
  | none =>
    cases mx' with
    | some v => exact hmx.elim
    | none =>
      cases hi with
      | none =>
        cases hi' with
        | some v => exact hhi.elim
        | none =>
          obtain ⟨l, hk, hl, hf⟩ := low len len hK
          refine ⟨l, len, cap, len, hk, ?_, hl, hlc, Nat.le_refl _, Nat.le_refl _, fun _ => rfl⟩
          rcases hf with ⟨rfl, rfl⟩ | ⟨v, rfl, hf⟩ <;> simp [Instr.sliceBounds, *]
      | some x =>
        cases hi' with
        | none => exact hhi.elim
        | some v =>
          simp only at hK
          split at hK
          · rename_i heq
            cases heq
          · rename_i k h heq
            cases heq
            have e := AR.val_inv (Γ := Γ) hhi
            subst e
            obtain ⟨h0, h1, hK⟩ := hK
            obtain ⟨l, hk, hl, hf⟩ := low h.toNat len hK
            refine ⟨l, h.toNat, cap, len, hk, ?_, hl, by omega, by omega, Nat.le_refl _, fun _ => rfl⟩
            rcases hf with ⟨rfl, rfl⟩ | ⟨v, rfl, hf⟩ <;> simp [Instr.sliceBounds, run_bound (P := P) (w := w) k h cap _ h0 (by omega), *]
          · exact hK.elim
  | some x =>
    cases mx' with
    | none => exact hmx.elim
    | some v =>
      simp only at hK
      split at hK
      · rename_i heq; cases heq
      · rename_i km m heq
        cases heq
        have e := AR.val_inv (Γ := Γ) hmx
        subst e
        split at hK
        · rename_i kh h
          cases hi' with
          | none => exact hhi.elim
          | some v =>
            have e := AR.val_inv (Γ := Γ) hhi
            subst e
            obtain ⟨m0, m1, h0, h1, hK⟩ := hK
            obtain ⟨l, hk, hl, hf⟩ := low h.toNat m.toNat hK
            refine ⟨l, h.toNat, m.toNat, m.toNat, hk, ?_, hl, by omega, by omega, by omega, fun h => by cases h⟩
            rcases hf with ⟨rfl, rfl⟩ | ⟨v, rfl, hf⟩ <;> simp [Instr.sliceBounds, run_bound (P := P) (w := w) km m cap _ m0 (by omega), run_bound (P := P) (w := w) kh h m.toNat _ h0 (by omega), *]
        · exact hK.elim
      · exact hK.elim

theorem cut_get {α : Type} {l : List α} {i j x : Nat} {a : α} (h : (cut l i j)[x]? = some a) : l[i + x]? = some a ∧ x < j - i := by
  have hx : x < j - i := by have := (List.getElem?_eq_some_iff.1 h).1; simp [cut] at this; omega
  unfold cut at h
  rw [List.getElem?_take, if_pos hx, List.getElem?_drop] at h
  exact ⟨h, hx⟩
theorem cut_length {α : Type} {l : List α} {i j : Nat} (h : j ≤ l.length) : (cut l i j).length = j - i := by simp [cut]; omega

theorem sliced_row {bi : BI} {k i : Nat} (hβ : β k = some bi) {a : Option Addr} {l h m cap : Nat} (hl : l ≤ h) (hh : h ≤ m) (hn : i + h ≤ bi.len) (hm : m ≤ cap) (hcap : cap ≤ maxLen)
    (hr : 0 < m - l → bi.virt = false ∧ a = some ⟨bi.b, i * bi.sz, none⟩ ∧ (i + m) * bi.sz ≤ bi.tot) {A : Nat → Prop} :
    AR w A β (.lsl k (i + l) (h - l)) (.slice (if m = l then a else a.map (·.add (l * bi.sz))) (h - l) (m - l)) := by
  by_cases e : m = l
  · rw [if_pos e]
    have e1 : h - l = 0 := by omega
    have e2 : m - l = 0 := by omega
    rw [e1, e2]
    exact .lslV _ _ bi a hβ (by omega)
  · rw [if_neg e]
    obtain ⟨h1, rfl, h3⟩ := hr (by omega)
    have := AR.lsl (w := w) (A := A) (β := β) k (i + l) (h - l) bi (m - l) hβ h1 (by omega) (by rw [show i + l + (m - l) = i + m by omega]; exact h3) (by omega) (by omega)
    simp only [Option.map_some, Addr.add_lit]
    rw [Nat.add_mul] at this
    exact this

theorem slice_sound (h : Rl Γ s tm w β) {t : TypeId} {x : AV} {u : Value} {lo hi mx : Option AV} {lo' hi' mx' : Option Value} (hx : AR w (Av Γ.X β) β x u) (hkx : ∀ k ∈ x.keys, k ∈ s.used)
    (hlo : optAR Γ w β lo lo') (hhi : optAR Γ w β hi hi') (hmx : optAR Γ w β mx mx') (hK : opSlice P t x lo hi mx s.blk K) : Out Γ s tm K ((Instr.sliceAt t u lo' hi' mx').run P w) := by
  unfold opSlice at hK
  split at hK
  · rename_i e ht
    have hA : (Instr.sliceAt t u lo' hi' mx').run P w = (Instr.slice t u lo' hi' mx').run P w := by simp [Instr.sliceAt, run_underlying ht]
    rw [hA]
    split at hK
    · rename_i sz rows
      split at hK
      case h_2 => exact hK.elim
      rename_i hsz
      have hsz := natEq_spec hsz
      cases hx with
      | pure _ _ hp =>
      cases hp with
      | slnil =>
        obtain ⟨l, h', m, k, hk, hr, b1, b2, b3, b4, _⟩ := bounds_sound (P := P) (isS := true) (len := 0) (cap := 0) (Nat.le_refl _) hlo hhi hmx hK
        have : l = 0 := by omega
        have : h' = 0 := by omega
        have : m = 0 := by omega
        subst l h' m
        refine Out.same h hk (u := .slice none 0 0) ?_ (.pure _ _ (by simp [cut]; exact .slnil sz)) (by simp [AV.keys])
        simp [Instr.slice, run_underlying ht, hr, run_sizeOf hsz]
      | sl _ _ a cap us hc hm hs hb hl hr' hp =>
        obtain ⟨l, h', m, k, hk, hr, b1, b2, b3, b4, _⟩ := bounds_sound (P := P) (isS := true) hc hlo hhi hmx hK
        refine Out.same h hk (u := .slice (if m = l then some a else some (a.add (l * sz))) (h' - l) (m - l)) ?_ (.pure _ _ ?_) (by simp [AV.keys])
        · simp [Instr.slice, run_underlying ht, hr, run_sizeOf hsz]
        · have hlen : (cut rows l h').length = h' - l := cut_length b3
          have e : (if m = l then some a else some (a.add (l * sz))) = some (if m = l then a else a.add (l * sz)) := by split <;> rfl
          rw [e, ← hlen]
          refine PR.sl sz _ _ _ (fun x y => us (l + x) y) (by omega) (by omega) hs (fun hn => ?_) (fun x row hx => hl _ row (cut_get hx).1) (fun x row y p hx hy => ?_) (fun x row y p hx hy => hp _ row y p (cut_get hx).1 hy)
          · rw [if_neg (by omega), block_add]; exact hb (by omega)
          · obtain ⟨hx', hxl⟩ := cut_get hx
            rw [if_neg (by omega), add_add]
            have := hr' _ row y p hx' hy
            rw [Nat.add_mul, Nat.add_assoc] at this
            exact this
    · rename_i k i n
      split at hK
      case h_2 => exact hK.elim
      rename_i sz rows hblk
      split at hK
      case h_2 => exact hK.elim
      rename_i hsz
      have hsz := natEq_spec hsz
      obtain ⟨bi, hβ, hb⟩ := h.live hblk
      have hb' := hb
      obtain ⟨b1, b2, b2', b3, b4⟩ := hb'
      cases hx with
      | lslDead _ _ _ _ hd => rw [hβ] at hd; cases hd
      | lslV _ _ bi' a hbb hil =>
        rw [hβ] at hbb; cases hbb
        obtain ⟨l, h', m, k', hk, hr, c1, c2, c3, c4, _⟩ := bounds_sound (P := P) (isS := true) (len := 0) (cap := 0) (Nat.le_refl _) hlo hhi hmx hK
        refine Out.same h hk ?_ (sliced_row (a := a) (cap := 0) hβ c1 c2 (by omega) c4 (Nat.zero_le _) (fun hlt => by omega)) (by simpa [AV.keys] using hkx)
        simp [Instr.slice, run_underlying ht, hr, run_sizeOf hsz, b1]
      | lsl _ _ _ bi' cap hbb hv hn hcc hil hm =>
        rw [hβ] at hbb; cases hbb
        obtain ⟨l, h', m, k', hk, hr, c1, c2, c3, c4, _⟩ := bounds_sound (P := P) (isS := true) hn hlo hhi hmx hK
        refine Out.same h hk ?_ (sliced_row (a := some ⟨bi.b, i * bi.sz, none⟩) (cap := cap) hβ c1 c2 (by omega) c4 hm (fun hlt => ⟨hv, rfl, Nat.le_trans (Nat.mul_le_mul_right _ (by omega)) hcc⟩)) (by simpa [AV.keys] using hkx)
        simp [Instr.slice, run_underlying ht, hr, run_sizeOf hsz, b1]
    · split at hK
      case h_2 => exact hK.elim
      rename_i sz hsz
      rw [hx.val_inv]
      obtain ⟨l, h', m, k, hk, hr, b1, b2, b3, b4, _⟩ := bounds_sound (P := P) (isS := true) (len := 0) (cap := 0) (Nat.le_refl _) hlo hhi hmx hK
      have : l = 0 := by omega
      have : h' = 0 := by omega
      have : m = 0 := by omega
      subst l h' m
      refine Out.same h hk (u := .slice none 0 0) ?_ (.pure _ _ (.val _)) (by simp [AV.keys])
      simp [Instr.slice, run_underlying ht, hr, run_sizeOf hsz]
    · exact hK.elim
  · rename_i len e ht
    split at hK
    case h_2 => exact hK.elim
    rename_i k i j
    split at hK
    case h_2 => exact hK.elim
    rename_i sz rows hblk
    split at hK
    case h_2 => exact hK.elim
    rename_i hsz
    have hsz := natEq_spec hsz
    obtain ⟨rfl, rfl, hlen, hlm, hK⟩ := hK
    obtain ⟨bi, hβ, hb⟩ := h.live hblk
    have hb' := hb
    obtain ⟨b1, b2, b2', b3, b4⟩ := hb'
    obtain rfl := hx.loc_inv hβ
    obtain ⟨l, h', m, k', hk, hr, c1, c2, c3, c4, _⟩ := bounds_sound (P := P) (isS := false) (len := len) (cap := len) (Nat.le_refl _) hlo hhi hmx hK
    have hsl := sliced_row (w := w) (i := 0) (a := some ⟨bi.b, 0 * bi.sz + 0, none⟩) (cap := len) (A := Av Γ.X β) hβ c1 c2 (by omega) c4 (by unfold maxLen; omega) (fun hlt => by
      rcases b4 with ⟨_, rfl⟩ | ⟨b4, cur, et, fz, b5, b6, b7, b8, b9⟩
      · simp at hlen; omega
      · refine ⟨b4, rfl, Nat.le_trans (Nat.mul_le_mul_right _ ?_) (by rw [← b1] at b8; exact b8)⟩
        omega)
    rw [Nat.zero_add] at hsl
    refine Out.same h hk ?_ hsl (by simpa [AV.keys] using hkx)
    simp [Instr.sliceAt, Instr.sureAddr, run_underlying ht, hr, run_sizeOf hsz, b1]
    split <;> rfl
  · rename_i ht
    have hA : (Instr.sliceAt t u lo' hi' mx').run P w = (Instr.slice t u lo' hi' mx').run P w := by simp [Instr.sliceAt, run_underlying ht]
    rw [hA]
    split at hK
    · rename_i str
      rw [hx.val_inv]
      obtain ⟨l, h', m, k, hk, hr, b1, b2, b3, b4, _⟩ := bounds_sound (P := P) (isS := false) (len := str.size) (cap := str.size) (Nat.le_refl _) hlo hhi hmx hK
      cases mx' with
      | some v => exact hmx.elim
      | none =>
        refine Out.same h hk (u := .string (str.extract l h')) ?_ (.pure _ _ (.val _)) (by simp [AV.keys])
        simp [Instr.slice, run_underlying ht, hr]
    · exact hK.elim
  · exact hK.elim
end
end Go.Avc
