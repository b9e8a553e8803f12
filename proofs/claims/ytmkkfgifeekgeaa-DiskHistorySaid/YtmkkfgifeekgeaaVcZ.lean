/- A call by a contract with blocks. Conditions: none. -/
import Derived.Test.YtmkkfgifeekgeaaVcX
namespace Go.Avc
open Go.RowKit

/-- How the names of a contract stand for those of the caller. -/
structure Use (Γ : Ctx) (s : St) (U : List Nat) (σ : Nat → Nat) (s0 : St) (fx : List Nat) (s1 s2 : St) : Prop where
  inj : ∀ j ∈ U, ∀ k ∈ U, σ j = σ k → j = k
  u0 : ∀ k ∈ s0.used, k ∈ U
  u1 : ∀ k ∈ s1.used, k ∈ U
  blk0 : ∀ k b, s0.blk k = some b → s.blk (σ k) = some (b.ren σ)
  new : ∀ k ∈ U, s0.blk k = none → σ k ∉ s.used ∧ σ k ∉ Γ.fx
  old : ∀ k ∈ U, (s0.blk k).isSome = true → k ∈ fx ∨ (s1.blk k = none ∧ σ k ∉ Γ.fx)
  fx0 : ∀ k ∈ fx, k ∈ U ∧ (s0.blk k).isSome = true
  get : ∀ t, s2.get t = s.get t
  blkU : ∀ k ∈ U, s2.blk (σ k) = (s1.blk k).map (Blk.ren σ)
  blkO : ∀ j, (∀ k ∈ U, σ k ≠ j) → s2.blk j = s.blk j
  used : ∀ j ∈ s.used, j ∈ s2.used
  usedU : ∀ k ∈ U, σ k ∈ s2.used

section
variable {Γ : Ctx} {s : St} {tm : Array Value} {w : World} {β : BM} {U : List Nat} {σ : Nat → Nat} {s0 s1 s2 : St} {fx : List Nat}

def b0 (β : BM) (U : List Nat) (σ : Nat → Nat) (s0 : St) : BM := fun k => if k ∈ U ∧ (s0.blk k).isSome = true then β (σ k) else none
def x0 (Γ : Ctx) (β : BM) (U : List Nat) (σ : Nat → Nat) (s0 : St) (b : Nat) : Prop := Av Γ.X β b ∧ ¬ Ex (b0 β U σ s0) b
open Classical in
noncomputable def b2 (β β1 : BM) (U : List Nat) (σ : Nat → Nat) : BM := fun j => if h : ∃ k ∈ U, σ k = j then β1 (Classical.choose h) else β j

theorem b0_some {k : Nat} {bi : BI} (h : b0 β U σ s0 k = some bi) : k ∈ U ∧ (s0.blk k).isSome = true ∧ β (σ k) = some bi := by
  unfold b0 at h
  split at h
  · rename_i h1; exact ⟨h1.1, h1.2, h⟩
  · cases h

theorem b2_in (hi : ∀ j ∈ U, ∀ k ∈ U, σ j = σ k → j = k) {β1 : BM} {k : Nat} (hk : k ∈ U) : b2 β β1 U σ (σ k) = β1 k := by
  have h : ∃ j ∈ U, σ j = σ k := ⟨k, hk, rfl⟩
  unfold b2
  rw [dif_pos h]
  have hc := Classical.choose_spec h
  rw [hi _ hc.1 k hk hc.2]
theorem b2_out {β1 : BM} {j : Nat} (hj : ∀ k ∈ U, σ k ≠ j) : b2 β β1 U σ j = β j := by
  unfold b2
  rw [dif_neg]
  rintro ⟨k, hk, e⟩
  exact hj k hk e

/-- What the caller's blocks are to the one that is called. -/
theorem Rl.enterG (h : Rl Γ s tm w β) (hu : Use Γ s U σ s0 fx s1 s2) {vs : Array Value} (harg : ∀ t, AR w (Av Γ.X β) β ((s0.get t).ren σ) (vs.getD t undef)) (hk0 : ∀ t, ∀ k ∈ (s0.get t).keys, k ∈ s0.used)
    (hk1 : ∀ k b, s0.blk k = some b → k ∈ s0.used ∧ ∀ k' ∈ b.keys, k' ∈ s0.used) : Rl (Ctx.plain Γ.P vs.size w (x0 Γ β U σ s0) (b0 β U σ s0) fx) s0 vs w (b0 β U σ s0) := by
  have hA : ∀ b, Av (x0 Γ β U σ s0) (b0 β U σ s0) b → Av Γ.X β b := by
    rintro b (⟨hx, _⟩ | ⟨k, bi, hk, hv, rfl⟩)
    · exact hx
    · exact .inr ⟨σ k, bi, (b0_some hk).2.2, hv, rfl⟩
  have had : Ad w (Av Γ.X β) w (Av (x0 Γ β U σ s0) (b0 β U σ s0)) := ⟨Nat.le_refl _, fun b _ hn => ⟨rfl, fun h' => hn (hA b h')⟩⟩
  have hold : ∀ k, (s0.blk k).isSome = true → b0 β U σ s0 k = β (σ k) := fun k hk => by
    obtain ⟨b, hb⟩ := Option.isSome_iff_exists.1 hk
    unfold b0
    rw [if_pos ⟨hu.u0 k (hk1 k b hb).1, hk⟩]
  -- a name in use whose block is not there is dead for both
  have hdead : ∀ k ∈ s0.used, b0 β U σ s0 k = β (σ k) := fun k hk => by
    cases hb : s0.blk k with
    | some b => exact hold k (by rw [hb]; rfl)
    | none =>
      have h1 := h.none_of (hu.new k (hu.u0 k hk) hb).1
      unfold b0
      rw [if_neg (by rw [hb]; simp), h1]
  refine
  { size := rfl
    slots := fun t => (harg t).unren had rfl fun k hk => hdead k (hk0 t k hk)
    blks := fun k => ?_
    inj := fun k k' bi bi' hk hk' hv hv' hb => ?_
    lt := fun k bi hk hv => h.lt _ bi (b0_some hk).2.2 hv
    notX := fun k bi hk hv => fun hx => hx.2 ⟨k, bi, hk, hv, rfl⟩
    own := fun k bi hk hv => .inr ⟨k, bi, hk, hv, rfl⟩
    fixd := fun k _ => rfl
    used1 := hk0
    used2 := fun k b hb => hk1 k b hb
    keep := Kp.refl _ _
    Xlt := fun b hb => h.Avlt b hb.1 }
  · cases hb : s0.blk k with
    | none =>
      have : b0 β U σ s0 k = none := by unfold b0; rw [if_neg (by rw [hb]; simp)]
      rw [this]; trivial
    | some b =>
      rw [hold k (by rw [hb]; rfl)]
      have hs := hu.blk0 k b hb
      obtain ⟨bi, hβ, hbk⟩ := h.live hs
      rw [hβ]
      exact hbk.unren had (fun k' hk' => hdead k' ((hk1 k b hb).2 k' hk')) fun _ => rfl
  · obtain ⟨p1, _, p3⟩ := b0_some hk
    obtain ⟨q1, _, q3⟩ := b0_some hk'
    exact hu.inj k p1 k' q1 (h.inj _ _ bi bi' p3 q3 hv hv' hb)

/-- What is left to the caller. -/
theorem Rl.leaveG (h : Rl Γ s tm w β) (hu : Use Γ s U σ s0 fx s1 s2) {w' : World} {us : Array Value} {r : Nat} {β1 : BM} (h1 : Rl (Ctx.plain Γ.P r w (x0 Γ β U σ s0) (b0 β U σ s0) fx) s1 us w' β1) :
    ∃ β2, Rl Γ s2 tm w' β2 ∧ ∀ t, AR w' (Av Γ.X β2) β2 ((s1.get t).ren σ) (us.getD t undef) ∧ ∀ k ∈ ((s1.get t).ren σ).keys, k ∈ s2.used := by
  have e1 : ∀ k ∈ U, b2 β β1 U σ (σ k) = β1 k := fun k hk => b2_in hu.inj hk
  have e2 : ∀ j, (∀ k ∈ U, σ k ≠ j) → b2 β β1 U σ j = β j := fun j hj => b2_out hj
  have hU1 : ∀ k bi, β1 k = some bi → k ∈ U := fun k bi hk => by
    have hb := h1.blks k
    rw [hk] at hb
    cases hs : s1.blk k with
    | none => rw [hs] at hb; exact hb.elim
    | some b => exact hu.u1 k (h1.used2 k b hs).1
  have split : ∀ j, (∃ k ∈ U, σ k = j) ∨ (∀ k ∈ U, σ k ≠ j) := fun j => by
    by_cases e : ∃ k ∈ U, σ k = j
    · exact .inl e
    · exact .inr fun k hk e' => e ⟨k, hk, e'⟩
  have hsz := h1.keep.size
  -- a block of the caller's that is not handed over
  have hother : ∀ j bj, (∀ k ∈ U, σ k ≠ j) → β j = some bj → bj.virt = false → ¬ Ex (b0 β U σ s0) bj.b := fun j bj hj hb hv => by
    rintro ⟨k, bi, hk, hvk, e⟩
    obtain ⟨p1, _, p3⟩ := b0_some hk
    exact hj k p1 (h.inj _ _ bi bj p3 hb hvk hv e)
  have hA2 : ∀ b, Av Γ.X (b2 β β1 U σ) b → Av (x0 Γ β U σ s0) β1 b := by
    rintro b (hx | ⟨j, bj, hj, hv, rfl⟩)
    · refine .inl ⟨.inl hx, ?_⟩
      rintro ⟨k, bi, hk, hvk, rfl⟩
      exact h.notX _ bi (b0_some hk).2.2 hvk hx
    · rcases split j with ⟨k, hk, rfl⟩ | hj'
      · rw [e1 k hk] at hj
        exact .inr ⟨k, bj, hj, hv, rfl⟩
      · rw [e2 j hj'] at hj
        exact .inl ⟨.inr ⟨j, bj, hj, hv, rfl⟩, hother j bj hj' hj hv⟩
  have hEx : ∀ b, Ex (b0 β U σ s0) b → Av Γ.X β b := by
    rintro b ⟨k, bi, hk, hv, rfl⟩
    exact .inr ⟨σ k, bi, (b0_some hk).2.2, hv, rfl⟩
  have had : Ad w (Av Γ.X β) w' (Av Γ.X (b2 β β1 U σ)) := ⟨hsz, fun b hb hn => ⟨h1.keep.block b hb fun he => hn (hEx b he), fun h' => by
    rcases hA2 b h' with ⟨hx, _⟩ | ⟨k, bi, hk, hv, rfl⟩
    · exact hn hx
    · rcases h1.own k bi hk hv with ho | ho
      · have : w.heap.size ≤ bi.b := ho
        omega
      · exact hn (hEx _ ho)⟩⟩
  have had2 : Ad w' (Av (x0 Γ β U σ s0) β1) w' (Av Γ.X (b2 β β1 U σ)) := ⟨Nat.le_refl _, fun b _ hn => ⟨rfl, fun h' => hn (hA2 b h')⟩⟩
  -- the caller's names: as they were, or dead
  have hkeys : ∀ j ∈ s.used, b2 β β1 U σ j = β j ∨ b2 β β1 U σ j = none := fun j hj => by
    rcases split j with ⟨k, hk, rfl⟩ | hj'
    · rw [e1 k hk]
      cases hb : s0.blk k with
      | none => exact absurd hj (hu.new k hk hb).1
      | some b =>
        rcases hu.old k hk (by rw [hb]; rfl) with hf | ⟨hn, _⟩
        · left
          have hfd := h1.fixd k hf
          have : b0 β U σ s0 k = β (σ k) := by unfold b0; rw [if_pos ⟨hk, by rw [hb]; rfl⟩]
          rw [hfd]; exact this
        · right
          cases hβ : β1 k with
          | none => rfl
          | some bi =>
            have := h1.blks k
            rw [hβ, hn] at this
            exact this.elim
    · exact .inl (e2 j hj')
  have hren : ∀ k ∈ s1.used, b2 β β1 U σ (σ k) = β1 k := fun k hk => e1 k (hu.u1 k hk)
  refine ⟨b2 β β1 U σ, ?_, fun t => ⟨(h1.slots t).ren had2 fun k hk => hren k (h1.used1 t k hk), fun k hk => ?_⟩⟩
  · refine
    { size := h.size
      slots := fun t => by rw [hu.get]; exact (h.slots t).weak had fun k hk => hkeys k (h.used1 t k hk)
      blks := fun j => ?_
      inj := fun j j' bj bj' hj hj' hv hv' hb => ?_
      lt := fun j bj hj hv => ?_
      notX := fun j bj hj hv => ?_
      own := fun j bj hj hv => ?_
      fixd := fun j hj => ?_
      used1 := fun t k hk => by rw [hu.get] at hk; exact hu.used k (h.used1 t k hk)
      used2 := fun j b hj => ?_
      keep := ⟨h1.keep.os.trans h.keep.os, h1.keep.tape.trans h.keep.tape, h1.keep.output.trans h.keep.output, Nat.le_trans h.keep.size hsz, fun b hb hE => (h1.keep.block b (Nat.lt_of_lt_of_le hb h.keep.size) ?_).trans (h.keep.block b hb hE)⟩
      Xlt := fun b hb => Nat.lt_of_lt_of_le (h.Xlt b hb) hsz }
    · rcases split j with ⟨k, hk, rfl⟩ | hj'
      · rw [e1 k hk, hu.blkU k hk]
        have hb := h1.blks k
        cases hs : s1.blk k with
        | none =>
          rw [hs] at hb
          cases hβ : β1 k with
          | none => trivial
          | some bi => rw [hβ] at hb; exact hb.elim
        | some b =>
          rw [hs] at hb
          cases hβ : β1 k with
          | none => rw [hβ] at hb; exact hb.elim
          | some bi =>
            rw [hβ] at hb
            exact BOK.ren had2 hb (fun k' hk' => hren k' ((h1.used2 k b hs).2 k' hk')) fun _ => rfl
      · rw [e2 j hj', hu.blkO j hj']
        have hb := h.blks j
        cases hs : s.blk j with
        | none =>
          rw [hs] at hb
          cases hβ : β j with
          | none => trivial
          | some bi => rw [hβ] at hb; exact hb.elim
        | some b =>
          rw [hs] at hb
          cases hβ : β j with
          | none => rw [hβ] at hb; exact hb.elim
          | some bi =>
            rw [hβ] at hb
            exact BOK.weak had hb (fun k' hk' => hkeys k' ((h.used2 j b hs).2 k' hk')) fun hv => h1.keep.block _ (h.lt j bi hβ hv) (hother j bi hj' hβ hv)
    · -- two blocks are not one
      have cross : ∀ k ∈ U, ∀ j bi bj, (∀ k ∈ U, σ k ≠ j) → β1 k = some bi → β j = some bj → bi.virt = false → bj.virt = false → bi.b ≠ bj.b := fun k hk j bi bj hj' hb hbj hv hvj e => by
        rcases h1.own k bi hb hv with ho | ho
        · have h2 : w.heap.size ≤ bi.b := ho
          have := h.lt j bj hbj hvj
          omega
        · rw [e] at ho
          exact hother j bj hj' hbj hvj ho
      rcases split j with ⟨k, hk, rfl⟩ | hj0
      · rcases split j' with ⟨k', hk', rfl⟩ | hj0'
        · rw [e1 k hk] at hj
          rw [e1 k' hk'] at hj'
          rw [h1.inj k k' bj bj' hj hj' hv hv' hb]
        · rw [e1 k hk] at hj
          rw [e2 j' hj0'] at hj'
          exact absurd hb (cross k hk j' bj bj' hj0' hj hj' hv hv')
      · rcases split j' with ⟨k', hk', rfl⟩ | hj0'
        · rw [e2 j hj0] at hj
          rw [e1 k' hk'] at hj'
          exact absurd hb.symm (cross k' hk' j bj' bj hj0 hj' hj hv' hv)
        · rw [e2 j hj0] at hj
          rw [e2 j' hj0'] at hj'
          exact h.inj j j' bj bj' hj hj' hv hv' hb
    · rcases split j with ⟨k, hk, rfl⟩ | hj0
      · rw [e1 k hk] at hj
        exact h1.lt k bj hj hv
      · rw [e2 j hj0] at hj
        exact Nat.lt_of_lt_of_le (h.lt j bj hj hv) hsz
    · rcases split j with ⟨k, hk, rfl⟩ | hj0
      · rw [e1 k hk] at hj
        intro hx
        refine h1.notX k bj hj hv ⟨.inl hx, ?_⟩
        rintro ⟨k', bi, hk', hvk, e⟩
        have := h.notX _ bi (b0_some hk').2.2 hvk
        rw [e] at this
        exact this hx
      · rw [e2 j hj0] at hj
        exact h.notX j bj hj hv
    · rcases split j with ⟨k, hk, rfl⟩ | hj0
      · rw [e1 k hk] at hj
        rcases h1.own k bj hj hv with ho | ⟨k', bi, hk', hvk, e⟩
        · have h2 : w.heap.size ≤ bj.b := ho
          exact .inl (Nat.le_trans h.keep.size h2)
        · rw [← e]
          exact h.own _ bi (b0_some hk').2.2 hvk
      · rw [e2 j hj0] at hj
        exact h.own j bj hj hv
    · rcases split j with ⟨k, hk, rfl⟩ | hj0
      · cases hb : s0.blk k with
        | none => exact absurd hj (hu.new k hk hb).2
        | some b =>
          rcases hu.old k hk (by rw [hb]; rfl) with hf | ⟨_, hn⟩
          · rw [e1 k hk]
            have hfd := h1.fixd k hf
            have : b0 β U σ s0 k = β (σ k) := by unfold b0; rw [if_pos ⟨hk, by rw [hb]; rfl⟩]
            exact (hfd.trans this).trans (h.fixd _ hj)
          · exact absurd hj hn
      · rw [e2 j hj0]
        exact h.fixd j hj
    · rcases split j with ⟨k, hk, rfl⟩ | hj0
      · rw [hu.blkU k hk] at hj
        simp only [Option.map_eq_some_iff] at hj
        obtain ⟨b', hb', rfl⟩ := hj
        refine ⟨hu.usedU k hk, fun x hx => ?_⟩
        cases b' with
        | row sz rows => simp [Blk.ren, Blk.keys] at hx
        | box cs =>
          simp only [Blk.ren, Blk.keys] at hx
          obtain ⟨y, hy, rfl⟩ := (AV.keysL_ren σ cs x).1 hx
          exact hu.usedU y (hu.u1 y ((h1.used2 k _ hb').2 y hy))
      · rw [hu.blkO j hj0] at hj
        exact ⟨hu.used j (h.used2 j b hj).1, fun x hx => hu.used x ((h.used2 j b hj).2 x hx)⟩
    · rintro ⟨k, bi, hk, hv, rfl⟩
      rcases h.own _ bi (b0_some hk).2.2 hv with ho | ho
      · omega
      · exact hE ho
  · obtain ⟨y, hy, rfl⟩ := (AV.keys_ren σ _ k).1 hk
    exact hu.usedU y (hu.u1 y (h1.used1 t y hy))
end

/-! ### By computation -/

def ArgOK (x y : AV) : Prop := x = y ∨ ∃ p q, toPV (fun _ => none) x = some p ∧ y = .pure q ∧ ∀ w A v, PR w A p v → PR w A q v
def ArgsOK : List AV → List AV → Prop
  | [], [] => True
  | x :: l, y :: m => ArgOK x y ∧ ArgsOK l m
  | _, _ => False
def sig (M : List (Nat × Nat)) (k : Nat) : Nat := (lk M k).getD 0
def blkEqs (s : St) (σ : Nat → Nat) (s0 : St) : List (Nat × Nat) → Prop
  | [] => True
  | (k, ck) :: l => match s0.blk k with
    | some b => s.blk ck = some (b.ren σ) ∧ blkEqs s σ s0 l
    | none => blkEqs s σ s0 l
def gAct (σ : Nat → Nat) (s0 s1 : St) (k ck : Nat) : BAct := match s1.blk k with
  | some b => match s0.blk k with
    | some _ => .set ck (b.ren σ)
    | none => .new ck (b.ren σ)
  | none => .kill ck
def gActs (σ : Nat → Nat) (s0 s1 : St) : List (Nat × Nat) → List BAct
  | [] => []
  | (k, ck) :: l => gAct σ s0 s1 k ck :: gActs σ s0 s1 l
def nodupB : List Nat → Bool
  | [] => true
  | k :: l => bif freshIn k l then nodupB l else false
def inB : List Nat → List Nat → Bool
  | [], _ => true
  | k :: l, m => bif freshIn k m then false else inB l m
/-- a name of the contract and the caller's for it -/
def pairB (used fx gfx : List Nat) (s0 s1 : St) (k ck : Nat) : Bool := match s0.blk k with
  | none => bif freshIn ck used then (bif freshIn ck fx then (s1.blk k).isSome else false) else false
  | some _ => match s1.blk k with
    | none => bif freshIn k gfx then freshIn ck fx else true
    | some _ => bif freshIn k gfx then false else true
def pairsB (used fx gfx : List Nat) (s0 s1 : St) : List (Nat × Nat) → Bool
  | [] => true
  | (k, ck) :: l => bif pairB used fx gfx s0 s1 k ck then pairsB used fx gfx s0 s1 l else false
def keysEnv : List (Nat × AV) → List Nat
  | [] => []
  | (_, v) :: l => v.keys ++ keysEnv l
def keysBlk : List (Nat × Option Blk) → List Nat
  | [] => []
  | (k, some b) :: l => k :: b.keys ++ keysBlk l
  | (_, none) :: l => keysBlk l
def fxB (s0 : St) : List Nat → Bool
  | [] => true
  | k :: l => bif (s0.blk k).isSome then fxB s0 l else false
def useB (s : St) (fx : List Nat) (M : List (Nat × Nat)) (s0 : St) (gfx : List Nat) (s1 : St) : Bool :=
  nodupB (M.map (·.1)) && nodupB (M.map (·.2)) && inB s0.used (M.map (·.1)) && inB s1.used (M.map (·.1)) && inB (keysEnv s0.env) s0.used && inB (keysBlk s0.blks) s0.used && fxB s0 gfx && pairsB s.used fx gfx s0 s1 M

theorem freshIn_no {d : Nat} : ∀ {l : List Nat}, freshIn d l = false → d ∈ l
  | [], h => by cases h
  | k :: l, h => by
    simp only [freshIn, beq_eq_decide] at h
    by_cases e : d = k
    · subst e; exact List.mem_cons_self
    · simp only [e, decide_false, cond_false] at h
      exact List.mem_cons_of_mem _ (freshIn_no h)
theorem inB_spec : ∀ {l m : List Nat}, inB l m = true → ∀ k ∈ l, k ∈ m
  | [], _, _, k, hk => by cases hk
  | a :: l, m, h, k, hk => by
    simp only [inB] at h
    cases ha : freshIn a m with
    | true => rw [ha] at h; cases h
    | false =>
      rw [ha] at h
      rcases List.mem_cons.1 hk with rfl | hk
      · exact freshIn_no ha
      · exact inB_spec (by simpa using h) k hk
theorem nodupB_spec : ∀ {l : List Nat}, nodupB l = true → l.Nodup
  | [], _ => .nil
  | a :: l, h => by
    simp only [nodupB] at h
    cases ha : freshIn a l with
    | false => rw [ha] at h; cases h
    | true =>
      rw [ha] at h
      exact List.nodup_cons.2 ⟨freshIn_spec ha, nodupB_spec (by simpa using h)⟩
theorem pairsB_spec {used fx gfx : List Nat} {s0 s1 : St} : ∀ {l : List (Nat × Nat)}, pairsB used fx gfx s0 s1 l = true → ∀ p ∈ l, pairB used fx gfx s0 s1 p.1 p.2 = true
  | [], _, p, hp => by cases hp
  | (k, ck) :: l, h, p, hp => by
    simp only [pairsB] at h
    cases ha : pairB used fx gfx s0 s1 k ck with
    | false => rw [ha] at h; cases h
    | true =>
      rw [ha] at h
      rcases List.mem_cons.1 hp with rfl | hp
      · exact ha
      · exact pairsB_spec (by simpa using h) p hp
theorem fxB_spec {s0 : St} : ∀ {l : List Nat}, fxB s0 l = true → ∀ k ∈ l, (s0.blk k).isSome = true
  | [], _, k, hk => by cases hk
  | a :: l, h, k, hk => by
    simp only [fxB] at h
    cases ha : (s0.blk a).isSome with
    | false => rw [ha] at h; cases h
    | true =>
      rw [ha] at h
      rcases List.mem_cons.1 hk with rfl | hk
      · exact ha
      · exact fxB_spec (by simpa using h) k hk
theorem lk_mem {α : Type} : ∀ {l : List (Nat × α)} {k : Nat} {v : α}, lk l k = some v → (k, v) ∈ l
  | [], k, v, h => by cases h
  | (d, x) :: l, k, v, h => by
    rw [lk_cons] at h
    split at h
    · rename_i e; subst e; cases h; exact List.mem_cons_self
    · exact List.mem_cons_of_mem _ (lk_mem h)
theorem lk_of_nodup {α : Type} : ∀ {l : List (Nat × α)} {k : Nat} {v : α}, (l.map (·.1)).Nodup → (k, v) ∈ l → lk l k = some v
  | [], k, v, _, h => by cases h
  | (d, x) :: l, k, v, hn, h => by
    rw [lk_cons]
    simp only [List.map_cons, List.nodup_cons] at hn
    rcases List.mem_cons.1 h with e | h
    · cases e; rw [if_pos rfl]
    · have : d ≠ k := fun e => hn.1 (e ▸ List.mem_map.2 ⟨(k, v), h, rfl⟩)
      rw [if_neg this]
      exact lk_of_nodup hn.2 h
theorem keysEnv_mem {l : List (Nat × AV)} {t : Nat} {v : AV} (h : (t, v) ∈ l) {k : Nat} (hk : k ∈ v.keys) : k ∈ keysEnv l := by
  induction l with
  | nil => cases h
  | cons p l ih =>
    obtain ⟨d, x⟩ := p
    simp only [keysEnv, List.mem_append]
    rcases List.mem_cons.1 h with e | h
    · cases e; exact .inl hk
    · exact .inr (ih h)
theorem keysBlk_mem {l : List (Nat × Option Blk)} {t : Nat} {b : Blk} (h : (t, some b) ∈ l) : t ∈ keysBlk l ∧ ∀ k ∈ b.keys, k ∈ keysBlk l := by
  induction l with
  | nil => cases h
  | cons p l ih =>
    obtain ⟨d, x⟩ := p
    rcases List.mem_cons.1 h with e | h
    · cases e
      exact ⟨List.mem_cons_self, fun k hk => List.mem_cons_of_mem _ (List.mem_append_left _ hk)⟩
    · obtain ⟨h1, h2⟩ := ih h
      cases x with
      | none => exact ⟨h1, h2⟩
      | some x =>
        simp only [keysBlk, List.cons_append, List.mem_cons, List.mem_append]
        exact ⟨.inr (.inr h1), fun k hk => .inr (.inr (h2 k hk))⟩

theorem gAct_spec (σ : Nat → Nat) (s0 s1 : St) (k ck : Nat) (s : St) : (∀ t, (s.act (gAct σ s0 s1 k ck)).get t = s.get t) ∧ (∀ j, (s.act (gAct σ s0 s1 k ck)).blk j = if ck = j then (s1.blk k).map (Blk.ren σ) else s.blk j) ∧
    (∀ j ∈ s.used, j ∈ (s.act (gAct σ s0 s1 k ck)).used) ∧ (s0.blk k = none → (s1.blk k).isSome = true → ck ∈ (s.act (gAct σ s0 s1 k ck)).used) := by
  unfold gAct
  cases h1 : s1.blk k with
  | none => exact ⟨fun _ => rfl, fun j => by rw [Option.map_none]; exact St.blk_kill s ck j, fun j hj => hj, fun _ h => by cases h⟩
  | some b =>
    cases h0 : s0.blk k with
    | none => exact ⟨fun _ => rfl, fun j => by rw [Option.map_some]; exact St.blk_new s ck _ j, fun j hj => List.mem_cons_of_mem _ hj, fun _ _ => List.mem_cons_self⟩
    | some b' => exact ⟨fun _ => rfl, fun j => by rw [Option.map_some]; exact St.blk_set s ck _ j, fun j hj => hj, fun h => by cases h⟩
theorem gActs_spec (σ : Nat → Nat) (s0 s1 : St) : ∀ {M : List (Nat × Nat)} (s : St), (M.map (·.2)).Nodup → (∀ t, (s.acts (gActs σ s0 s1 M)).get t = s.get t) ∧ (∀ p ∈ M, (s.acts (gActs σ s0 s1 M)).blk p.2 = (s1.blk p.1).map (Blk.ren σ)) ∧
    (∀ j, (∀ p ∈ M, p.2 ≠ j) → (s.acts (gActs σ s0 s1 M)).blk j = s.blk j) ∧ (∀ j ∈ s.used, j ∈ (s.acts (gActs σ s0 s1 M)).used) ∧ (∀ p ∈ M, s0.blk p.1 = none → (s1.blk p.1).isSome = true → p.2 ∈ (s.acts (gActs σ s0 s1 M)).used)
  | [], s, _ => ⟨fun _ => rfl, fun p hp => (by cases hp), fun _ _ => rfl, fun j hj => hj, fun p hp => (by cases hp)⟩
  | (k, ck) :: l, s, hn => by
    simp only [List.map_cons, List.nodup_cons] at hn
    obtain ⟨a1, a2, a3, a4⟩ := gAct_spec σ s0 s1 k ck s
    obtain ⟨b1, b2, b3, b4, b5⟩ := gActs_spec σ s0 s1 (M := l) (s.act (gAct σ s0 s1 k ck)) hn.2
    have e : s.acts (gActs σ s0 s1 ((k, ck) :: l)) = (s.act (gAct σ s0 s1 k ck)).acts (gActs σ s0 s1 l) := rfl
    rw [e]
    refine ⟨fun t => (b1 t).trans (a1 t), fun p hp => ?_, fun j hj => ?_, fun j hj => b4 j (a3 j hj), fun p hp h0 h1 => ?_⟩
    · rcases List.mem_cons.1 hp with rfl | hp
      · rw [b3 ck fun p hp e => hn.1 (e ▸ List.mem_map.2 ⟨p, hp, rfl⟩), a2, if_pos rfl]
      · exact b2 p hp
    · rw [b3 j fun p hp => hj p (List.mem_cons_of_mem _ hp), a2, if_neg (hj (k, ck) List.mem_cons_self)]
    · rcases List.mem_cons.1 hp with rfl | hp
      · exact b4 _ (a4 h0 h1)
      · exact b5 p hp h0 h1

theorem blkEqs_spec {s : St} {σ : Nat → Nat} {s0 : St} : ∀ {M : List (Nat × Nat)}, blkEqs s σ s0 M → ∀ p ∈ M, ∀ b, s0.blk p.1 = some b → s.blk p.2 = some (b.ren σ)
  | [], _, p, hp, b, hb => by cases hp
  | (k, ck) :: l, h, p, hp, b, hb => by
    simp only [blkEqs] at h
    cases hk : s0.blk k with
    | none =>
      rw [hk] at h
      rcases List.mem_cons.1 hp with rfl | hp
      · rw [hk] at hb; cases hb
      · exact blkEqs_spec h p hp b hb
    | some b' =>
      rw [hk] at h
      rcases List.mem_cons.1 hp with rfl | hp
      · rw [hk] at hb; cases hb; exact h.1
      · exact blkEqs_spec h.2 p hp b hb

theorem Use.of {Γ : Ctx} {s : St} {tm : Array Value} {w : World} {β : BM} (h : Rl Γ s tm w β) {M : List (Nat × Nat)} {s0 s1 : St} {gfx : List Nat} (hb : useB s Γ.fx M s0 gfx s1 = true) (he : blkEqs s (sig M) s0 M) :
    Use Γ s (M.map (·.1)) (sig M) s0 gfx s1 (s.acts (gActs (sig M) s0 s1 M)) ∧ (∀ t, ∀ k ∈ (s0.get t).keys, k ∈ s0.used) ∧ (∀ k b, s0.blk k = some b → k ∈ s0.used ∧ ∀ k' ∈ b.keys, k' ∈ s0.used) := by
  unfold useB at hb
  simp only [Bool.and_eq_true] at hb
  obtain ⟨⟨⟨⟨⟨⟨⟨n1, n2⟩, u0⟩, u1⟩, ke⟩, kb⟩, hfx⟩, hp⟩ := hb
  have n1 := nodupB_spec n1
  have n2 := nodupB_spec n2
  have hs : ∀ p ∈ M, sig M p.1 = p.2 := fun p hp => by unfold sig; rw [lk_of_nodup n1 hp]; rfl
  have hm : ∀ k ∈ M.map (·.1), ∃ p ∈ M, p.1 = k := fun k hk => by simpa using List.mem_map.1 hk
  obtain ⟨g1, g2, g3, g4, g5⟩ := gActs_spec (sig M) s0 s1 (M := M) s n2
  have hblkw : ∀ k b, s0.blk k = some b → k ∈ s0.used ∧ ∀ k' ∈ b.keys, k' ∈ s0.used := fun k b hk => by
    unfold St.blk at hk
    cases hl : lk s0.blks k with
    | none => rw [hl] at hk; cases hk
    | some x =>
      rw [hl] at hk
      simp only [Option.join_some] at hk
      subst hk
      obtain ⟨q1, q2⟩ := keysBlk_mem (lk_mem hl)
      exact ⟨inB_spec kb k q1, fun k' hk' => inB_spec kb k' (q2 k' hk')⟩
  have hpr := pairsB_spec hp
  refine ⟨?_, fun t k hk => ?_, hblkw⟩
  · refine
    { inj := fun j hj k hk e => ?_
      u0 := inB_spec u0
      u1 := inB_spec u1
      blk0 := fun k b hk => ?_
      new := fun k hk hn => ?_
      old := fun k hk hn => ?_
      fx0 := fun k hk => ?_
      get := g1
      blkU := fun k hk => ?_
      blkO := fun j hj => g3 j fun p hp e => hj p.1 (List.mem_map.2 ⟨p, hp, rfl⟩) ((hs p hp).trans e)
      used := g4
      usedU := fun k hk => ?_ }
    · obtain ⟨p, hp, rfl⟩ := hm j hj
      obtain ⟨q, hq, rfl⟩ := hm k hk
      rw [hs p hp, hs q hq] at e
      have inj2 : ∀ {l : List (Nat × Nat)}, (l.map (·.2)).Nodup → ∀ p ∈ l, ∀ q ∈ l, p.2 = q.2 → p = q := by
        intro l
        induction l with
        | nil => intro _ p hp; cases hp
        | cons x l ih =>
          intro hn p hp q hq e
          simp only [List.map_cons, List.nodup_cons] at hn
          rcases List.mem_cons.1 hp with e1 | hp1
          · rcases List.mem_cons.1 hq with e2 | hq1
            · rw [e1, e2]
            · exact absurd (List.mem_map.2 ⟨q, hq1, by rw [← e, e1]⟩) hn.1
          · rcases List.mem_cons.1 hq with e2 | hq1
            · exact absurd (List.mem_map.2 ⟨p, hp1, by rw [e, e2]⟩) hn.1
            · exact ih hn.2 p hp1 q hq1 e
      rw [inj2 n2 p hp q hq e]
    · obtain ⟨p, hp, rfl⟩ := hm k (inB_spec u0 k (hblkw k b hk).1)
      rw [hs p hp]
      exact blkEqs_spec he p hp b hk
    · obtain ⟨p, hp, rfl⟩ := hm k hk
      rw [hs p hp]
      have := hpr p hp
      unfold pairB at this
      rw [hn] at this
      simp only at this
      cases h1 : freshIn p.2 s.used with
      | false => rw [h1] at this; cases this
      | true =>
        rw [h1] at this
        cases h2 : freshIn p.2 Γ.fx with
        | false => rw [h2] at this; cases this
        | true => exact ⟨freshIn_spec h1, freshIn_spec h2⟩
    · obtain ⟨p, hp, rfl⟩ := hm k hk
      rw [hs p hp]
      have := hpr p hp
      unfold pairB at this
      obtain ⟨b, hb⟩ := Option.isSome_iff_exists.1 hn
      rw [hb] at this
      simp only at this
      cases h1 : s1.blk p.1 with
      | none =>
        rw [h1] at this
        simp only at this
        cases h2 : freshIn p.1 gfx with
        | false => exact .inl (freshIn_no h2)
        | true => rw [h2] at this; exact .inr ⟨rfl, freshIn_spec (by simpa using this)⟩
      | some b1 =>
        rw [h1] at this
        simp only at this
        cases h2 : freshIn p.1 gfx with
        | false => exact .inl (freshIn_no h2)
        | true => rw [h2] at this; cases this
    · have h1 := fxB_spec hfx k hk
      obtain ⟨b, hb⟩ := Option.isSome_iff_exists.1 h1
      exact ⟨inB_spec u0 k (hblkw k b hb).1, h1⟩
    · obtain ⟨p, hp, rfl⟩ := hm k hk
      rw [hs p hp]
      exact g2 p hp
    · obtain ⟨p, hp, rfl⟩ := hm k hk
      rw [hs p hp]
      cases hb : s0.blk p.1 with
      | some b => exact g4 _ (h.used2 _ _ (blkEqs_spec he p hp b hb)).1
      | none =>
        refine g5 p hp hb ?_
        have := hpr p hp
        unfold pairB at this
        rw [hb] at this
        simp only at this
        cases h1 : freshIn p.2 s.used with
        | false => rw [h1] at this; cases this
        | true =>
          rw [h1] at this
          cases h2 : freshIn p.2 Γ.fx with
          | false => rw [h2] at this; cases this
          | true => rw [h2] at this; simpa using this
  · unfold St.get at hk
    cases hl : lk s0.env t with
    | none => rw [hl] at hk; simp [AV.keys] at hk
    | some v =>
      rw [hl] at hk
      exact inB_spec ke k (keysEnv_mem (lk_mem hl) hk)

theorem ArgOK.ar {w : World} {A : Nat → Prop} {β : BM} {x y : AV} {v : Value} (h : ArgOK x y) (hp : AR w A β x v) : AR w A β y v := by
  rcases h with rfl | ⟨p, q, h1, rfl, h2⟩
  · exact hp
  · exact .pure _ _ (h2 _ _ _ (hp.toPV0 h1))
theorem ArgsOK.get : ∀ {l m : List AV}, ArgsOK l m → l.length = m.length ∧ ∀ (j : Nat) (y : AV), m[j]? = some y → ∃ x, l[j]? = some x ∧ ArgOK x y
  | [], [], _ => ⟨rfl, fun j y h => by simp at h⟩
  | x :: l, y :: m, h => by
    obtain ⟨h1, h2⟩ := h
    obtain ⟨h3, h4⟩ := ArgsOK.get h2
    refine ⟨by simp [h3], fun j z hj => ?_⟩
    cases j with
    | zero => simp at hj; subst hj; exact ⟨x, by simp, h1⟩
    | succ j => simpa using h4 j z (by simpa using hj)
  | [], _ :: _, h => h.elim
  | _ :: _, [], h => h.elim

def getsOf (s : St) : Nat → Nat → List AV
  | _, 0 => []
  | i, n + 1 => s.get i :: getsOf s (i + 1) n
def resG (r : Nat) (σ : Nat → Nat) (s1 : St) : AV := match r with
  | 1 => (s1.get 0).ren σ
  | r => .tup (AV.renL σ (getsOf s1 0 r))
theorem getsOf_get : ∀ {s : St} {n i j : Nat} {v : AV}, (getsOf s i n)[j]? = some v → v = s.get (i + j) ∧ j < n
  | s, 0, i, j, v, h => by simp [getsOf] at h
  | s, n + 1, i, j, v, h => by
    cases j with
    | zero => simp [getsOf] at h; exact ⟨h.symm, by omega⟩
    | succ j =>
      have := getsOf_get (n := n) (i := i + 1) (j := j) (v := v) (by simpa [getsOf] using h)
      exact ⟨by rw [this.1]; congr 1; omega, by omega⟩
theorem getsOf_length : ∀ {s : St} {n i : Nat}, (getsOf s i n).length = n
  | s, 0, i => rfl
  | s, n + 1, i => by simp [getsOf, getsOf_length (n := n)]

/-- A call by a contract with blocks. -/
def callG (P : Program) (f : FuncId) (args : List AV) (s : St) (fx : List Nat) (K : Kont) : Prop :=
  ∃ (M : List (Nat × Nat)) (args0 : List AV) (B0 : List (Nat × Option Blk)) (U0 gfx : List Nat) (r : Nat) (s1 : St), GSpec P f args0.length ⟨numE 0 args0, B0, U0⟩ gfx r s1 ∧ ArgsOK args (AV.renL (sig M) args0) ∧
    blkEqs s (sig M) ⟨numE 0 args0, B0, U0⟩ M ∧ match useB s fx M ⟨numE 0 args0, B0, U0⟩ gfx s1 with
      | true => K (resG r (sig M) s1) (gActs (sig M) ⟨numE 0 args0, B0, U0⟩ s1 M)
      | false => False

theorem callG_calls {Γ : Ctx} {s : St} {tm : Array Value} {w : World} {β : BM} (h : Rl Γ s tm w β) {f : FuncId} {args : List AV} {vs : Array Value} (hvs : vs.size = args.length) (harg : ∀ (j : Nat) (x : AV), args[j]? = some x → AR w (Av Γ.X β) β x (vs.getD j undef))
    {K : Kont} (hK : callG Γ.P f args s Γ.fx K) : (∀ (vs : Array Value) (w : World), (callFunc f vs).run Γ.P w = .ok (.enter f vs) w) ∧
      Calls Γ.P f vs w fun e w' => ∃ u v acts β', e = .returned u ∧ K v acts ∧ Rl Γ (s.acts acts) tm w' β' ∧ AR w' (Av Γ.X β') β' v u ∧ ∀ k ∈ v.keys, k ∈ (s.acts acts).used := by
  obtain ⟨M, args0, B0, U0, gfx, r, s1, ⟨hc, hspec⟩, hA, he, hK⟩ := hK
  split at hK
  case h_2 => exact hK.elim
  rename_i hb
  obtain ⟨hu, k0, k1⟩ := Use.of h hb he
  obtain ⟨al, ag⟩ := hA.get
  rw [AV.renL_eq] at al ag
  have hl0 : args0.length = vs.size := by simp at al; omega
  refine ⟨hc, ?_⟩
  have hget : ∀ t, St.get ⟨numE 0 args0, B0, U0⟩ t = (args0[t]?).getD .junk := fun t => by simp [St.get, numE_get]
  have hent := h.enterG hu (vs := vs) (fun t => by
    rw [hget]
    cases ha : args0[t]? with
    | none => exact .junk _
    | some y =>
      obtain ⟨x, hx, hok⟩ := ag t (y.ren (sig M)) (by simp [ha])
      exact hok.ar (harg t x hx)) k0 k1
  rw [hl0] at hspec
  refine (hspec w _ _ vs hent).mono ?_
  rintro e w' ⟨us, β1, rfl, h1⟩
  obtain ⟨β2, q1, q2⟩ := h.leaveG hu h1
  have hus : us.size = r := h1.size
  refine ⟨_, _, _, β2, rfl, hK, q1, ?_, ?_⟩
  · unfold resG
    split
    · rw [if_pos hus]; exact (q2 0).1
    · rename_i hr
      rw [if_neg (fun e => hr (hus.symm.trans e))]
      refine .tup _ us (by rw [AV.renL_eq, List.length_map, getsOf_length]; exact hus) fun j p hj => ?_
      rw [AV.renL_eq, List.getElem?_map, Option.map_eq_some_iff] at hj
      obtain ⟨y, hy, rfl⟩ := hj
      obtain ⟨rfl, _⟩ := getsOf_get hy
      rw [Nat.zero_add]
      exact (q2 j).1
  · unfold resG
    split
    · exact (q2 0).2
    · intro k hk
      simp only [AV.keys] at hk
      obtain ⟨a, ha, hka⟩ := AV.mem_keysL.1 hk
      rw [AV.renL_eq] at ha
      obtain ⟨y, hy, rfl⟩ := List.mem_map.1 ha
      obtain ⟨j, hj, rfl⟩ := List.getElem_of_mem hy
      obtain ⟨e, _⟩ := getsOf_get (List.getElem?_eq_getElem hj)
      rw [e] at hka
      exact (q2 _).2 k hka
end Go.Avc
