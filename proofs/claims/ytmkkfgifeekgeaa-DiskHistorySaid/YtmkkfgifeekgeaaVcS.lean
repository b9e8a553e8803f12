/- What an operation yields is one value and one way of turning the blocks, and it looks at its operands alone. Conditions: none. -/
import Derived.Test.YtmkkfgifeekgeaaVcR
namespace Go.Avc
open Go.RowKit

/-- What f asks for of its continuation is asked at one value, and g holds there. -/
def Det (f g : Kont → Prop) : Prop := ∀ K : Kont, f K → ∃ v acts, K v acts ∧ g (fun v' a' => v' = v ∧ a' = acts)

section
variable {P : Program} {t : TypeId} {blk blk' : Nat → Option Blk}

theorem getCells_det {cells : List AV} {j : Nat} : Det (getCells P t cells j) (getCells P t cells j) := by
  intro K h
  unfold getCells at h ⊢
  simp only [forceC_eq] at h ⊢
  repeat' split at h
  all_goals first | exact h.elim | exact ⟨_, _, h, rfl, rfl⟩ | (simp only [*]; exact ⟨_, _, h, rfl, rfl⟩)

theorem allOne_frame : ∀ {l : List AV}, (∀ k ∈ AV.keysL l, blk' k = blk k) → allOne blk' l = allOne blk l
  | [], _ => rfl
  | a :: l, h => by
    have h1 : a.one blk' = a.one blk := by
      cases a with
      | loc k i j => simp only [AV.one]; rw [h k (by simp [AV.keysL, AV.keys])]
      | lsl k i n => simp only [AV.one]; rw [h k (by simp [AV.keysL, AV.keys])]
      | _ => rfl
    simp only [allOne, h1]
    rw [allOne_frame fun k hk => h k (by simp only [AV.keysL, List.mem_append]; exact .inr hk)]

mutual
theorem toPV_frame : ∀ {x : AV}, (∀ k ∈ x.keys, blk' k = blk k) → toPV blk' x = toPV blk x
  | .junk, _ => rfl
  | .pure _, _ => rfl
  | .gh _ _, _ => rfl
  | .loc k i j, h => by cases i <;> simp only [toPV]; rw [h k (by simp [AV.keys])]
  | .lsl k i n, h => by simp only [toPV]; rw [h k (by simp [AV.keys])]
  | .fn f cs, h => by simp only [toPV]; rw [toPVL_frame (l := cs) fun k hk => h k (by simpa [AV.keys] using hk)]
  | .agg cs, h => by simp only [toPV]; rw [toPVL_frame (l := cs) fun k hk => h k (by simpa [AV.keys] using hk)]
  | .tup cs, h => by simp only [toPV]; rw [toPVL_frame (l := cs) fun k hk => h k (by simpa [AV.keys] using hk)]
theorem toPVL_frame : ∀ {l : List AV}, (∀ k ∈ AV.keysL l, blk' k = blk k) → toPVL blk' l = toPVL blk l
  | [], _ => rfl
  | a :: l, h => by
    simp only [toPVL]
    rw [toPV_frame (x := a) fun k hk => h k (by simp only [AV.keysL, List.mem_append]; exact .inl hk), toPVL_frame (l := l) fun k hk => h k (by simp only [AV.keysL, List.mem_append]; exact .inr hk)]
end

theorem srcRows_frame {x : AV} {sz : Nat} (h : ∀ k ∈ x.keys, blk' k = blk k) : srcRows x blk' sz = srcRows x blk sz := by
  unfold srcRows
  split
  · rfl
  · rename_i k i n
    rw [h k (by simp [AV.keys])]
  all_goals rfl

theorem opLoad_det {x : AV} (hb : ∀ k ∈ x.keys, blk' k = blk k) : Det (opLoad P t x blk) (opLoad P t x blk') := by
  intro K h
  unfold opLoad at h ⊢
  split at h
  · rename_i k i j
    rw [hb k (by simp [AV.keys])]
    split at h
    · rename_i hk
      try simp only
      split at h
      · exact getCells_det K h
      · exact h.elim
    · rename_i hk
      try simp only
      split at h
      · rename_i ha
        try simp only
        rcases h with ⟨row, h1, h2, h3, h4⟩ | ⟨h1, h2, h3, h4⟩
        · exact ⟨_, _, h4, .inl ⟨row, h1, h2, h3, rfl, rfl⟩⟩
        · exact ⟨_, _, h4, .inr ⟨h1, h2, h3, rfl, rfl⟩⟩
      · rename_i ha
        try simp only
        obtain ⟨row, p, h1, h2, h3⟩ := h
        exact ⟨_, _, h3, row, p, h1, h2, rfl, rfl⟩
      · exact h.elim
    · exact h.elim
  · exact getCells_det K h
  · exact h.elim

theorem opBox_det {x : AV} {d : Nat} (hb : ∀ k ∈ x.keys, blk' k = blk k) : Det (opBox P t x d blk) (opBox P t x d blk') := by
  intro K h
  unfold opBox at h ⊢
  simp only [forceC_eq] at h ⊢
  rw [allOne_frame (blk := blk) fun k hk => hb k (by rwa [cellsOf_keys] at hk)]
  repeat' split at h
  all_goals first | exact h.elim | exact ⟨_, _, h, rfl, rfl⟩ | (simp only [*]; exact ⟨_, _, h, rfl, rfl⟩)

theorem opAlloc_det {d : Nat} : Det (opAlloc P t d) (opAlloc P t d) := by
  intro K h
  unfold opAlloc at h ⊢
  simp only [forceC_eq] at h ⊢
  repeat' split at h
  all_goals first | exact h.elim | exact ⟨_, _, h, rfl, rfl⟩ | (simp only [*]; exact ⟨_, _, h, rfl, rfl⟩)

theorem opStore_det {md : Bool} {x v : AV} {fx : List Nat} (hb : ∀ k ∈ x.keys, blk' k = blk k) (hv : ∀ k ∈ v.keys, blk' k = blk k) : Det (opStore md P t x v blk fx) (opStore md P t x v blk' fx) := by
  intro K h
  unfold opStore at h ⊢
  simp only [forceC_eq] at h ⊢
  rw [allOne_frame (blk := blk) fun k hk => hv k (by rwa [cellsOf_keys] at hk), toPVL_frame (blk := blk) fun k hk => hv k (by rwa [cellsOf_keys] at hk)]
  split at h
  · rename_i k i j
    rw [hb k (by simp [AV.keys])]
    split at h
    · exact h.elim
    · rename_i h1
      try simp only
      obtain ⟨h2, h⟩ := h
      split at h
      · rename_i hk
        try simp only
        split at h
        · split at h
          · rename_i hs
            try simp only
            exact ⟨_, _, h, h2, rfl, rfl⟩
          · exact h.elim
        · exact h.elim
      · rename_i hk
        try simp only
        split at h
        · rename_i hs
          try simp only
          rcases h with ⟨a1, a2, a3, a4, a5, a6⟩ | ⟨a1, a2, a3, a4, a5, a6, a7⟩
          · exact ⟨_, _, a6, h2, .inl ⟨a1, a2, a3, a4, a5, rfl, rfl⟩⟩
          · exact ⟨_, _, a7, h2, .inr ⟨a1, a2, a3, a4, a5, a6, rfl, rfl⟩⟩
        · exact h.elim
      · exact h.elim
  · exact h.elim

theorem opFieldAddr_det {x : AV} {f : Nat} (hb : ∀ k ∈ x.keys, blk' k = blk k) : Det (opFieldAddr P t x f blk) (opFieldAddr P t x f blk') := by
  intro K h
  unfold opFieldAddr at h ⊢
  split at h
  · exact h.elim
  rename_i fd hfd
  try simp only
  split at h
  · rename_i hs
    try simp only
    split at h
    · rename_i k i j
      rw [hb k (by simp [AV.keys])]
      split at h
      · rename_i hk
        try simp only
        exact ⟨_, _, h, rfl, rfl⟩
      · exact h.elim
    · exact ⟨_, _, h, rfl, rfl⟩
    · exact h.elim
  · exact h.elim

theorem opIndexAddr_det {x ix : AV} (hb : ∀ k ∈ x.keys, blk' k = blk k) : Det (opIndexAddr P t x ix blk) (opIndexAddr P t x ix blk') := by
  intro K h
  unfold opIndexAddr at h ⊢
  split at h
  · split at h
    · rename_i ht
      try simp only
      split at h
      · exact h.elim
      rename_i z hz
      try simp only
      split at h
      · rename_i k i m
        rw [hb k (by simp [AV.keys])]
        split at h
        · rename_i hk
          try simp only
          split at h
          · rename_i hs
            try simp only
            exact ⟨_, _, h.2.2, h.1, h.2.1, rfl, rfl⟩
          · exact h.elim
        · exact h.elim
      · split at h
        · rename_i hs
          try simp only
          obtain ⟨h0, row, h1, h2⟩ := h
          exact ⟨_, _, h2, h0, row, h1, rfl, rfl⟩
        · exact h.elim
      · exact h.elim
    · rename_i ht
      try simp only
      split at h
      · exact h.elim
      rename_i z hz
      try simp only
      split at h
      · rename_i k i j
        rw [hb k (by simp [AV.keys])]
        split at h
        · rename_i hk
          try simp only
          obtain ⟨a1, a2, a3, a4, a5, a6⟩ := h
          exact ⟨_, _, a6, a1, a2, a3, a4, a5, rfl, rfl⟩
        · rename_i hk
          try simp only
          exact ⟨_, _, h.2.2, h.1, h.2.1, rfl, rfl⟩
        · exact h.elim
      · exact ⟨_, _, h.2.2, h.1, h.2.1, rfl, rfl⟩
      · exact h.elim
    · exact h.elim
  · exact h.elim

theorem opField_det {x : AV} {f : Nat} : Det (opField P t x f) (opField P t x f) := by
  intro K h
  unfold opField at h ⊢
  split at h
  · exact h.elim
  rename_i fd hfd
  try simp only
  split at h
  · exact getCells_det K h
  · exact getCells_det K h
  · exact h.elim

theorem opIndex_det {x ix : AV} : Det (opIndex P t x ix) (opIndex P t x ix) := by
  intro K h
  unfold opIndex at h ⊢
  split at h
  · split at h
    · rename_i ht
      try simp only
      split at h
      · rename_i ha
        try simp only
        obtain ⟨a1, a2, a3, v, a4, a5, a6⟩ := h
        exact ⟨_, _, a6, a1, a2, a3, v, a4, a5, rfl, rfl⟩
      · exact h.elim
    · rename_i ht
      try simp only
      split at h
      · obtain ⟨a1, c, a2, a3⟩ := h
        exact ⟨_, _, a3, a1, c, a2, rfl, rfl⟩
      · exact h.elim
    · exact h.elim
  · exact h.elim

theorem intBin_det {op : BinOp} {k k' : IntKind} {a b : Int} {K : Value → Prop} (h : intBin op k k' a b K) : ∃ v, K v ∧ intBin op k k' a b (fun u => u = v) := by
  unfold intBin at h ⊢
  split at h
  · obtain ⟨h0, r, h1, h2⟩ := h
    exact ⟨_, h2, h0, r, h1, rfl⟩
  · obtain ⟨h0, r, h1, h2⟩ := h
    exact ⟨_, h2, h0, r, h1, rfl⟩
  · split at h
    · exact h.elim
    rename_i hk
    split at h
    all_goals first
      | exact h.elim
      | (obtain ⟨h0, r, h1, h2⟩ := h; exact ⟨_, h2, h0, r, h1, rfl⟩)
      | (obtain ⟨r, h1, h2⟩ := h; exact ⟨_, h2, r, h1, rfl⟩)
      | exact ⟨_, h, rfl⟩

theorem strBin_det {op : BinOp} {a b : ByteArray} {K : Value → Prop} (h : strBin op a b K) : ∃ v, K v ∧ strBin op a b (fun u => u = v) := by
  unfold strBin at h ⊢
  split at h
  all_goals first
    | exact h.elim
    | exact ⟨_, h.2, h.1, rfl⟩
    | exact ⟨_, h, rfl⟩

theorem opBin_det {op : BinOp} {x y : AV} (hn : isNil y = false) : Det (opBin P op t x y) (opBin P op t x y) := by
  intro K h
  unfold opBin at h ⊢
  split at h
  · obtain ⟨v, h1, h2⟩ := intBin_det h
    refine ⟨_, _, h1, ?_⟩
    have e : (fun u => u = v) = (fun v' : Value => AV.pure (.val v') = AV.pure (.val v) ∧ ([] : List BAct) = []) := by funext u; simp
    rw [← e]
    exact h2
  · obtain ⟨v, h1, h2⟩ := strBin_det h
    refine ⟨_, _, h1, ?_⟩
    have e : (fun u => u = v) = (fun v' : Value => AV.pure (.val v') = AV.pure (.val v) ∧ ([] : List BAct) = []) := by funext u; simp
    rw [← e]
    exact h2
  · split at h
    · rename_i ht
      try simp only
      split at h
      · exact ⟨_, _, h, rfl, rfl⟩
      · exact ⟨_, _, h, rfl, rfl⟩
      · exact h.elim
    · exact h.elim
  · rename_i h1 h2 h3
    split at h
    · rename_i h4
      rw [hn] at h4; cases h4
    · split at h
      · rename_i hx hy
        split at h
        · obtain ⟨r, a1, a2, a3, a4⟩ := h
          exact ⟨_, _, a4, r, a1, a2, a3, rfl, rfl⟩
        · obtain ⟨r, a1, a2, a3, a4⟩ := h
          exact ⟨_, _, a4, r, a1, a2, a3, rfl, rfl⟩
        · exact h.elim
      · exact h.elim
end
end Go.Avc
