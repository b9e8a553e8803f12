/- What an operation yields is one value and one way of turning the blocks: the rest of the operations, and all together. Conditions: none. -/
import Derived.Test.YtmkkfgifeekgeaaVcS
namespace Go.Avc
set_option linter.unusedSimpArgs false
open Go.RowKit

section
variable {P : Program} {t : TypeId} {blk blk' : Nat → Option Blk}

theorem opUn_det {op : UnOp} {x : AV} : Det (opUn op x) (opUn op x) := by
  intro K h
  unfold opUn at h ⊢
  split at h
  · split at h
    · exact ⟨_, _, h, rfl, rfl⟩
    · exact h.elim
  · split at h
    · obtain ⟨r, h1, h2⟩ := h
      exact ⟨_, _, h2, r, h1, rfl, rfl⟩
    · obtain ⟨r, h1, h2⟩ := h
      exact ⟨_, _, h2, r, h1, rfl, rfl⟩
    · exact h.elim
  · exact h.elim

theorem force_det {v : AV} : Det (force v) (force v) := by
  intro K h
  rw [force_eq] at h
  exact ⟨_, _, h, by rw [force_eq]; exact ⟨rfl, rfl⟩⟩

theorem opPick_det {c a b : AV} : Det (opPick c a b) (opPick c a b) := by
  intro K h
  unfold opPick at h ⊢
  split at h
  · rcases bsel_elim h with ⟨rfl, h⟩ | ⟨rfl, h⟩
    · exact force_det K h
    · exact force_det K h
  · exact h.elim

theorem opExtract_det {x : AV} {i : Nat} : Det (opExtract x i) (opExtract x i) := by
  intro K h
  unfold opExtract at h ⊢
  repeat' split at h
  all_goals first | exact h.elim | exact ⟨_, _, h, rfl, rfl⟩ | (simp only [*]; exact ⟨_, _, h, rfl, rfl⟩)

theorem opLen_det {x : AV} : Det (opLen P t x) (opLen P t x) := by
  intro K h
  unfold opLen at h ⊢
  repeat' split at h
  all_goals first | exact h.elim | exact ⟨_, _, h, rfl, rfl⟩ | (simp only [*]; exact ⟨_, _, h, rfl, rfl⟩)

theorem lenLiveB_frame {x : AV} (h : ∀ k ∈ x.keys, blk' k = blk k) : lenLiveB x blk' = lenLiveB x blk := by
  cases x with
  | lsl k i n => simp only [lenLiveB]; rw [h k (by simp [AV.keys])]
  | _ => rfl

theorem callVC_det {md : Bool} {f : FuncId} {args : List AV} {fx : List Nat} (hb : ∀ k ∈ AV.keysL args, blk' k = blk k) : Det (callVC md P f args blk fx) (callVC md P f args blk' fx) := by
  intro K h
  unfold callVC at h ⊢
  rw [toPVL_frame hb]
  split at h
  · exact h.elim
  rename_i ps hps
  obtain ⟨res, h1, h2⟩ := h
  split at h2
  · rename_i hs
    refine ⟨_, _, h2, res, h1, ?_⟩
    simp only [hs, and_self]
  · rename_i hs
    refine ⟨_, _, h2.2, res, h1, ?_⟩
    simp only [hs, and_self, and_true]
    exact h2.1

theorem guardNew_det {d : Nat} {used used' fx : List Nat} {f g : Kont → Prop} (hu : freshIn d used = true → freshIn d used' = true) (h : Det f g) : Det (fun K => guardNew d used fx (f K)) (fun K => guardNew d used' fx (g K)) := by
  intro K hK
  simp only [guardNew] at hK ⊢
  split at hK
  · rename_i h1
    split at hK
    · rename_i h2
      obtain ⟨v, acts, h3, h4⟩ := h K hK
      refine ⟨v, acts, h3, ?_⟩
      rw [hu h1]
      simp only [h2]
      exact h4
    · exact hK.elim
  · exact hK.elim

theorem opMake_det {n c : AV} {d : Nat} : Det (opMake P t n c d) (opMake P t n c d) := by
  intro K h
  unfold opMake at h ⊢
  repeat' split at h
  all_goals first | exact h.elim | (obtain ⟨a1, a2, a3, a4, h⟩ := h; exact ⟨_, _, h, a1, a2, a3, a4, rfl, rfl⟩)

theorem rowsOf_frame {get get' : Operand → AV} {sz : Nat} : ∀ {l : List (Nat × Operand)} {i : Nat}, (∀ x ∈ l.map (·.2), get' x = get x) → (∀ x ∈ l.map (·.2), ∀ k ∈ (get x).keys, blk' k = blk k) → rowsOf blk' sz get' i l = rowsOf blk sz get i l
  | [], _, _, _ => rfl
  | (j, x) :: l, i, h1, h2 => by
    have e := h1 x (by simp)
    have eb := h2 x (by simp)
    simp only [rowsOf, e]
    rw [allOne_frame (blk := blk) fun k hk => eb k (by rwa [cellsOf_keys] at hk), toPVL_frame (blk := blk) fun k hk => eb k (by rwa [cellsOf_keys] at hk),
      rowsOf_frame (l := l) (fun x hx => h1 x (by simp only [List.map_cons, List.mem_cons]; exact .inr hx)) (fun x hx => h2 x (by simp only [List.map_cons, List.mem_cons]; exact .inr hx))]
theorem keysOps_frame {get get' : Operand → AV} : ∀ {l : List (Nat × Operand)}, (∀ x ∈ l.map (·.2), get' x = get x) → keysOps get' l = keysOps get l
  | [], _ => rfl
  | (j, x) :: l, h => by
    simp only [keysOps, h x (by simp)]
    rw [keysOps_frame fun x hx => h x (by simp only [List.map_cons, List.mem_cons]; exact .inr hx)]
theorem fillAV_frame {get get' : Operand → AV} {place : Nat → Option (Nat × Nat)} : ∀ {l : List (Nat × Operand)} {cells : List AV}, (∀ x ∈ l.map (·.2), get' x = get x) → fillAV place get' cells l = fillAV place get cells l
  | [], _, _ => rfl
  | (j, x) :: l, cells, h => by
    have ih : ∀ cells, fillAV place get' cells l = fillAV place get cells l := fun cells => fillAV_frame fun x hx => h x (by simp only [List.map_cons, List.mem_cons]; exact .inr hx)
    simp only [fillAV, h x (by simp), ih]
theorem allParts_frame {get get' : Operand → AV} : ∀ {l : List (Nat × Operand)}, (∀ x ∈ l.map (·.2), get' x = get x) → (∀ x ∈ l.map (·.2), ∀ k ∈ (get x).keys, blk' k = blk k) → allParts blk' get' l = allParts blk get l
  | [], _, _ => rfl
  | (j, x) :: l, h1, h2 => by
    have e := h1 x (by simp)
    have eb := h2 x (by simp)
    simp only [allParts, e]
    rw [allOne_frame (blk := blk) fun k hk => eb k (by rwa [cellsOf_keys] at hk), allParts_frame (l := l) (fun x hx => h1 x (by simp only [List.map_cons, List.mem_cons]; exact .inr hx)) (fun x hx => h2 x (by simp only [List.map_cons, List.mem_cons]; exact .inr hx))]

theorem opBuildSlice_det {md : Bool} {len d : Nat} {parts : List (Nat × Operand)} {get get' : Operand → AV} {fx : List Nat} (h1 : ∀ x ∈ parts.map (·.2), get' x = get x) (h2 : ∀ x ∈ parts.map (·.2), ∀ k ∈ (get x).keys, blk' k = blk k) :
    Det (opBuildSlice md P t len parts get blk fx d) (opBuildSlice md P t len parts get' blk' fx d) := by
  intro K h
  unfold opBuildSlice at h ⊢
  rw [keysOps_frame h1]
  split at h
  case h_2 => exact h.elim
  split at h
  case h_2 => exact h.elim
  split at h
  case h_2 => exact h.elim
  split at h
  case h_2 => exact h.elim
  try simp only
  rw [rowsOf_frame h1 h2]
  repeat' split at h
  all_goals first | exact h.elim | exact ⟨_, _, h.2, h.1, rfl, rfl⟩

theorem opBuild_det {parts : List (Nat × Operand)} {get get' : Operand → AV} (h1 : ∀ x ∈ parts.map (·.2), get' x = get x) (h2 : ∀ x ∈ parts.map (·.2), ∀ k ∈ (get x).keys, blk' k = blk k) :
    Det (opBuild P t parts get blk) (opBuild P t parts get' blk') := by
  intro K h
  unfold opBuild at h ⊢
  simp only [forceC_eq] at h ⊢
  rw [allParts_frame h1 h2]
  split at h
  case h_2 => exact h.elim
  split at h
  case h_2 => exact h.elim
  split at h
  · split at h
    case h_2 => exact h.elim
    try simp only
    rw [fillAV_frame h1]
    split at h
    · exact ⟨_, _, h, rfl, rfl⟩
    · exact h.elim
  · split at h
    case h_2 => exact h.elim
    try simp only
    rw [fillAV_frame h1]
    split at h
    · exact ⟨_, _, h, rfl, rfl⟩
    · exact h.elim
  · exact h.elim

theorem boundsVC_det {len : Nat} {lo hi mx : Option AV} {K : Nat → Nat → Nat → Prop} (h : boundsVC len lo hi mx K) : ∃ l m n, K l m n ∧ boundsVC len lo hi mx (fun l' m' n' => l' = l ∧ m' = m ∧ n' = n) := by
  have low : ∀ {h m : Nat}, lowVC lo h m K → ∃ l m' n, K l m' n ∧ lowVC lo h m (fun l' m'' n' => l' = l ∧ m'' = m' ∧ n' = n) := fun {h m} hl => by
    unfold lowVC at hl ⊢
    split at hl
    · exact ⟨_, _, _, hl, rfl, rfl, rfl⟩
    · exact ⟨_, _, _, hl.2.2, hl.1, hl.2.1, rfl, rfl, rfl⟩
    · exact hl.elim
  unfold boundsVC at h ⊢
  split at h
  · split at h
    · exact low h
    · obtain ⟨a1, a2, h⟩ := h
      obtain ⟨l, m, n, h1, h2⟩ := low h
      exact ⟨l, m, n, h1, a1, a2, h2⟩
    · exact h.elim
  · split at h
    · obtain ⟨a1, a2, a3, a4, h⟩ := h
      obtain ⟨l, m, n, h1, h2⟩ := low h
      exact ⟨l, m, n, h1, a1, a2, a3, a4, h2⟩
    · exact h.elim
  · exact h.elim
theorem boundsVC_mono {len : Nat} {lo hi mx : Option AV} {K K' : Nat → Nat → Nat → Prop} (hk : ∀ l m n, K l m n → K' l m n) (h : boundsVC len lo hi mx K) : boundsVC len lo hi mx K' := by
  have low : ∀ {h m : Nat}, lowVC lo h m K → lowVC lo h m K' := fun {h m} hl => by
    unfold lowVC at hl ⊢
    split at hl
    · exact hk _ _ _ hl
    · exact ⟨hl.1, hl.2.1, hk _ _ _ hl.2.2⟩
    · exact hl.elim
  unfold boundsVC at h ⊢
  split at h
  · split at h
    · exact low h
    · exact ⟨h.1, h.2.1, low h.2.2⟩
    · exact h.elim
  · split at h
    · exact ⟨h.1, h.2.1, h.2.2.1, h.2.2.2.1, low h.2.2.2.2⟩
    · exact h.elim
  · exact h.elim

theorem opSlice_det {x : AV} {lo hi mx : Option AV} (hb : ∀ k ∈ x.keys, blk' k = blk k) : Det (opSlice P t x lo hi mx blk) (opSlice P t x lo hi mx blk') := by
  intro K h
  have key : ∀ {len : Nat} {f : Nat → Nat → Nat → AV}, (boundsVC len lo hi mx fun l h m => K (f l h m) []) → ∃ v acts, K v acts ∧ (boundsVC len lo hi mx fun l h m => f l h m = v ∧ ([] : List BAct) = acts) := fun h => by
    obtain ⟨l, m, n, h1, h2⟩ := boundsVC_det h
    exact ⟨_, _, h1, boundsVC_mono (fun l' m' n' hh => by obtain ⟨rfl, rfl, rfl⟩ := hh; exact ⟨rfl, rfl⟩) h2⟩
  unfold opSlice at h ⊢
  split at h
  · split at h
    · split at h
      · exact key h
      · exact h.elim
    · rename_i k i n
      rw [hb k (by simp [AV.keys])]
      split at h
      · split at h
        · exact key h
        · exact h.elim
      · exact h.elim
    · split at h
      · exact key (f := fun _ _ _ => .pure (.val (.slice none 0 0))) h
      · exact h.elim
    · exact h.elim
  · split at h
    · rename_i k i j
      rw [hb k (by simp [AV.keys])]
      split at h
      · split at h
        · obtain ⟨a1, a2, a3, a4, h⟩ := h
          obtain ⟨v, acts, h1, h2⟩ := key h
          exact ⟨v, acts, h1, a1, a2, a3, a4, h2⟩
        · exact h.elim
      · exact h.elim
    · exact h.elim
  · split at h
    · exact key h
    · exact h.elim
  · exact h.elim

theorem opAppend_det {x y : AV} {fx : List Nat} {d : Nat} (hb : ∀ k ∈ x.keys, blk' k = blk k) (hy : ∀ k ∈ y.keys, blk' k = blk k) : Det (opAppend P t x y blk fx d) (opAppend P t x y blk' fx d) := by
  intro K h
  unfold opAppend at h ⊢
  split at h
  case h_2 => exact h.elim
  split at h
  case h_2 => exact h.elim
  split at h
  case h_2 => exact h.elim
  split at h
  case h_2 => exact h.elim
  split at h
  case h_2 => exact h.elim
  try simp only
  rw [srcRows_frame hy]
  split at h
  case h_2 => exact h.elim
  try simp only
  split at h
  · exact ⟨_, _, h.2.2, h.1, h.2.1, rfl, rfl⟩
  · rename_i k n
    rw [hb k (by simp [AV.keys])]
    repeat' split at h
    all_goals first | exact h.elim | exact ⟨_, _, h.2.2.2, h.1, h.2.1, h.2.2.1, rfl, rfl⟩
  · exact h.elim

theorem opCopy_det {x y : AV} (hb : ∀ k ∈ x.keys, blk' k = blk k) (hy : ∀ k ∈ y.keys, blk' k = blk k) : Det (opCopy P t x y blk) (opCopy P t x y blk') := by
  intro K h
  unfold opCopy at h ⊢
  split at h
  case h_2 => exact h.elim
  split at h
  case h_2 => exact h.elim
  try simp only
  rw [srcRows_frame hy]
  split at h
  case h_2 => exact h.elim
  try simp only
  split at h
  · rename_i k i n
    rw [hb k (by simp [AV.keys])]
    repeat' split at h
    all_goals first | exact h.elim | exact ⟨_, _, h, rfl, rfl⟩
  · exact h.elim

theorem opConvert_det {src dst : TypeId} {x : AV} {d : Nat} {used used' fx : List Nat} (hb : ∀ k ∈ x.keys, blk' k = blk k) (hu : freshIn d used = true → freshIn d used' = true) : Det (opConvert P src dst x blk d used fx) (opConvert P src dst x blk' d used' fx) := by
  intro K h
  unfold opConvert at h ⊢
  split at h
  · split at h
    · obtain ⟨r, h1, h2⟩ := h
      exact ⟨_, _, h2, r, h1, rfl, rfl⟩
    · exact h.elim
  · split at h
    case h_2 => exact h.elim
    split at h
    case h_2 => exact h.elim
    try simp only
    rw [srcRows_frame hb]
    split at h
    · obtain ⟨bs, h1, h2⟩ := h
      exact ⟨_, _, h2, bs, h1, rfl, rfl⟩
    · exact h.elim
  · split at h
    case h_2 => exact h.elim
    split at h
    case h_2 => exact h.elim
    split at h
    case h_2 => exact h.elim
    unfold guardNew at h ⊢
    split at h
    · rename_i hf
      split at h
      · exact ⟨_, _, h.2, by rw [hu hf]; exact ⟨h.1, rfl, rfl⟩⟩
      · exact h.elim
    · exact h.elim
  · exact h.elim

/-- Two states in which an operation does alike. -/
structure Agr (s s' : St) (o : Oper) : Prop where
  get : ∀ x ∈ o.op.operands, s'.geto x = s.geto x
  blk : ∀ x ∈ o.op.operands, ∀ k ∈ (s.geto x).keys, s'.blk k = s.blk k
  fresh : ∀ d, o.dst = some d → freshIn d s.used = true → freshIn d s'.used = true

def DetM (more : St → Oper → Kont → Prop) : Prop := ∀ (s s' : St) (o : Oper), Agr s s' o → Det (more s o) (more s' o)

theorem DetM.none : DetM (fun _ _ _ => False) := fun _ _ _ _ _ h => h.elim

theorem more1_det {md : Bool} {fx : List Nat} : DetM (more1 md P fx) := by
  intro s s' o ha K h
  unfold more1 at h ⊢
  split at h
  · rename_i t x c hx
    have hg := ha.get
    have hb := ha.blk
    rw [hx] at hg hb
    simp only [Op.operands, List.mem_toArray, List.mem_cons, List.not_mem_nil, or_false, forall_eq_or_imp, forall_eq] at hg hb
    split at h
    · rename_i d hd
      rw [hg.1, hg.2]
      exact guardNew_det (ha.fresh d hd) opMake_det K h
    · exact h.elim
  · rename_i t len parts hx
    have hg := ha.get
    have hb := ha.blk
    rw [hx] at hg hb
    simp only [Op.operands, List.mem_toArray] at hg hb
    split at h
    · rename_i d hd
      exact guardNew_det (ha.fresh d hd) (opBuildSlice_det hg hb) K h
    · exact h.elim
  · rename_i t parts hx
    have hg := ha.get
    have hb := ha.blk
    rw [hx] at hg hb
    simp only [Op.operands, List.mem_toArray] at hg hb
    exact opBuild_det hg hb K h
  · rename_i t x lo hi mx hx
    have hg := ha.get
    have hb := ha.blk
    rw [hx] at hg hb
    simp only [Op.operands, Array.mem_append, List.mem_toArray, List.mem_cons, List.not_mem_nil, or_false, Option.mem_toArray] at hg hb
    have e : ∀ y : Option Operand, (∀ z, y = some z → s'.geto z = s.geto z) → y.map s'.geto = y.map s.geto := fun y hy => by
      cases y with
      | none => rfl
      | some z => simp [hy z rfl]
    rw [hg x (.inl (.inl (.inl rfl))), e lo fun z hz => hg z (.inl (.inl (.inr hz))), e hi fun z hz => hg z (.inl (.inr hz)), e mx fun z hz => hg z (.inr hz)]
    exact opSlice_det (hb x (.inl (.inl (.inl rfl)))) K h
  · rename_i src dst x hx
    have hg := ha.get
    have hb := ha.blk
    rw [hx] at hg hb
    simp only [Op.operands, List.mem_toArray, List.mem_cons, List.not_mem_nil, or_false, forall_eq] at hg hb
    split at h
    · rename_i d hd
      rw [hg]
      exact opConvert_det hb (ha.fresh d hd) K h
    · exact h.elim
  · rename_i c hx
    have hg := ha.get
    have hb := ha.blk
    rw [hx] at hg hb
    simp only [Op.operands, Call.operands] at hg hb
    have mem : ∀ {l : List Operand} {x : Operand}, c.args.toList = l → x ∈ l → x ∈ (match c.callee with | .value f => #[f] | .invoke r _ => #[r] | .builtin _ => #[]) ++ c.args := fun e hx => by
      rw [Array.mem_append]
      right
      rw [← Array.mem_toList_iff, e]
      exact hx
    split at h
    · split at h
      · rename_i x y t tx hargs hts
        split at h
        case h_2 => exact h.elim
        split at h
        · rename_i d hd
          have m1 := mem hargs (x := x) (by simp)
          have m2 := mem hargs (x := y) (by simp)
          try simp only
          rw [hg x m1, hg y m2]
          exact guardNew_det (ha.fresh d hd) (opAppend_det (hb x m1) (hb y m2)) K h
        · exact h.elim
      · exact h.elim
    · split at h
      · rename_i x y t tx hargs hts
        have m1 := mem hargs (x := x) (by simp)
        have m2 := mem hargs (x := y) (by simp)
        try simp only
        rw [hg x m1, hg y m2]
        exact opCopy_det (hb x m1) (hb y m2) K h
      · exact h.elim
    · split at h
      · rename_i x y hargs
        have m1 := mem hargs (x := x) (by simp)
        have m2 := mem hargs (x := y) (by simp)
        try simp only
        rw [hg x m1, hg y m2]
        split at h
        · split at h
          · exact ⟨_, _, h, rfl, rfl⟩
          · exact h.elim
        · exact h.elim
      · exact h.elim
    · split at h
      · rename_i x y hargs
        have m1 := mem hargs (x := x) (by simp)
        have m2 := mem hargs (x := y) (by simp)
        try simp only
        rw [hg x m1, hg y m2]
        split at h
        · split at h
          · exact ⟨_, _, h, rfl, rfl⟩
          · exact h.elim
        · exact h.elim
      · exact h.elim
    · exact h.elim
  · exact h.elim

theorem opVC_det {more : St → Oper → Kont → Prop} (hm : DetM more) {fx : List Nat} {s s' : St} {o : Oper} (ha : Agr s s' o) : Det (opVC true more P fx s o) (opVC true more P fx s' o) := by
  intro K h
  have hmore : more s o K → ∃ v acts, K v acts ∧ more s' o (fun v' a' => v' = v ∧ a' = acts) := fun h => hm s s' o ha K h
  have hg := ha.get
  have hb := ha.blk
  unfold opVC at h ⊢
  split at h
  · rename_i x hx
    rw [hx] at hg hb
    simp only [Op.operands, List.mem_toArray, List.mem_cons, List.not_mem_nil, or_false, forall_eq_or_imp, forall_eq] at hg hb
    rw [hg]
    exact force_det K h
  · rename_i x hx
    rw [hx] at hg hb
    simp only [Op.operands, List.mem_toArray, List.mem_cons, List.not_mem_nil, or_false, forall_eq_or_imp, forall_eq] at hg hb
    rw [hg]
    exact force_det K h
  · rename_i c a b hx
    rw [hx] at hg hb
    simp only [Op.operands, List.mem_toArray, List.mem_cons, List.not_mem_nil, or_false, forall_eq_or_imp, forall_eq] at hg hb
    rw [hg.1, hg.2.1, hg.2.2]
    exact opPick_det K h
  · rename_i t hx
    split at h
    · rename_i d hd
      exact guardNew_det (ha.fresh d hd) opAlloc_det K h
    · exact h.elim
  · rename_i t x hx
    rw [hx] at hg hb
    simp only [Op.operands, List.mem_toArray, List.mem_cons, List.not_mem_nil, or_false, forall_eq_or_imp, forall_eq] at hg hb
    split at h
    · rename_i d hd
      rw [hg]
      exact guardNew_det (ha.fresh d hd) (opBox_det hb) K h
    · exact h.elim
  · rename_i t x hx
    rw [hx] at hg hb
    simp only [Op.operands, List.mem_toArray, List.mem_cons, List.not_mem_nil, or_false, forall_eq_or_imp, forall_eq] at hg hb
    rw [hg]
    exact opLoad_det hb K h
  · rename_i t x v hx
    rw [hx] at hg hb
    simp only [Op.operands, List.mem_toArray, List.mem_cons, List.not_mem_nil, or_false, forall_eq_or_imp, forall_eq] at hg hb
    rw [hg.1, hg.2]
    exact opStore_det hb.1 hb.2 K h
  · rename_i t x f hx
    rw [hx] at hg hb
    simp only [Op.operands, List.mem_toArray, List.mem_cons, List.not_mem_nil, or_false, forall_eq_or_imp, forall_eq] at hg hb
    rw [hg]
    exact opFieldAddr_det hb K h
  · rename_i t x i hx
    rw [hx] at hg hb
    simp only [Op.operands, List.mem_toArray, List.mem_cons, List.not_mem_nil, or_false, forall_eq_or_imp, forall_eq] at hg hb
    rw [hg.1, hg.2]
    exact opIndexAddr_det hb.1 K h
  · rename_i t x f hx
    rw [hx] at hg hb
    simp only [Op.operands, List.mem_toArray, List.mem_cons, List.not_mem_nil, or_false, forall_eq_or_imp, forall_eq] at hg hb
    rw [hg]
    exact opField_det K h
  · rename_i t x i hx
    rw [hx] at hg hb
    simp only [Op.operands, List.mem_toArray, List.mem_cons, List.not_mem_nil, or_false, forall_eq_or_imp, forall_eq] at hg hb
    rw [hg.1, hg.2]
    exact opIndex_det K h
  · rename_i op t x y yt hx
    rw [hx] at hg hb
    simp only [Op.operands, List.mem_toArray, List.mem_cons, List.not_mem_nil, or_false, forall_eq_or_imp, forall_eq] at hg hb
    rw [hg.1, hg.2]
    split at h
    · exact h.elim
    rename_i hn
    exact opBin_det hn K h
  · rename_i op t x hx
    rw [hx] at hg hb
    simp only [Op.operands, List.mem_toArray, List.mem_cons, List.not_mem_nil, or_false, forall_eq_or_imp, forall_eq] at hg hb
    rw [hg]
    exact opUn_det K h
  · rename_i x i hx
    rw [hx] at hg hb
    simp only [Op.operands, List.mem_toArray, List.mem_cons, List.not_mem_nil, or_false, forall_eq_or_imp, forall_eq] at hg hb
    rw [hg]
    exact opExtract_det K h
  · rename_i f first captured hx
    rw [hx] at hg hb
    simp only [Op.operands] at hg hb
    split at h
    · have e : captured.toList.map s'.geto = captured.toList.map s.geto := List.map_congr_left fun x hx => hg x (by rw [Array.mem_append]; right; simpa using hx)
      rw [e]
      exact ⟨_, _, h, rfl, rfl⟩
    · exact h.elim
  · rename_i c hx
    rw [hx] at hg hb
    simp only [Op.operands, Call.operands] at hg hb
    have mem : ∀ {l : List Operand} {x : Operand}, c.args.toList = l → x ∈ l → x ∈ (match c.callee with | .value f => #[f] | .invoke r _ => #[r] | .builtin _ => #[]) ++ c.args := fun e hx => by
      rw [Array.mem_append]
      right
      rw [← Array.mem_toList_iff, e]
      exact hx
    split at h
    · split at h
      · rename_i x t hargs hts
        have m1 := mem hargs (x := x) (by simp)
        try simp only
        rw [hg x m1, lenLiveB_frame (hb x m1)]
        split at h
        · exact opLen_det K h
        · exact h.elim
      · exact h.elim
    · rename_i f hc
      rw [hc] at hg hb
      have mf : f ∈ (#[f] ++ c.args) := by simp
      try simp only
      rw [hg f mf]
      split at h
      · rename_i f' cs' hfn
        have e : c.args.toList.map s'.geto = c.args.toList.map s.geto := List.map_congr_left fun x hx => hg x (by rw [Array.mem_append]; right; simpa using hx)
        rw [e]
        exact callVC_det (fun k hk => by
          obtain ⟨x, hx, hkx⟩ := AV.mem_keysL.1 hk
          rcases List.mem_append.1 hx with hx | hx
          · obtain ⟨y, hy, rfl⟩ := List.mem_map.1 hx
            exact hb y (by rw [Array.mem_append]; right; simpa using hy) k hkx
          · exact hb f mf k (fnOf_keys hfn k (AV.mem_keysL.2 ⟨x, hx, hkx⟩))) K h
      · exact hmore h
    · exact hmore h
  · exact hmore h
end
end Go.Avc
