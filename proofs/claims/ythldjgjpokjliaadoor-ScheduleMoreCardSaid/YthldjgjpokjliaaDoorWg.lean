/- Rows of numbers that lie aside: taken up, laid aside again. Conditions: none. -/
import Derived.Test.YthldjgjpokjliaaDoorWf
set_option linter.unusedSimpArgs false
set_option linter.unusedVariables false
set_option maxRecDepth 20000
set_option maxHeartbeats 4000000
namespace Go.Avc
open Go.RowKit
structure ARow where
 blk : Nat
 cap : Nat
 xs : List Nat
def nilRow : ARow := ⟨0, 0, []⟩
def ARow.val (r : ARow) : Value := .slice (match r.xs with
 | [] => none
 | _ :: _ => some ⟨r.blk, 0, none⟩) r.xs.length (match r.xs with
 | [] => 0
 | _ :: _ => r.cap)
theorem ARow.val_some {r : ARow} (h : r.xs ≠ []) : r.val = .slice (some ⟨r.blk, 0, none⟩) r.xs.length r.cap := by
 unfold ARow.val
 split
 · rename_i e; exact absurd e h
 · rfl
theorem ARow.val_nil {r : ARow} (h : r.xs = []) : r.val = .slice none 0 0 := by
 unfold ARow.val
 rw [h]
 rfl
def rowPV (xs : List Nat) : List (List PV) := xs.map fun x : Nat => [PV.int x]
theorem rowPV_len (xs : List Nat) : (rowPV xs).length = xs.length := by simp [rowPV]
def usCode (us : List ARow) : Nat := pkL (us.map fun r => pkL (r.blk :: r.cap :: r.xs))
theorem usCode_inj {us vs : List ARow} (h : usCode us = usCode vs) : us = vs := by
 have h1 := pkL_inj h
 clear h
 induction us generalizing vs with
 | nil =>
   cases vs with
   | nil => rfl
   | cons v vs => simp at h1
 | cons u us ih =>
   cases vs with
   | nil => simp at h1
   | cons v vs =>
     simp only [List.map_cons, List.cons.injEq] at h1
     have h2 := pkL_inj h1.1
     simp only [List.cons.injEq] at h2
     obtain ⟨e1, e2, e3⟩ := h2
     obtain ⟨b, c, x⟩ := u
     obtain ⟨b', c', x'⟩ := v
     simp only at e1 e2 e3
     subst e1; subst e2; subst e3
     rw [ih h1.2]
def RowAt (r : ARow) (w : World) : Prop := ∃ tot, r.cap ≤ tot ∧ r.xs.length ≤ r.cap ∧ r.cap ≤ maxLen ∧ BOK w (fun _ => True) (fun _ => none) ⟨r.blk, 1, tot, r.xs.length, false⟩ (.row 1 (rowPV r.xs))
structure Rows (Own : Nat → Prop) (n0 : Nat) (us : List ARow) (X E : Nat → Prop) (w : World) : Prop where
 here : ∀ r ∈ us, r.xs ≠ [] → RowAt r w ∧ X r.blk ∧ ¬ E r.blk ∧ (Own r.blk ∨ n0 ≤ r.blk) ∧ r.blk < w.heap.size
 dj : ∀ i j (hi : i < us.length) (hj : j < us.length), i ≠ j → us[i].xs ≠ [] → us[j].xs ≠ [] → us[i].blk ≠ us[j].blk
theorem RowAt.same {r : ARow} {w w' : World} (h : RowAt r w) (hs : w.heap.size ≤ w'.heap.size) (he : w'.heap[r.blk]? = w.heap[r.blk]?) : RowAt r w' := by
 obtain ⟨tot, h1, h2, h3, h4⟩ := h
 exact ⟨tot, h1, h2, h3, h4.mono ⟨hs, fun b _ hn => (hn trivial).elim⟩ (fun _ h => by simp [Blk.keys] at h) fun _ => he⟩
theorem Rows.stable {Own : Nat → Prop} {n0 : Nat} {us : List ARow} {X E E' : Nat → Prop} {w w' : World} (h : Rows Own n0 us X E w) (hk : Kp E w w') (hE : ∀ b, E' b → (E b ∨ w.heap.size ≤ b) ∧ b < w'.heap.size) : Rows Own n0 us X E' w' := by
 refine ⟨fun r hr hne => ?_, h.dj⟩
 obtain ⟨h1, h2, h3, h4, h5⟩ := h.here r hr hne
 refine ⟨h1.same hk.size (hk.block _ h5 h3), h2, fun he => ?_, h4, Nat.lt_of_lt_of_le h5 hk.size⟩
 rcases (hE _ he).1 with h6 | h6
 · exact h3 h6
 · omega
def uJ (pv : List (PV × Value)) (Own : Nat → Prop) (we : World) (i : Nat) (_ : Bool) (X E : Nat → Prop) (w : World) : Prop :=
 Kp Own we w ∧ (∀ b, E b → Own b ∨ we.heap.size ≤ b) ∧ (∀ q ∈ pv, PR w (fun b => X b ∨ E b) q.1 q.2) ∧ ∀ us, i = usCode us → Rows Own we.heap.size us X E w
theorem uBase_kp {Own E : Nat → Prop} {we w w' : World} (h1 : Kp Own we w) (h2 : ∀ b, E b → Own b ∨ we.heap.size ≤ b) (hk : Kp E w w') : Kp Own we w' :=
 ⟨hk.os.trans h1.os, hk.tape.trans h1.tape, hk.output.trans h1.output, Nat.le_trans h1.size hk.size, fun b hb hn => (hk.block b (Nat.lt_of_lt_of_le hb h1.size) fun he => by
   rcases h2 b he with h | h
   · exact hn h
   · omega).trans (h1.block b hb hn)⟩
theorem uJ_stable (pv : List (PV × Value)) (Own : Nat → Prop) (we : World) (i : Nat) (t : Bool) (X E E' : Nat → Prop) (w w' : World) (h : uJ pv Own we i t X E w) (hk : Kp E w w') (hE : ∀ b, E' b → (E b ∨ w.heap.size ≤ b) ∧ b < w'.heap.size) : uJ pv Own we i t X E' w' := by
 obtain ⟨h1, h2, h4, h3⟩ := h
 refine ⟨uBase_kp h1 h2 hk, fun b hb => ?_, fun q hq => (h4 q hq).mono (Ad.of_kp hk hE), fun us e => (h3 us e).stable hk hE⟩
 rcases (hE b hb).1 with h | h
 · exact h2 b h
 · exact .inr (Nat.le_trans h1.size h)
def uY (P : Program) (pv : List (PV × Value)) (Own : Nat → Prop) (we : World) : Yl P := ⟨true, false, 0, [], uJ pv Own we, uJ_stable pv Own we, fun i row X E W args _ h => by simp at h⟩
structure UCtx (pv : List (PV × Value)) (Own : Nat → Prop) (we : World) (Γ : Ctx) : Prop where
 on : Γ.y.on = true
 J : Γ.y.J = uJ pv Own we
 df : Γ.df = []
 w0 : Γ.w0.heap = #[]
 X : ∀ b, ¬ Γ.X b
section
variable {pv : List (PV × Value)} {Own : Nat → Prop} {we : World} {Γ : Ctx} {s : St} {a : Act} {w : World}
theorem marksN {X : Nat → Prop} {β : BM} (g : Gh Γ X β s a.defers w) (hon : Γ.y.on = true) {X' : Nat → Prop} {w' : World} : ∃ mk : List Deferred, a.defers = mk ++ Γ.df ∧ mk.Nodup ∧ ∀ d ∈ mk, ∃ D, d = { target := .collected D, args := #[] } ∧ w'.heap[D]? = some (.deferred (some [])) ∧ (Γ.y.rd = false → Γ.w0.heap.size ≤ D) ∧ X' D := by
 obtain ⟨mk, m1, m2, m3⟩ := g.marks
 rw [g.lone hon] at m1
 have e1 : mk = [] := (List.append_eq_nil_iff.1 m1.symm).1
 subst e1
 exact ⟨[], by rw [g.lone hon]; exact m1, m2, fun d' hd' => by cases hd'⟩
theorem R.takeRow (hG : UCtx pv Own we Γ) (hR : R Γ s a w) {us : List ARow} (hgh : s.get Γ.N = .gh (usCode us) false) {r : Nat} (hr : r < us.length) (hne : us[r].xs ≠ []) {k : Nat} (hk : k ∉ s.used) (hfx : k ∉ Γ.fx) {t : Nat} (ht : t ≠ Γ.N) (hv : s.get t = .pure (.val us[r].val)) :
   R Γ (((s.new k (.row 1 (rowPV us[r].xs))).put t (.lsl k 0 us[r].xs.length)).put Γ.N (.gh (usCode (us.set r nilRow)) false)) a w := by
 obtain ⟨X, β, h, g⟩ := hR
 have hj0 := g.gh hG.on _ _ hgh
 rw [hG.J] at hj0
 obtain ⟨b1, b2, b4, b3⟩ := hj0
 have RW := b3 us rfl
 obtain ⟨⟨tot, c1, c2, c3, c4⟩, hx, he, ho, hlt⟩ := RW.here _ (List.getElem_mem hr) hne
 obtain ⟨bi, hbi⟩ : ∃ bi : BI, bi = ⟨us[r].blk, 1, tot, us[r].xs.length, false⟩ := ⟨_, rfl⟩
 rw [← hbi] at c4
 have hbb : bi.b = us[r].blk := by rw [hbi]
 have h2 := h.adopt (Γ := Γ) hk hfx (bi := bi) (by rw [hbi]) (hbb ▸ hx) (by rw [hG.w0]; exact Nat.zero_le _) c4
 have hval : a.tmps.getD t undef = .slice (some ⟨us[r].blk, 0, none⟩) us[r].xs.length us[r].cap := by
   have := h.slots t
   rw [hv] at this
   rw [this.val_inv, ARow.val_some hne]
 have h3 := h2.putSame (d := t) (v := .lsl k 0 us[r].xs.length) (by
     rw [hval]
     have := AR.lsl (w := w) (A := Av (Γ.atX fun b => X b ∧ b ≠ bi.b).X (fun j => if j = k then some bi else β j)) k 0 us[r].xs.length bi us[r].cap (β := fun j => if j = k then some bi else β j) (by simp) (by rw [hbi]) c2 (by rw [hbi]; simpa using c1) (by rw [hbi]; simp) c3
     rw [hbi, Nat.zero_mul] at this
     rw [hbi]
     exact this) (by
     intro x hx
     simp only [AV.keys, List.mem_singleton] at hx
     subst hx
     exact List.mem_cons_self)
 have h4 := h3.putSame (d := Γ.N) (v := .gh (usCode (us.set r nilRow)) false) (.gh _ _ _) (by simp [AV.keys])
 refine ⟨_, _, h4, ?_⟩
 have hEx : ∀ x, Ex (fun j => if j = k then some bi else β j) x → Ex β x ∨ x = us[r].blk := by
   rintro x ⟨j', bj, e1, e2, rfl⟩
   by_cases e : j' = k
   · simp only [e, if_true] at e1
     cases e1; exact .inr hbb
   · simp only [if_neg e] at e1
     exact .inl ⟨j', bj, e1, e2, rfl⟩
 exact
 { sub := fun x hx => (hG.X x hx).elim
   old := fun x hx => by rw [hG.w0] at hx; exact absurd hx (Nat.not_lt_zero _)
   lone := g.lone
   gh := fun _ j' t' hj' => by
     rw [St.get_put, if_pos rfl] at hj'
     cases hj'
     rw [hG.J]
     refine ⟨b1, fun x hx => ?_, fun q hq => (b4 q hq).mono ⟨Nat.le_refl _, fun b _ hn => ⟨rfl, fun hh => hn ?_⟩⟩, fun vs e => ?_⟩
     · rcases hEx x hx with hx | rfl
       · exact b2 x hx
       · exact ho
     · rcases hh with hh | hh
       · exact .inl hh.1
       · rcases hEx b hh with hh | rfl
         · exact .inr hh
         · exact .inl hx
     · have e := (usCode_inj e).symm
       subst e
       refine ⟨fun y hy hyn => ?_, fun i j hi hj hij h1 h2 => ?_⟩
       · obtain ⟨i, hi, rfl⟩ := List.getElem_of_mem hy
         have hi' : i < us.length := by simpa using hi
         rw [List.getElem_set] at hyn ⊢
         by_cases ei : r = i
         · rw [if_pos ei] at hyn; exact absurd rfl hyn
         · rw [if_neg ei] at hyn ⊢
           obtain ⟨d1, d2, d3, d4, d5⟩ := RW.here _ (List.getElem_mem hi') hyn
           have hne' := RW.dj i r hi' hr (Ne.symm ei) hyn hne
           refine ⟨d1, ⟨d2, by rw [hbb]; exact hne'⟩, fun hx => ?_, d4, d5⟩
           rcases hEx _ hx with hx | hx
           · exact d3 hx
           · exact hne' hx
       · have hi' : i < us.length := by simpa using hi
         have hj' : j < us.length := by simpa using hj
         rw [List.getElem_set] at h1 ⊢
         rw [List.getElem_set] at h2 ⊢
         by_cases ei : r = i
         · rw [if_pos ei] at h1; exact absurd rfl h1
         · by_cases ej : r = j
           · rw [if_pos ej] at h2; exact absurd rfl h2
           · rw [if_neg ei] at h1 ⊢
             rw [if_neg ej] at h2 ⊢
             exact RW.dj i j hi' hj' hij h1 h2
   marks := marksN g hG.on }
theorem R.giveRow (hG : UCtx pv Own we Γ) (hR : R Γ s a w) {us : List ARow} (hgh : s.get Γ.N = .gh (usCode us) false) {r : Nat} (hr : r < us.length) (hnil : us[r].xs = []) {k : Nat} (hfx : k ∉ Γ.fx) {xs : List Nat} (hne : xs ≠ []) (hblk : s.blk k = some (.row 1 (rowPV xs)))
   {t : Nat} (ht : t ≠ Γ.N) (hv : s.get t = .lsl k 0 xs.length) :
   ∃ b cap, R Γ (((s.kill k).put t (.pure (.val (ARow.val ⟨b, cap, xs⟩)))).put Γ.N (.gh (usCode (us.set r ⟨b, cap, xs⟩)) false)) a w := by
 obtain ⟨X, β, h, g⟩ := hR
 have hj0 := g.gh hG.on _ _ hgh
 rw [hG.J] at hj0
 obtain ⟨b1, b2, b4, b3⟩ := hj0
 have RW := b3 us rfl
 obtain ⟨bi, hβ, hb⟩ := h.live hblk
 have hb0 := hb
 obtain ⟨q1, q2, q3, q4, q5⟩ := hb0
 have hlen : (rowPV xs).length = xs.length := rowPV_len xs
 have hpos : 0 < xs.length := List.length_pos_iff.2 hne
 have hvirt : bi.virt = false := by
   rcases q5 with ⟨_, e⟩ | ⟨e, _⟩
   · have h9 := congrArg List.length e; rw [hlen] at h9; have h9 : xs.length = 0 := h9; omega
   · exact e
 obtain ⟨cap, hval, k1, k2, k3⟩ : ∃ cap, a.tmps.getD t undef = .slice (some ⟨bi.b, 0, none⟩) xs.length cap ∧ xs.length ≤ cap ∧ cap ≤ bi.tot ∧ cap ≤ maxLen := by
   have := h.slots t
   rw [hv] at this
   obtain ⟨n, hn⟩ : ∃ n, n = xs.length := ⟨_, rfl⟩
   rw [← hn] at this hpos ⊢
   clear hn
   generalize a.tmps.getD t undef = u at this
   cases this with
   | lsl _ _ _ bi' cap hb' hvv hnc hc hi hm =>
     rw [hβ] at hb'; cases hb'
     refine ⟨cap, by rw [Nat.zero_mul], hnc, ?_, hm⟩
     rw [q1, Nat.zero_add, Nat.mul_one] at hc
     exact hc
   | lslV => omega
   | lslDead _ _ _ _ hb' => rw [hβ] at hb'; cases hb'
 have hplain := hb.plain (fun row hrow p hp => by
   simp only [rowPV, List.mem_map] at hrow
   obtain ⟨x, _, rfl⟩ := hrow
   simp only [List.mem_singleton] at hp
   exact ⟨_, hp⟩)
 have h2 := h.release (Γ := Γ) hfx hβ hvirt
 have h3 := h2.putSame (d := t) (v := .pure (.val (ARow.val ⟨bi.b, cap, xs⟩))) (by rw [hval, ARow.val_some hne]; exact .pure _ _ (.val _)) (by simp [AV.keys])
 have h4 := h3.putSame (d := Γ.N) (v := .gh (usCode (us.set r ⟨bi.b, cap, xs⟩)) false) (.gh _ _ _) (by simp [AV.keys])
 refine ⟨bi.b, cap, _, _, h4, ?_⟩
 have hbE : Ex β bi.b := ⟨k, bi, hβ, hvirt, rfl⟩
 have hEx : ∀ x, Ex (fun j => if j = k then none else β j) x → Ex β x ∧ x ≠ bi.b := by
   rintro x ⟨j', bj, e1, e2, rfl⟩
   by_cases e : j' = k
   · simp [e] at e1
   · simp only [if_neg e] at e1
     exact ⟨⟨j', bj, e1, e2, rfl⟩, fun hh => e (h.inj j' k bj bi e1 hβ e2 hvirt hh)⟩
 have hrow : RowAt ⟨bi.b, cap, xs⟩ w := ⟨bi.tot, k2, k1, k3, by
   have e : bi = ⟨bi.b, 1, bi.tot, xs.length, false⟩ := by
     obtain ⟨x1, x2, x3, x4, x5⟩ := bi
     simp only at q1 q3 hvirt
     rw [hlen] at q3
     simp [q1, ← q3, hvirt]
   rw [← e]
   exact hplain⟩
 exact
 { sub := fun x hx => (hG.X x hx).elim
   old := fun x hx => by rw [hG.w0] at hx; exact absurd hx (Nat.not_lt_zero _)
   lone := g.lone
   gh := fun _ j' t' hj' => by
     rw [St.get_put, if_pos rfl] at hj'
     cases hj'
     rw [hG.J]
     refine ⟨b1, fun x hx => b2 x (hEx x hx).1, fun q hq => (b4 q hq).mono ⟨Nat.le_refl _, fun b _ hn => ⟨rfl, fun hh => hn ?_⟩⟩, fun vs e => ?_⟩
     · rcases hh with (hh | rfl) | hh
       · exact .inl hh
       · exact .inr hbE
       · exact .inr (hEx b hh).1
     have e := (usCode_inj e).symm
     subst e
     refine ⟨fun y hy hyn => ?_, fun i j hi hj hij h1 h2 => ?_⟩
     · obtain ⟨i, hi, rfl⟩ := List.getElem_of_mem hy
       have hi' : i < us.length := by simpa using hi
       rw [List.getElem_set] at hyn ⊢
       by_cases ei : r = i
       · rw [if_pos ei]
         exact ⟨hrow, .inr rfl, fun hx => (hEx _ hx).2 rfl, b2 _ hbE, h.lt k bi hβ hvirt⟩
       · rw [if_neg ei] at hyn ⊢
         obtain ⟨d1, d2, d3, d4, d5⟩ := RW.here _ (List.getElem_mem hi') hyn
         exact ⟨d1, .inl d2, fun hx => d3 (hEx _ hx).1, d4, d5⟩
     · have hi' : i < us.length := by simpa using hi
       have hj' : j < us.length := by simpa using hj
       rw [List.getElem_set] at h1 ⊢
       rw [List.getElem_set] at h2 ⊢
       by_cases ei : r = i
       · by_cases ej : r = j
         · omega
         · rw [if_pos ei]
           rw [if_neg ej] at h2 ⊢
           intro e
           exact (RW.here _ (List.getElem_mem hj') h2).2.2.1 (e ▸ hbE)
       · by_cases ej : r = j
         · rw [if_neg ei] at h1 ⊢
           rw [if_pos ej]
           intro e
           exact (RW.here _ (List.getElem_mem hi') h1).2.2.1 (e ▸ hbE)
         · rw [if_neg ei] at h1 ⊢
           rw [if_neg ej] at h2 ⊢
           exact RW.dj i j hi' hj' hij h1 h2
   marks := marksN g hG.on }
end
end Go.Avc
/- A closure that calls itself, with two blocks of its caller's and rows that lie aside: its contract, a call of it, how a walk shows it. Conditions: none. -/
namespace Go.Avc
open Go.RowKit
structure SP where
 f : FuncId
 p1 : PV
 p2 : PV
 pa : Value
 pp : Value
 ps : Value
 bt : Nat
 bu : Nat
 tu : Nat
def SP.fv (c : SP) : Value := .func (.func c.f) #[] #[c.pa, .pointer (some ⟨c.bt, 0, none⟩), .pointer (some ⟨c.bu, 0, none⟩), c.pp, c.ps]
def SP.pv (c : SP) : List (PV × Value) := [(c.p1, c.pa), (c.p2, c.pp), (.ptr [.val c.fv], c.ps)]
def CellAt (b T : Nat) (w : World) : Prop := ∃ cs e fz, w.heap[b]? = some (.cells cs e fz) ∧ NF cs fz ∧ cs.size = 1 ∧ cs.getD 0 undef = .int .u64 (T : Int)
def UsAt (b n : Nat) (us : List ARow) (w : World) : Prop := us.length = 64 ∧ 64 ≤ n ∧ ∃ cs e fz, w.heap[b]? = some (.cells cs e fz) ∧ NF cs fz ∧ cs.size = n ∧ ∀ r (h : r < us.length), cs.getD r undef = us[r].val
theorem ARow.one (r : ARow) : r.val.oneCell' = true := rfl
def usPV (us : List ARow) : List (List PV) := us.map fun r => [PV.val r.val]
def cellA (T : Nat) : Blk := .box [.pure (.val (.int .u64 (T : Int)))]
def DJ (us : List ARow) : Prop := ∀ i j (hi : i < us.length) (hj : j < us.length), i ≠ j → us[i].xs ≠ [] → us[j].xs ≠ [] → us[i].blk ≠ us[j].blk
structure SPre (P : Program) (c : SP) (T : Nat) (us : List ARow) (X : Nat → Prop) (w : World) : Prop where
 pr : ∀ q ∈ c.pv, PR w X q.1 q.2
 xt : X c.bt
 xu : X c.bu
 ne : c.bt ≠ c.bu
 lt : ∀ b, X b → b < w.heap.size
 ct : CellAt c.bt T w
 cu : UsAt c.bu c.tu us w
 rows : ∀ r ∈ us, r.xs ≠ [] → RowAt r w ∧ X r.blk ∧ r.blk ≠ c.bt ∧ r.blk ≠ c.bu
 dj : DJ us
 glob : GlobOK P w X
def OwnS (c : SP) (us : List ARow) (b : Nat) : Prop := b = c.bt ∨ b = c.bu ∨ ∃ r ∈ us, r.xs ≠ [] ∧ b = r.blk
structure SPost (c : SP) (us : List ARow) (w : World) (T' : Nat) (us' : List ARow) (w' : World) : Prop where
 ct : CellAt c.bt T' w'
 cu : UsAt c.bu c.tu us' w'
 kp : Kp (OwnS c us) w w'
 rows : ∀ r ∈ us', r.xs ≠ [] → RowAt r w' ∧ (OwnS c us r.blk ∨ w.heap.size ≤ r.blk) ∧ r.blk ≠ c.bt ∧ r.blk ≠ c.bu ∧ r.blk < w'.heap.size
 dj : DJ us'
def SSpec (P : Program) (f : FuncId) (p1 p2 : PV) (i T : Nat) (U : List (List Nat)) (Q : Bool → Nat → List (List Nat) → Prop) : Prop :=
 (∀ (vs : Array Value) (w : World), (callFunc f vs).run P w = .ok (.enter f vs) w) ∧
 ∀ (c : SP) (us : List ARow) (X : Nat → Prop) (w : World), c.f = f → c.p1 = p1 → c.p2 = p2 → us.map ARow.xs = U → SPre P c T us X w →
   Calls P f #[.int .i64 (i : Int), c.pa, .pointer (some ⟨c.bt, 0, none⟩), .pointer (some ⟨c.bu, 0, none⟩), c.pp, c.ps] w fun e w' => ∃ b T' us', e = .returned (.bool b) ∧ (b = false → us' = us) ∧ Q b T' (us'.map ARow.xs) ∧ SPost c us w T' us' w'
section
variable {F : Fence} {n : Nat} {more : St → Oper → Kont → Prop} {Γ : Ctx} {s : St}
def StepW (F : Fence) (n : Nat) (Γ : Ctx) (s : St) (o : Oper) (C : St → Prop) : Prop := ∀ a w (next : Act → World → Prop) (Q : Exit → Act → World → Prop), R Γ s a w → (∀ s' a' w', R Γ s' a' w' → C s' → next a' w') → o.wpIn F n Γ.P a w next Q
theorem Wp.atW (hm : MoreOK more Γ) (hF : FOK F) {id : Nat} {ops : Array Oper} {l1 l2 : List Oper} {o : Oper} (hsp : ops.toList = l1 ++ o :: l2) (hg : o.guard = none) {K : Exit → St → Prop}
   (h : opsVC false more Γ.P Γ.pk Γ.y Γ.N Γ.fx ops.toList l1 s fun s1 => StepW F n Γ s1 o fun s2 => opsVC false more Γ.P Γ.pk Γ.y Γ.N Γ.fx ops.toList l2 s2 (K .normal)) : Wp Γ F n (.region id ops false) s K := by
 intro a w hR
 refine wpIn_region_list ?_
 have hpre := ops_pre (n := n) (l2 := o :: l2) hm hF (Q := fun e a' w' => ∃ s', (K e s' ∨ EscS Γ e s') ∧ R Γ s' a' w') h hR ?_ fun e s' a' w' h1 h2 => ⟨s', .inr h1, h2⟩
 · rw [← hsp] at hpre
   simpa using hpre
 intro s1 a1 w1 h1 hR1
 refine wpListIn_plain hg fun K' hK' => ?_
 refine h1 a1 w1 K' _ hR1 fun s2 a2 w2 r2 r3 => hK' _ _ ?_
 have := ops_sound (n := n) hm hF (Q := fun e a' w' => ∃ s', (K e s' ∨ EscS Γ e s') ∧ R Γ s' a' w') r3 r2 (fun s' a' w' h1 h2 => ⟨s', .inl h1, h2⟩) fun e s' a' w' h1 h2 => ⟨s', .inr h1, h2⟩
 simpa using this
end
section
variable {F : Fence} {n : Nat} {more : St → Oper → Kont → Prop} {Γ : Ctx} {s : St}
def Turn (Γ : Ctx) (s : St) (C : St → Prop) : Prop := ∀ a w, R Γ s a w → ∃ s', R Γ s' a w ∧ C s'
theorem Turn.same {C : St → Prop} (h : C s) : Turn Γ s C := fun _ _ hR => ⟨s, hR, h⟩
theorem Turn.le {C : St → Prop} {s' : St} (hl : Le Γ s s') (h : C s') : Turn Γ s C := fun a w hR => ⟨s', hl a w hR, h⟩
theorem Turn.andThen {C : St → Prop} (h : Turn Γ s fun s' => Turn Γ s' C) : Turn Γ s C := fun a w hR => by
 obtain ⟨s', h1, h2⟩ := h a w hR
 exact h2 a w h1
theorem Wp.cut (l1 : List Oper) {l2 : List Oper} (hm : MoreOK more Γ) (hF : FOK F) {id : Nat} {ops : Array Oper} (hsp : ops.toList = l1 ++ l2) {K : Exit → St → Prop}
   (h : opsVC false more Γ.P Γ.pk Γ.y Γ.N Γ.fx ops.toList l1 s fun s1 => Turn Γ s1 fun s2 => opsVC false more Γ.P Γ.pk Γ.y Γ.N Γ.fx ops.toList l2 s2 (K .normal)) : Wp Γ F n (.region id ops false) s K := by
 intro a w hR
 refine wpIn_region_list ?_
 have hpre := ops_pre (n := n) (l2 := l2) hm hF (Q := fun e a' w' => ∃ s', (K e s' ∨ EscS Γ e s') ∧ R Γ s' a' w') h hR ?_ fun e s' a' w' h1 h2 => ⟨s', .inr h1, h2⟩
 · rw [← hsp] at hpre
   simpa using hpre
 intro s1 a1 w1 h1 hR1
 obtain ⟨s2, hR2, h2⟩ := h1 a1 w1 hR1
 have := ops_sound (n := n) hm hF (Q := fun e a' w' => ∃ s', (K e s' ∨ EscS Γ e s') ∧ R Γ s' a' w') h2 hR2 (fun s' a' w' h1 h2 => ⟨s', .inl h1, h2⟩) fun e s' a' w' h1 h2 => ⟨s', .inr h1, h2⟩
 simpa using this
theorem Wp.cut3 (l1 l2 : List Oper) {l3 : List Oper} (hm : MoreOK more Γ) (hF : FOK F) {id : Nat} {ops : Array Oper} (hsp : ops.toList = l1 ++ (l2 ++ l3)) {K : Exit → St → Prop}
   (h : opsVC false more Γ.P Γ.pk Γ.y Γ.N Γ.fx ops.toList l1 s fun s1 => Turn Γ s1 fun s2 => opsVC false more Γ.P Γ.pk Γ.y Γ.N Γ.fx ops.toList l2 s2 fun s3 => Turn Γ s3 fun s4 => opsVC false more Γ.P Γ.pk Γ.y Γ.N Γ.fx ops.toList l3 s4 (K .normal)) : Wp Γ F n (.region id ops false) s K := by
 intro a w hR
 refine wpIn_region_list ?_
 have hpre := ops_pre (n := n) (l2 := l2 ++ l3) hm hF (Q := fun e a' w' => ∃ s', (K e s' ∨ EscS Γ e s') ∧ R Γ s' a' w') h hR ?_ fun e s' a' w' h1 h2 => ⟨s', .inr h1, h2⟩
 · rw [← hsp] at hpre
   simpa using hpre
 intro s1 a1 w1 h1 hR1
 obtain ⟨s2, hR2, h2⟩ := h1 a1 w1 hR1
 refine ops_pre (n := n) (l2 := l3) hm hF (Q := fun e a' w' => ∃ s', (K e s' ∨ EscS Γ e s') ∧ R Γ s' a' w') h2 hR2 ?_ fun e s' a' w' h1 h2 => ⟨s', .inr h1, h2⟩
 intro s3 a3 w3 h3 hR3
 obtain ⟨s4, hR4, h4⟩ := h3 a3 w3 hR3
 have := ops_sound (n := n) hm hF (Q := fun e a' w' => ∃ s', (K e s' ∨ EscS Γ e s') ∧ R Γ s' a' w') h4 hR4 (fun s' a' w' h1 h2 => ⟨s', .inl h1, h2⟩) fun e s' a' w' h1 h2 => ⟨s', .inr h1, h2⟩
 simpa using this
end
structure SCtx (c : SP) (Own : Nat → Prop) (we : World) (kt ku : Nat) (Γ : Ctx) : Prop extends UCtx c.pv Own we Γ where
 at1 : Γ.β0 kt = some ⟨c.bt, 1, 1, 1, false⟩
 at2 : Γ.β0 ku = some ⟨c.bu, 1, c.tu, 64, false⟩
 ft : kt ∈ Γ.fx
 fu : ku ∈ Γ.fx
 ne : kt ≠ ku
section
variable {c : SP} {pv : List (PV × Value)} {Own : Nat → Prop} {we : World} {kt ku : Nat} {Γ : Ctx} {s : St} {a : Act} {w : World}
theorem heap_set1 {w : World} {b : Nat} {o o' : Obj} (h : w.heap[b]? = some o) : ({ w with heap := w.heap.setIfInBounds b o' } : World).heap[b]? = some o' ∧ ∀ b', b' ≠ b → ({ w with heap := w.heap.setIfInBounds b o' } : World).heap[b']? = w.heap[b']? := MapKept.heap_set h
theorem serve_after (hG : UCtx pv Own we Γ) {X : Nat → Prop} {β : BM} (h : Rl (Γ.atX X) s a.tmps w β) (g : Gh Γ X β s a.defers w) {us : List ARow} (hgh : s.get Γ.N = .gh (usCode us) false) (h64 : us.length = 64)
   {bi1 : BI} (ht' : β kt = some bi1) (hb1 : bi1.b = c.bt) (hv1 : bi1.virt = false) (hu' : β ku = some ⟨c.bu, 1, c.tu, 64, false⟩) {T : Nat} (ht : s.blk kt = some (cellA T)) (hu : s.blk ku = some (.row 1 (usPV us))) (hne : c.bt ≠ c.bu)
   {b : Bool} {T' : Nat} {us' : List ARow} {w' : World} (hp : SPost c us w T' us' w') {d : Nat} (hd : d < Γ.N) : R Γ (((((s.set kt (cellA T')).set ku (.row 1 (usPV us'))).put d (.bool b)).put Γ.N (.gh (usCode us') false))) (a.put (some d) (.bool b)) w' := by
 have hj0 := g.gh hG.on _ _ hgh
 rw [hG.J] at hj0
 obtain ⟨b1, b2, b4, b3⟩ := hj0
 have RW := b3 us rfl
 have bt1 := h.blks kt
 rw [ht', ht] at bt1
 have bu1 := h.blks ku
 rw [hu', hu] at bu1
 obtain ⟨_, cs1, e1, fz1, q1, q2, q3, q4, q5⟩ := bt1
 rw [hb1] at q1
 have q3 : cs1.size = 1 := q3
 obtain ⟨_, _, _, _, w5⟩ := bu1
 rcases w5 with ⟨e, _⟩ | ⟨_, cs2, e2, fz2, w1, w2, w3, w4, w6⟩
 · cases e
 have w1 : w.heap[c.bu]? = some (.cells cs2 e2 fz2) := w1
 have w3 : c.tu = cs2.size := w3
 have hEt : Ex β c.bt := ⟨kt, _, ht', hv1, hb1⟩
 have hEu : Ex β c.bu := ⟨ku, _, hu', rfl, rfl⟩
 -- the blocks of the call's own are put in their new state one after the other
 obtain ⟨cs1', e1', fz1', r1, r2, r3, r4⟩ := hp.ct
 obtain ⟨h64', hn64', cs2', e2', fz2', v1, v2, v3, v4⟩ := hp.cu
 obtain ⟨wa, hwa⟩ : ∃ wa : World, wa = { w with heap := w.heap.setIfInBounds c.bt (.cells cs1' e1' fz1') } := ⟨_, rfl⟩
 have a1 : wa.heap[c.bt]? = some (.cells cs1' e1' fz1') := by rw [hwa]; exact (heap_set1 q1).1
 have a2 : ∀ b', b' ≠ c.bt → wa.heap[b']? = w.heap[b']? := by rw [hwa]; exact (heap_set1 q1).2
 have az : wa.heap.size = w.heap.size := by rw [hwa]; simp
 have ha := h.upd (w' := wa) ht' hv1 az (by rw [hb1]; exact a2) (by rw [hwa]) (by rw [hwa]; exact tpr) (by rw [hwa]) (blk := cellA T') (by simp [cellA, Blk.keys, AV.keysL, AV.keys]) fun had =>
   ⟨hv1, cs1', e1', fz1', by rw [hb1]; exact a1, r2, r3, by rw [q4, r3, q3], fun j av hj => by
     match j, hj with
     | 0, hj => cases hj; rw [r4]; exact ⟨.pure _ _ (.val _), rfl⟩⟩
 have w1a : wa.heap[c.bu]? = some (.cells cs2 e2 fz2) := (a2 _ (Ne.symm hne)).trans w1
 obtain ⟨wb, hwb⟩ : ∃ wb : World, wb = { wa with heap := wa.heap.setIfInBounds c.bu (.cells cs2' e2' fz2') } := ⟨_, rfl⟩
 have c1 : wb.heap[c.bu]? = some (.cells cs2' e2' fz2') := by rw [hwb]; exact (heap_set1 w1a).1
 have c2 : ∀ b', b' ≠ c.bu → wb.heap[b']? = wa.heap[b']? := by rw [hwb]; exact (heap_set1 w1a).2
 have cz : wb.heap.size = wa.heap.size := by rw [hwb]; simp
 have hb := ha.upd (w' := wb) hu' rfl cz c2 (by rw [hwb]) (by rw [hwb]; exact tpr) (by rw [hwb]) (blk := .row 1 (usPV us')) (by simp [Blk.keys]) fun had =>
   ⟨rfl, by omega, by simp [usPV, h64'], fun i row hi => by
     simp only [usPV, List.getElem?_map, Option.map_eq_some_iff] at hi
     obtain ⟨r, _, rfl⟩ := hi
     rfl, .inr ⟨rfl, cs2', e2', fz2', c1, v2, v3.symm, by simpa [usPV, h64'] using hn64', fun i row j p hi hj => by
     have hil : i < us'.length := by have := (List.getElem?_eq_some_iff.1 hi).1; simpa [usPV] using this
     have hrow : (usPV us')[i]? = some [PV.val us'[i].val] := by simp [usPV, hil]
     rw [hrow] at hi
     cases hi
     match j, hj with
     | 0, hj =>
       cases hj
       have := v4 i hil
       rw [Nat.mul_one, Nat.add_zero, this]
       exact ⟨.val _, ARow.one _⟩⟩⟩
 have hOwn : ∀ b', OwnS c us b' → b' = c.bt ∨ b' = c.bu ∨ X b' := fun b' hb' => by
   rcases hb' with rfl | rfl | ⟨r, hr, hrn, rfl⟩
   · exact .inl rfl
   · exact .inr (.inl rfl)
   · exact .inr (.inr (RW.here r hr hrn).2.1)
 have hos : wb.os = w.os := by rw [hwb, hwa]
 have htp : wb.tape = w.tape ∧ wb.drawn = w.drawn := by rw [hwb, hwa]; exact ⟨rfl, rfl⟩
 have hout : wb.output = w.output := by rw [hwb, hwa]
 have hkb : Kp X wb w' := ⟨hp.kp.os.trans hos.symm, ⟨hp.kp.tape.eq.trans htp.1.symm, by rw [htp.2]; exact hp.kp.tape.le⟩, hp.kp.output.trans hout.symm, by rw [cz, az]; exact hp.kp.size, fun b' hb' hx' => by
   by_cases f1 : b' = c.bu
   · subst f1; rw [c1, v1]
   · rw [c2 b' f1]
     by_cases f2 : b' = c.bt
     · subst f2; rw [a1, r1]
     · rw [a2 b' f2]
       refine hp.kp.block b' (by rw [← az, ← cz]; exact hb') fun ho' => ?_
       rcases hOwn b' ho' with hh | hh | hh
       · exact f2 hh
       · exact f1 hh
       · exact hx' hh⟩
 obtain ⟨X', hX'⟩ : ∃ X' : Nat → Prop, X' = fun b' => X b' ∨ (w.heap.size ≤ b' ∧ b' < w'.heap.size) := ⟨_, rfl⟩
 have hsz : w.heap.size ≤ w'.heap.size := hp.kp.size
 have hd1 := Rl.others (X' := X') hb hkb (fun _ hh => hh) (fun b' hb' _ => by rw [hG.w0] at hb'; exact absurd hb' (Nat.not_lt_zero _)) (fun b' hb' hh => by
   rw [hX'] at hh
   rcases hh with hh | hh
   · exact hh
   · rw [cz, az] at hb'; omega) (fun b' hh => by
   rw [hX'] at hh
   rcases hh with hh | hh
   · exact Nat.lt_of_lt_of_le (h.Xlt b' hh) hsz
   · exact hh.2)
 have hd2 := (hd1.put (Γ := Γ.atX X') (d := d) (v := .bool b) (u := .bool b) hd (.pure _ _ (.val _)) (by simp [AV.keys])).putSame (d := Γ.N) (v := .gh (usCode us') false) (.gh _ _ _) (by simp [AV.keys])
 refine ⟨X', β, hd2, ?_⟩
 exact
 { sub := fun x hx => (hG.X x hx).elim
   old := fun x hx => by rw [hG.w0] at hx; exact absurd hx (Nat.not_lt_zero _)
   lone := g.lone
   gh := fun _ j' t' hj' => by
     rw [St.get_put, if_pos rfl] at hj'
     cases hj'
     rw [hG.J]
     have hown : ∀ b', OwnS c us b' → Own b' ∨ we.heap.size ≤ b' := fun b' hb' => by
       rcases hb' with rfl | rfl | ⟨r, hr, hrn, rfl⟩
       · exact b2 _ hEt
       · exact b2 _ hEu
       · exact (RW.here r hr hrn).2.2.2.1
     refine ⟨uBase_kp b1 hown hp.kp, b2, fun q hq => (b4 q hq).mono ⟨hsz, fun b' hb' hn' => ⟨hp.kp.block b' hb' fun ho' => ?_, fun hh => ?_⟩⟩, fun vs e => ?_⟩
     · rcases hOwn b' ho' with rfl | rfl | hh
       · exact hn' (.inr hEt)
       · exact hn' (.inr hEu)
       · exact hn' (.inl hh)
     · rw [hX'] at hh
       rcases hh with (hh | hh) | hh
       · exact hn' (.inl hh)
       · omega
       · exact hn' (.inr hh)
     · have e := (usCode_inj e).symm
       subst e
       refine ⟨fun r hr hrn => ?_, hp.dj⟩
       obtain ⟨d1, d2, d3, d4, d5⟩ := hp.rows r hr hrn
       refine ⟨d1, ?_, ?_, ?_, d5⟩
       · rw [hX']
         rcases d2 with d2 | d2
         · rcases hOwn _ d2 with hh | hh | hh
           · exact absurd hh d3
           · exact absurd hh d4
           · exact .inl hh
         · exact .inr ⟨d2, d5⟩
       · rintro ⟨k, bi, hk', hv', hbb⟩
         have hbl := h.lt k bi hk' hv'
         rcases d2 with d2 | d2
         · rcases hOwn _ d2 with hh | hh | hh
           · exact d3 hh
           · exact d4 hh
           · exact h.notX k bi hk' hv' (hbb ▸ hh)
         · omega
       · rcases d2 with d2 | d2
         · exact hown _ d2
         · exact .inr (Nat.le_trans b1.size d2)
   marks := marksN (a := a) g hG.on }
theorem StepW.serve {F : Fence} {n : Nat} (hF : FOK F) (hG : SCtx c Own we kt ku Γ) {us : List ARow} (hgh : s.get Γ.N = .gh (usCode us) false) {T : Nat} (ht : s.blk kt = some (cellA T)) (hu : s.blk ku = some (.row 1 (usPV us))) (h64 : us.length = 64)
   {o : Oper} {cl : Call} (ho : o.op = .call cl) {fo : Operand} (hc : cl.callee = .value fo) (hfo : s.geto fo = .pure (.val c.fv)) {x : Operand} (hargs : cl.args = #[x]) {i : Nat} (hx : s.geto x = .int i) {d : Nat} (hdst : o.dst = some d) (hd : d < Γ.N)
   {Q : Bool → Nat → List (List Nat) → Prop} (hS : SSpec Γ.P c.f c.p1 c.p2 i T (us.map ARow.xs) Q) {C : St → Prop}
   (hk : ∀ b T' us', us'.length = 64 → (b = false → us' = us) → Q b T' (us'.map ARow.xs) → C (((((s.set kt (cellA T')).set ku (.row 1 (usPV us'))).put d (.bool b)).put Γ.N (.gh (usCode us') false)))) : StepW F n Γ s o C := by
 intro a w next Q0 hR hnext
 obtain ⟨X, β, h, g⟩ := hR
 have hj0 := g.gh hG.on _ _ hgh
 rw [hG.J] at hj0
 obtain ⟨b1, b2, b4, b3⟩ := hj0
 have RW := b3 us rfl
 have ht' : β kt = some ⟨c.bt, 1, 1, 1, false⟩ := (h.fixd kt hG.ft).trans hG.at1
 have hu' : β ku = some ⟨c.bu, 1, c.tu, 64, false⟩ := (h.fixd ku hG.fu).trans hG.at2
 have hne : c.bt ≠ c.bu := fun e => hG.ne (h.inj kt ku _ _ ht' hu' rfl rfl e)
 have bt1 := h.blks kt
 rw [ht', ht] at bt1
 have bu1 := h.blks ku
 rw [hu', hu] at bu1
 obtain ⟨_, cs1, e1, fz1, q1, q2, q3, q4, q5⟩ := bt1
 obtain ⟨_, _, _, _, w5⟩ := bu1
 rcases w5 with ⟨e, _⟩ | ⟨_, cs2, e2, fz2, w1, w2, w3, w4, w6⟩
 · cases e
 have w1 : w.heap[c.bu]? = some (.cells cs2 e2 fz2) := w1
 have w3 : c.tu = cs2.size := w3
 have hct : CellAt c.bt T w := ⟨cs1, e1, fz1, q1, q2, q3, ((q5 0 _ rfl).1).val_inv⟩
 have hn64 : 64 ≤ c.tu := by
   have w4 : (usPV us).length * 1 ≤ c.tu := w4
   rw [usPV, List.length_map, h64] at w4
   omega
 have hcu : UsAt c.bu c.tu us w := ⟨h64, hn64, cs2, e2, fz2, w1, w2, w3.symm, fun r hr => by
   have hrow : (usPV us)[r]? = some [PV.val us[r].val] := by simp [usPV, hr]
   have := (w6 r _ 0 _ hrow rfl).1.val_inv
   simpa using this⟩
 have hEt : Ex β c.bt := ⟨kt, _, ht', rfl, rfl⟩
 have hEu : Ex β c.bu := ⟨ku, _, hu', rfl, rfl⟩
 have hpre : SPre Γ.P c T us (fun b => X b ∨ Ex β b) w :=
 { pr := b4
   xt := .inr hEt
   xu := .inr hEu
   ne := hne
   lt := fun b hb => by
     rcases hb with hb | ⟨k, bi, hk, hv, rfl⟩
     · exact h.Xlt b hb
     · exact h.lt k bi hk hv
   ct := hct
   cu := hcu
   rows := fun r hr hrn => by
     obtain ⟨d1, d2, d3, d4, d5⟩ := RW.here r hr hrn
     exact ⟨d1, .inl d2, fun e => d3 (e ▸ hEt), fun e => d3 (e ▸ hEu)⟩
   dj := RW.dj
   glob := h.glob }
 have hcalls := hS.2 c us _ w rfl rfl rfl rfl hpre
 have hev : a.eval fo = c.fv := by
   have := geto_AR h fo
   rw [hfo] at this
   exact this.val_inv
 have hxv : a.eval x = .int .i64 i := by
   have := geto_AR h x
   rw [hx] at this
   exact this.val_inv
 refine ⟨fun f _ => hF.fn f, ?_⟩
 rw [Oper.semAt_eq _ _ _ (by rw [ho]; intro c; simp)]
 rw [call_run (Γ := Γ) ho hc hev hS.1, hargs]
 have hvs : (#[] ++ (#[x] : Array Operand).map a.eval ++ #[c.pa, .pointer (some ⟨c.bt, 0, none⟩), .pointer (some ⟨c.bu, 0, none⟩), c.pp, c.ps] : Array Value) = #[.int .i64 (i : Int), c.pa, .pointer (some ⟨c.bt, 0, none⟩), .pointer (some ⟨c.bu, 0, none⟩), c.pp, c.ps] := by
   simp [hxv]
 rw [hvs]
 refine ⟨fun hn => (by rw [hF.depth] at hn; cases hn), hF.calls _ _ _ _ _ _ (hcalls.mono ?_)⟩
 rintro e w' ⟨b, T', us', rfl, hBf, hQ, hp⟩
 exact hnext _ _ _ (by rw [hdst]; exact serve_after hG.toUCtx h g hgh h64 ht' rfl rfl hu' ht hu hne hp hd) (hk b T' us' (by exact hp.cu.1) hBf hQ)
end
section
variable {pv : List (PV × Value)} {Own : Nat → Prop} {we : World} {Γ : Ctx} {s : St}
theorem Turn.take (hG : UCtx pv Own we Γ) {us : List ARow} (hgh : s.get Γ.N = .gh (usCode us) false) {r : Nat} (hr : r < us.length) (hne : us[r].xs ≠ []) {k : Nat} (hk : freshIn k s.used = true) (hfx : freshIn k Γ.fx = true) {t : Nat} (ht : t ≠ Γ.N) (hv : s.get t = .pure (.val us[r].val)) {C : St → Prop}
   (h : C (((s.new k (.row 1 (rowPV us[r].xs))).put t (.lsl k 0 us[r].xs.length)).put Γ.N (.gh (usCode (us.set r nilRow)) false))) : Turn Γ s C := fun _ _ hR => ⟨_, hR.takeRow hG hgh hr hne (freshIn_spec hk) (freshIn_spec hfx) ht hv, h⟩
theorem Turn.give (hG : UCtx pv Own we Γ) {us : List ARow} (hgh : s.get Γ.N = .gh (usCode us) false) {r : Nat} (hr : r < us.length) (hnil : us[r].xs = []) {k : Nat} (hfx : freshIn k Γ.fx = true) {xs : List Nat} (hne : xs ≠ []) (hblk : s.blk k = some (.row 1 (rowPV xs)))
   {t : Nat} (ht : t ≠ Γ.N) (hv : s.get t = .lsl k 0 xs.length) {C : St → Prop} (h : ∀ b cap, C (((s.kill k).put t (.pure (.val (ARow.val ⟨b, cap, xs⟩)))).put Γ.N (.gh (usCode (us.set r ⟨b, cap, xs⟩)) false))) : Turn Γ s C := fun _ _ hR => by
 obtain ⟨b, cap, h1⟩ := hR.giveRow hG hgh hr hnil (freshIn_spec hfx) hne hblk ht hv
 exact ⟨_, h1, h b cap⟩
end
def startS (c : SP) (us : List ARow) (T i kt ku N : Nat) : St :=
 ⟨[(N, .gh (usCode us) false), (0, .int i), (1, .pure c.p1), (2, .loc kt 0 0), (3, .loc ku 0 0), (4, .pure c.p2), (5, .pure (.ptr [.val c.fv]))], [(kt, some (cellA T)), (ku, some (.row 1 (usPV us)))], [kt, ku]⟩
def endS (us : List ARow) (Q : Bool → Nat → List (List Nat) → Prop) (tr kt ku N : Nat) (e : Exit) (s : St) : Prop := match e with
 | .normal => ∃ b T' us', us'.length = 64 ∧ (b = false → us' = us) ∧ s.get N = .gh (usCode us') false ∧ s.get tr = .bool b ∧ s.blk kt = some (cellA T') ∧ s.blk ku = some (.row 1 (usPV us')) ∧ Q b T' (us'.map ARow.xs)
 | .ret => ∃ b T' us', us'.length = 64 ∧ (b = false → us' = us) ∧ s.get N = .gh (usCode us') false ∧ s.get tr = .bool b ∧ s.blk kt = some (cellA T') ∧ s.blk ku = some (.row 1 (usPV us')) ∧ Q b T' (us'.map ARow.xs)
 | _ => False
theorem SSpec.of_wp {P : Program} {f : FuncId} {fn : Func} {c0 : Code} (hf : P.funcs[f]? = some fn) (hb : fn.body = some c0) (hcall : ∀ (vs : Array Value) (w : World), (callFunc f vs).run P w = .ok (.enter f vs) w) (hl : 6 ≤ fn.ntmps) {tr : Nat} (hres : fn.results = #[.tmp tr])
   {kt ku : Nat} (hktu : kt ≠ ku) {p1 p2 : PV} {i T : Nat} {U : List (List Nat)} {Q : Bool → Nat → List (List Nat) → Prop}
   (h : ∀ (c : SP) (us : List ARow) (Own : Nat → Prop) (we : World) (Γ : Ctx), c.f = f → c.p1 = p1 → c.p2 = p2 → us.map ARow.xs = U → us.length = 64 → Γ.P = P → Γ.N = fn.ntmps → Γ.fx = [kt, ku] → Γ.pk = none → SCtx c Own we kt ku Γ →
     Wp Γ Fence.wide 0 c0 (startS c us T i kt ku Γ.N) (endS us Q tr kt ku Γ.N)) : SSpec P f p1 p2 i T U Q := by
 refine ⟨hcall, fun c us X w hcf hc1 hc2 hU hp => ?_⟩
 refine (callsIn_wide (n := 0)).1 (callsIn_of_wp_marks hf hb trivial ?_)
 obtain ⟨β0, hβ0⟩ : ∃ β0 : BM, β0 = fun k => if k = kt then some ⟨c.bt, 1, 1, 1, false⟩ else if k = ku then some ⟨c.bu, 1, c.tu, 64, false⟩ else none := ⟨_, rfl⟩
 have bkt : β0 kt = some ⟨c.bt, 1, 1, 1, false⟩ := by rw [hβ0]; simp
 have bku : β0 ku = some ⟨c.bu, 1, c.tu, 64, false⟩ := by rw [hβ0]; simp [Ne.symm hktu]
 have bno : ∀ k bi, β0 k = some bi → (k = kt ∧ bi = ⟨c.bt, 1, 1, 1, false⟩) ∨ (k = ku ∧ bi = ⟨c.bu, 1, c.tu, 64, false⟩) := fun k bi hk => by
   rw [hβ0] at hk
   by_cases e1 : k = kt
   · subst e1; simp at hk; exact .inl ⟨rfl, hk.symm⟩
   · by_cases e2 : k = ku
     · subst e2; simp [e1] at hk; exact .inr ⟨rfl, hk.symm⟩
     · simp [e1, e2] at hk
 have hEx : ∀ b, Ex β0 b ↔ b = c.bt ∨ b = c.bu := fun b => by
   constructor
   · rintro ⟨k, bi, hk, _, rfl⟩
     rcases bno k bi hk with ⟨_, rfl⟩ | ⟨_, rfl⟩
     · exact .inl rfl
     · exact .inr rfl
   · rintro (rfl | rfl)
     · exact ⟨kt, _, bkt, rfl, rfl⟩
     · exact ⟨ku, _, bku, rfl, rfl⟩
 let Γ : Ctx := ⟨P, fn.ntmps, { w with heap := #[] }, fun _ => False, β0, [kt, ku], uY P c.pv (OwnS c us) w, (fun _ b hb => hb.elim), none, []⟩
 have hG : SCtx c (OwnS c us) w kt ku Γ := { on := rfl, J := rfl, df := rfl, w0 := rfl, X := fun _ h => h, at1 := bkt, at2 := bku, ft := by simp [Γ], fu := by simp [Γ], ne := hktu }
 have hs := h c us (OwnS c us) w Γ hcf hc1 hc2 hU hp.cu.1 rfl rfl rfl rfl hG
 obtain ⟨X1, hX1⟩ : ∃ X1 : Nat → Prop, X1 = fun b => X b ∧ b ≠ c.bt ∧ b ≠ c.bu := ⟨_, rfl⟩
 have hAv : ∀ b, Av X1 β0 b → X b := fun b hb => by
   rcases hb with hb | hb
   · rw [hX1] at hb; exact hb.1
   · rcases (hEx b).1 hb with rfl | rfl
     · exact hp.xt
     · exact hp.xu
 have had : Ad w X w (Av X1 β0) := ⟨Nat.le_refl _, fun b _ hn => ⟨rfl, fun hh => hn (hAv b hh)⟩⟩
 obtain ⟨csT, eT, fzT, t1, t2, t3, t4⟩ := hp.ct
 obtain ⟨h64, hn64, csU, eU, fzU, u1, u2, u3, u4⟩ := hp.cu
 obtain ⟨vs, hvs⟩ : ∃ vs : Array Value, vs = #[.int .i64 (i : Int), c.pa, .pointer (some ⟨c.bt, 0, none⟩), .pointer (some ⟨c.bu, 0, none⟩), c.pp, c.ps] := ⟨_, rfl⟩
 rw [← hvs]
 have hR : R Γ (startS c us T i kt ku Γ.N) { tmps := vs ++ Array.replicate (fn.ntmps - vs.size) undef, defers := [] } w := by
   have hvz : vs.size = 6 := by rw [hvs]; rfl
   have hslot : ∀ t, AR w (Av X1 β0) β0 ((startS c us T i kt ku Γ.N).get t) (vs.getD t undef) := fun t => by
     simp only [startS, St.get, lk_cons]
     by_cases eN : Γ.N = t
     · rw [if_pos eN]; exact .gh _ _ _
     rw [if_neg eN]
     by_cases e0 : 0 = t
     · subst e0; rw [if_pos rfl, hvs]; exact .pure _ _ (.val _)
     rw [if_neg e0]
     by_cases e1 : 1 = t
     · subst e1; rw [if_pos rfl, hvs]; exact .pure _ _ ((hp.pr (c.p1, c.pa) (by simp [SP.pv])).mono had)
     rw [if_neg e1]
     by_cases e2 : 2 = t
     · subst e2; rw [if_pos rfl, hvs]
       have := AR.loc (w := w) (A := Av X1 β0) kt 0 0 _ bkt
       simpa using this
     rw [if_neg e2]
     by_cases e3 : 3 = t
     · subst e3; rw [if_pos rfl, hvs]
       have := AR.loc (w := w) (A := Av X1 β0) ku 0 0 _ bku
       simpa using this
     rw [if_neg e3]
     by_cases e4 : 4 = t
     · subst e4; rw [if_pos rfl, hvs]; exact .pure _ _ ((hp.pr (c.p2, c.pp) (by simp [SP.pv])).mono had)
     rw [if_neg e4]
     by_cases e5 : 5 = t
     · subst e5; rw [if_pos rfl, hvs]; exact .pure _ _ ((hp.pr (.ptr [.val c.fv], c.ps) (by simp [SP.pv])).mono had)
     rw [if_neg e5]
     exact .junk _
   refine ⟨X1, β0, ?_, fun b hb => hb.elim, fun b hb => absurd hb (Nat.not_lt_zero _), fun _ j t hj => ?_, fun _ => rfl, ⟨[], rfl, List.nodup_nil, fun d hd => by cases hd⟩⟩
   · refine
     { size := by show (vs ++ Array.replicate (fn.ntmps - vs.size) undef).size = fn.ntmps; rw [Array.size_append, Array.size_replicate]; omega
       slots := fun t => by
         show AR w (Av X1 β0) β0 _ ((vs ++ Array.replicate (fn.ntmps - vs.size) undef).getD t undef)
         rw [frame_getD]; exact hslot t
       blks := fun k => ?_
       inj := fun k k' bi bi' hk hk' _ _ hbb => by
         rcases bno k bi hk with ⟨rfl, rfl⟩ | ⟨rfl, rfl⟩ <;> rcases bno k' bi' hk' with ⟨rfl, rfl⟩ | ⟨rfl, rfl⟩
         · rfl
         · exact absurd hbb hp.ne
         · exact absurd hbb.symm hp.ne
         · rfl
       lt := fun k bi hk _ => by
         rcases bno k bi hk with ⟨_, rfl⟩ | ⟨_, rfl⟩
         · exact hp.lt _ hp.xt
         · exact hp.lt _ hp.xu
       notX := fun k bi hk _ hx => by
         have hx : X1 bi.b := hx
         rw [hX1] at hx
         rcases bno k bi hk with ⟨_, rfl⟩ | ⟨_, rfl⟩
         · exact hx.2.1 rfl
         · exact hx.2.2 rfl
       own := fun k bi hk hv => .inl (Nat.zero_le _)
       fixd := fun k _ => rfl
       used1 := fun t k hk => by
         simp only [startS, St.get, lk_cons] at hk ⊢
         split at hk
         · simp [AV.keys] at hk
         split at hk
         · simp [AV.keys] at hk
         split at hk
         · simp [AV.keys] at hk
         split at hk
         · simp [AV.keys] at hk; subst hk; simp
         split at hk
         · simp [AV.keys] at hk; subst hk; simp
         split at hk
         · simp [AV.keys] at hk
         split at hk
         · simp [AV.keys] at hk
         · simp [lk, AV.keys] at hk
       used2 := fun k b hk => by
         simp only [startS, St.blk, lk_cons] at hk ⊢
         by_cases e1 : kt = k
         · subst e1
           rw [if_pos rfl] at hk
           cases hk
           exact ⟨by simp, by simp [cellA, Blk.keys, AV.keysL, AV.keys]⟩
         · rw [if_neg e1] at hk
           by_cases e2 : ku = k
           · subst e2
             rw [if_pos rfl] at hk
             cases hk
             exact ⟨by simp, by simp [Blk.keys]⟩
           · rw [if_neg e2] at hk
             simp [lk] at hk
       keep := ⟨rfl, tpr, rfl, Nat.zero_le _, fun b hb => absurd hb (Nat.not_lt_zero _)⟩
       Xlt := fun b hb => by
         have hb : X1 b := hb
         rw [hX1] at hb
         exact hp.lt b hb.1
       glob := hp.glob.mono had }
     simp only [startS, St.blk, lk_cons]
     by_cases e1 : kt = k
     · subst e1
       rw [if_pos rfl, bkt]
       exact ⟨rfl, csT, eT, fzT, t1, t2, t3, t3.symm, fun j av hj => by
         match j, hj with
         | 0, hj => cases hj; rw [t4]; exact ⟨.pure _ _ (.val _), rfl⟩⟩
     · rw [if_neg e1]
       by_cases e2 : ku = k
       · subst e2
         rw [if_pos rfl, bku]
         exact ⟨rfl, by omega, by simp [usPV, h64], fun r row hr => by
           simp only [usPV, List.getElem?_map, Option.map_eq_some_iff] at hr
           obtain ⟨r, _, rfl⟩ := hr
           rfl, .inr ⟨rfl, csU, eU, fzU, u1, u2, u3.symm, by simpa [usPV, h64] using hn64, fun r row j p hr hj => by
           have hil : r < us.length := by have := (List.getElem?_eq_some_iff.1 hr).1; simpa [usPV] using this
           have hrow : (usPV us)[r]? = some [PV.val us[r].val] := by simp [usPV, hil]
           rw [hrow] at hr
           cases hr
           match j, hj with
           | 0, hj =>
             cases hj
             rw [Nat.mul_one, Nat.add_zero, u4 r hil]
             exact ⟨.val _, ARow.one _⟩⟩⟩
       · rw [if_neg e2]
         have : β0 k = none := by rw [hβ0]; simp [Ne.symm e1, Ne.symm e2]
         rw [this]
         simp [lk, BO]
   · have hj' : (startS c us T i kt ku Γ.N).get Γ.N = .gh j t := hj
     simp only [startS, St.get, lk_cons, if_true, Option.getD_some] at hj'
     cases hj'
     refine ⟨Kp.refl _ _, fun b hb => ?_, fun q hq => (hp.pr q hq).mono had, fun vs' e => ?_⟩
     · rcases (hEx b).1 hb with rfl | rfl
       · exact .inl (.inl rfl)
       · exact .inl (.inr (.inl rfl))
     · have e := (usCode_inj e).symm
       subst e
       refine ⟨fun r hr hrn => ?_, hp.dj⟩
       obtain ⟨d1, d2, d3, d4⟩ := hp.rows r hr hrn
       refine ⟨d1, by rw [hX1]; exact ⟨d2, d3, d4⟩, fun hh => ?_, .inl (.inr (.inr ⟨r, hr, hrn, rfl⟩)), hp.lt _ d2⟩
       rcases (hEx _).1 hh with hh | hh
       · exact d3 hh
       · exact d4 hh
 refine wpIn_mono (hs _ w hR) ?_
 rintro e a' w' ⟨s', hK | ⟨_, _, hpk, _⟩, hr⟩
 case inr => cases hpk
 have fin : (∃ b T' us', us'.length = 64 ∧ (b = false → us' = us) ∧ s'.get Γ.N = .gh (usCode us') false ∧ s'.get tr = .bool b ∧ s'.blk kt = some (cellA T') ∧ s'.blk ku = some (.row 1 (usPV us')) ∧ Q b T' (us'.map ARow.xs)) →
     LeavesInM Fence.wide 0 P fn a'.tmps (fun e w'' => ∃ b T' us', e = .returned (.bool b) ∧ (b = false → us' = us) ∧ Q b T' (us'.map ARow.xs) ∧ SPost c us w T' us' w'') a'.defers .returning w' := by
   rintro ⟨b, T', us', f1, f0, f2, f3, f4, f5, f6⟩
   refine hr.leave rfl rfl fun X' β w'' hr' _ _ hg => ?_
   obtain ⟨j1, j2, j4, j3⟩ : uJ c.pv (OwnS c us) w (usCode us') false X' (Ex β) w'' := hg rfl _ _ f2
   have RW := j3 us' rfl
   have ht' : β kt = some ⟨c.bt, 1, 1, 1, false⟩ := (hr'.fixd kt hG.ft).trans bkt
   have hu' : β ku = some ⟨c.bu, 1, c.tu, 64, false⟩ := (hr'.fixd ku hG.fu).trans bku
   have hEt : Ex β c.bt := ⟨kt, _, ht', rfl, rfl⟩
   have hEu : Ex β c.bu := ⟨ku, _, hu', rfl, rfl⟩
   have bt1 := hr'.blks kt
   rw [ht', f4] at bt1
   have bu1 := hr'.blks ku
   rw [hu', f5] at bu1
   obtain ⟨_, cs1, e1, fz1, q1, q2, q3, q4, q5⟩ := bt1
   obtain ⟨_, _, _, _, w5⟩ := bu1
   rcases w5 with ⟨e, _⟩ | ⟨_, cs2, e2, fz2, w1, w2, w3, w4, w6⟩
   · cases e
   have hv2 : a'.tmps.getD tr undef = .bool b := by
     have := hr'.slots tr
     rw [f3] at this
     exact this.val_inv
   refine ⟨.bool b, by rw [results_eq, hres]; simp [resSem, hv2], b, T', us', rfl, f0, f6, ?_⟩
   exact
   { ct := ⟨cs1, e1, fz1, q1, q2, q3, ((q5 0 _ rfl).1).val_inv⟩
     cu := ⟨f1, hp.cu.2.1, cs2, e2, fz2, w1, w2, Eq.symm w3, fun r hr => by
       have hrow : (usPV us')[r]? = some [PV.val us'[r].val] := by simp [usPV, hr]
       have := (w6 r _ 0 _ hrow rfl).1.val_inv
       simpa using this⟩
     kp := j1
     rows := fun r hr2 hrn => by
       obtain ⟨d1, d2, d3, d4, d5⟩ := RW.here r hr2 hrn
       exact ⟨d1, d4, fun e => d3 (e ▸ hEt), fun e => d3 (e ▸ hEu), d5⟩
     dj := RW.dj }
 cases e with
 | normal => exact fin hK
 | ret => exact fin hK
 | exit id => exact hK.elim
 | goto l => exact hK.elim
 | panic c => exact hK.elim
 | outgrown => exact hK.elim
end Go.Avc
/- Elements of a row that lies aside, read and written. Conditions: none. -/
namespace Go.Avc
open Go.RowKit
section
variable {F : Fence} {n : Nat} {more : St → Oper → Kont → Prop} {Γ : Ctx} {s : St}
theorem StepW.of (hF : FOK F) {o : Oper} (hnd : ∀ c, o.op ≠ .defer c) {C : St → Prop} (h : StepOK Γ s o C) : StepW F n Γ s o C := fun a w next Q hR hn => by
 obtain ⟨v, w', s', r1, r2, r3⟩ := h a w hR
 exact wpIn_of_run hF hnd (v := v) (w' := w') r1 (hn s' _ w' r2 r3)
theorem Wp.atW2 (hm : MoreOK more Γ) (hF : FOK F) {id : Nat} {ops : Array Oper} {l1 l2 : List Oper} {o o2 : Oper} (hsp : ops.toList = l1 ++ o :: o2 :: l2) (hg : o.guard = none) (hg2 : o2.guard = none) {K : Exit → St → Prop}
   (h : opsVC false more Γ.P Γ.pk Γ.y Γ.N Γ.fx ops.toList l1 s fun s1 => StepW F n Γ s1 o fun s2 => StepW F n Γ s2 o2 fun s3 => opsVC false more Γ.P Γ.pk Γ.y Γ.N Γ.fx ops.toList l2 s3 (K .normal)) : Wp Γ F n (.region id ops false) s K := by
 intro a w hR
 refine wpIn_region_list ?_
 have hpre := ops_pre (n := n) (l2 := o :: o2 :: l2) hm hF (Q := fun e a' w' => ∃ s', (K e s' ∨ EscS Γ e s') ∧ R Γ s' a' w') h hR ?_ fun e s' a' w' h1 h2 => ⟨s', .inr h1, h2⟩
 · rw [← hsp] at hpre
   simpa using hpre
 intro s1 a1 w1 h1 hR1
 refine wpListIn_plain hg fun K' hK' => ?_
 refine h1 a1 w1 K' _ hR1 fun s2 a2 w2 r2 r3 => hK' _ _ ?_
 refine wpListIn_plain hg2 fun K2 hK2 => ?_
 refine r3 a2 w2 K2 _ r2 fun s3 a3 w3 r4 r5 => hK2 _ _ ?_
 have := ops_sound (n := n) hm hF (Q := fun e a' w' => ∃ s', (K e s' ∨ EscS Γ e s') ∧ R Γ s' a' w') r5 r4 (fun s' a' w' h1 h2 => ⟨s', .inl h1, h2⟩) fun e s' a' w' h1 h2 => ⟨s', .inr h1, h2⟩
 simpa using this
end
section
variable {pv : List (PV × Value)} {Own : Nat → Prop} {we : World} {Γ : Ctx} {s : St}
theorem StepOK.rowAddr (hG : UCtx pv Own we Γ) {o : Oper} {t et : TypeId} {x ix : Operand} (ho : o.op = .indexAddr t x ix) {d : Nat} (hdst : o.dst = some d) (hd : d < Γ.N) (ht : Γ.P.underlying t = some (.slice et)) (hz : szOf Γ.P et = some 1) {r : ARow} (hx : s.geto x = .pure (.val r.val)) {k : Nat} (hix : s.geto ix = .int k) (hk : k < r.xs.length) {C : St → Prop}
   (h : C (s.put d (.pure (.val (.pointer (some ⟨r.blk, k, none⟩)))))) : StepOK Γ s o C := by
 intro a w hR
 obtain ⟨X, β, hr, g⟩ := hR
 have hev : a.eval x = .slice (some ⟨r.blk, 0, none⟩) r.xs.length r.cap := by
   have := geto_AR hr x
   rw [hx] at this
   rw [this.val_inv, ARow.val_some (List.ne_nil_of_length_pos (by omega))]
 have hei : a.eval ix = .int .i64 k := by
   have := geto_AR hr ix
   rw [hix] at this
   exact this.val_inv
 refine ⟨.pointer (some ⟨r.blk, k, none⟩), w, _, ?_, ⟨X, β, by rw [hdst]; exact hr.put (Γ := Γ.atX X) (v := .pure (.val (.pointer (some ⟨r.blk, k, none⟩)))) hd (.pure _ _ (.val _)) (by simp [AV.keys]), g.sub, g.old, fun hon' i t hi => ?_, by rw [hdst]; exact g.lone, by rw [hdst]; exact g.marks⟩, h⟩
 · rw [show execOp a.eval o = (do pure (.value (← Instr.indexAt t (a.eval x) (a.eval ix)))) by simp only [execOp, ho], hev, hei]
   have h0 : (0 : Int) ≤ (k : Int) := by omega
   have h1 : (k : Int) < (r.xs.length : Int) := by omega
   simp only [Instr.indexAt, asIntOf, Sem.run_bind, Sem.run_pure, Result.andThen_ok, run_underlying ht, if_pos (And.intro h0 h1), run_sizeOf hz, Addr.add_lit]
   simp
 · rw [St.get_put, if_neg (Nat.ne_of_lt hd)] at hi
   exact g.gh hon' i t hi
theorem RowAt.cells {r : ARow} {w : World} (h : RowAt r w) (hne : r.xs ≠ []) : ∃ tot cs e fz, r.cap ≤ tot ∧ r.xs.length ≤ r.cap ∧ r.cap ≤ maxLen ∧ w.heap[r.blk]? = some (.cells cs e fz) ∧ NF cs fz ∧ tot = cs.size ∧ ∀ k (hk : k < r.xs.length), cs.getD k undef = .int .i64 (r.xs[k] : Int) := by
 obtain ⟨tot, h1, h2, h3, q1, q2, q3, q4, q5⟩ := h
 have hpos := List.length_pos_iff.2 hne
 rcases q5 with ⟨e, _⟩ | ⟨_, cs, e, fz, c1, c2, c3, c4, c5⟩
 · cases e
 refine ⟨tot, cs, e, fz, h1, h2, h3, c1, c2, by simpa using c3, fun k hk => ?_⟩
 have hrow : (rowPV r.xs)[k]? = some [PV.int r.xs[k]] := by simp [rowPV, hk]
 have := (c5 k _ 0 _ hrow rfl).1.val_inv
 simpa using this
theorem RowAt.of_cells {r : ARow} {w : World} {tot : Nat} {cs : Array Value} {e : TypeId} {fz : Nat × Nat} (h1 : r.cap ≤ tot) (h2 : r.xs.length ≤ r.cap) (h3 : r.cap ≤ maxLen) (c1 : w.heap[r.blk]? = some (.cells cs e fz)) (c2 : NF cs fz) (c3 : tot = cs.size) (c4 : ∀ k (hk : k < r.xs.length), cs.getD k undef = .int .i64 (r.xs[k] : Int)) : RowAt r w := by
 refine ⟨tot, h1, h2, h3, rfl, by omega, by simp [rowPV_len], fun i row hi => ?_, .inr ⟨rfl, cs, e, fz, c1, c2, by simpa using c3, by simp only [rowPV_len]; omega, fun i row j p hi hj => ?_⟩⟩
 · simp only [rowPV, List.getElem?_map, Option.map_eq_some_iff] at hi
   obtain ⟨x, _, rfl⟩ := hi
   rfl
 · have hil : i < r.xs.length := by have := (List.getElem?_eq_some_iff.1 hi).1; simpa [rowPV_len] using this
   have hrow : (rowPV r.xs)[i]? = some [PV.int r.xs[i]] := by simp [rowPV, hil]
   rw [hrow] at hi
   cases hi
   match j, hj with
   | 0, hj =>
     cases hj
     rw [Nat.mul_one, Nat.add_zero, c4 i hil]
     exact ⟨.val _, rfl⟩
theorem StepOK.rowLoad (hG : UCtx pv Own we Γ) {us : List ARow} (hgh : s.get Γ.N = .gh (usCode us) false) {r : Nat} (hr : r < us.length) {k : Nat} (hk : k < us[r].xs.length) {o : Oper} {t : TypeId} {x : Operand} (ho : o.op = .load t x) (ha : aggOf Γ.P t = some false) {d : Nat} (hdst : o.dst = some d) (hd : d < Γ.N)
   (hx : s.geto x = .pure (.val (.pointer (some ⟨us[r].blk, k, none⟩)))) {C : St → Prop} (h : C (s.put d (.int us[r].xs[k]))) : StepOK Γ s o C := by
 intro a w hR
 obtain ⟨X, β, h1, g⟩ := hR
 have hj0 := g.gh hG.on _ _ hgh
 rw [hG.J] at hj0
 obtain ⟨b1, b2, b4, b3⟩ := hj0
 have hne : us[r].xs ≠ [] := List.ne_nil_of_length_pos (by omega)
 obtain ⟨hat, _⟩ := (b3 us rfl).here _ (List.getElem_mem hr) hne
 obtain ⟨tot, cs, e, fz, d1, d2, d3, c1, c2, c3, c4⟩ := hat.cells hne
 have hev : a.eval x = .pointer (some ⟨us[r].blk, k, none⟩) := by
   have := geto_AR h1 x
   rw [hx] at this
   exact this.val_inv
 refine ⟨.int .i64 (us[r].xs[k] : Int), w, _, ?_, ⟨X, β, by rw [hdst]; exact h1.put (Γ := Γ.atX X) (v := .int us[r].xs[k]) hd (.pure _ _ (.val _)) (by simp [AV.keys]), g.sub, g.old, fun hon' i t hi => ?_, by rw [hdst]; exact g.lone, by rw [hdst]; exact g.marks⟩, h⟩
 · rw [show execOp a.eval o = (do pure (.value (← Instr.loadAt t (a.eval x)))) by simp only [execOp, ho], hev]
   have hc : w.cell? ⟨us[r].blk, k, none⟩ = some (.int .i64 (us[r].xs[k] : Int)) := by rw [getD_cell c1 (by omega), c4 k hk]
   simp only [Instr.loadAt, Instr.sureAddr, Sem.run_bind, Sem.run_pure, Result.andThen_ok, run_loadVar_one ha hc]
 · rw [St.get_put, if_neg (Nat.ne_of_lt hd)] at hi
   exact g.gh hon' i t hi
theorem StepW.rowStore {F : Fence} {n : Nat} (hF : FOK F) (hG : UCtx pv Own we Γ) {us : List ARow} (hgh : s.get Γ.N = .gh (usCode us) false) {r : Nat} (hr : r < us.length) {k : Nat} (hk : k < us[r].xs.length) {o : Oper} {t : TypeId} {x y : Operand} (ho : o.op = .store t x y) (hz : szOf Γ.P t = some 1) (hdst : o.dst = none)
   (hx : s.geto x = .pure (.val (.pointer (some ⟨us[r].blk, k, none⟩)))) {i : Nat} (hy : s.geto y = .int i) {C : St → Prop} (h : C (s.put Γ.N (.gh (usCode (us.set r ⟨us[r].blk, us[r].cap, us[r].xs.set k i⟩)) false))) : StepW F n Γ s o C := by
 intro a w next Q hR hnext
 obtain ⟨X, β, h1, g⟩ := hR
 have hj0 := g.gh hG.on _ _ hgh
 rw [hG.J] at hj0
 obtain ⟨b1, b2, b4, b3⟩ := hj0
 have RW := b3 us rfl
 have hne : us[r].xs ≠ [] := List.ne_nil_of_length_pos (by omega)
 obtain ⟨hat, hxb, heb, hob, hlb⟩ := RW.here _ (List.getElem_mem hr) hne
 obtain ⟨tot, cs, e, fz, d1, d2, d3, c1, c2, c3, c4⟩ := hat.cells hne
 have hev : a.eval x = .pointer (some ⟨us[r].blk, k, none⟩) := by
   have := geto_AR h1 x
   rw [hx] at this
   exact this.val_inv
 have hyv : a.eval y = .int .i64 i := by
   have := geto_AR h1 y
   rw [hy] at this
   exact this.val_inv
 obtain ⟨w', cs', r1, r2, r3, r4, r5, r6, r7, r8, r9⟩ := run_stores Γ.P us[r].blk e fz [.int .i64 (i : Int)] k 0 cs w c1 c2 (by simp; omega) (by simp; rfl)
 have hkp : Kp (fun b => b = us[r].blk) w w' := ⟨r7, r8, r9, Nat.le_of_eq r5.symm, fun b hb hn => r6 b hn⟩
 have h2 := Rl.others (X' := X) (Γ := Γ) h1 hkp (fun b (e : b = us[r].blk) => by rw [e]; exact hxb) (fun b hb _ => by rw [hG.w0] at hb; exact absurd hb (Nat.not_lt_zero _)) (fun b _ hh => hh) (fun b hb => by rw [r5]; exact h1.Xlt b hb)
 have h3 := h2.putSame (Γ := Γ.atX X) (d := Γ.N) (v := .gh (usCode (us.set r ⟨us[r].blk, us[r].cap, us[r].xs.set k i⟩)) false) (.gh _ _ _) (by simp [AV.keys])
 refine wpIn_of_skip hF (by rw [ho]; intro c; simp) (w' := w') ?_ (hnext _ _ _ ⟨X, β, by rw [hdst]; exact h3, ?_⟩ h)
 · rw [show execOp a.eval o = (do Instr.storeAt t (a.eval x) (a.eval y); pure .skip) by simp only [execOp, ho], hev, hyv]
   have hl : (Value.int .i64 (i : Int)).cells.size = 1 := rfl
   have hcl : (Value.int .i64 (i : Int)).cells.toList = [.int .i64 (i : Int)] := rfl
   simp only [Instr.storeAt, Instr.sureAddr, Sem.run_bind, Sem.run_pure, Result.andThen_ok, run_storeVar hz hl, hcl, r1]
 exact
 { sub := g.sub
   old := g.old
   lone := by rw [hdst]; exact g.lone
   gh := fun _ j' t' hj' => by
     rw [St.get_put, if_pos rfl] at hj'
     cases hj'
     rw [hG.J]
     refine ⟨uBase_kp b1 (fun b (e : b = us[r].blk) => by rw [e]; exact hob) hkp, b2, fun q hq => (b4 q hq).mono ⟨Nat.le_of_eq r5.symm, fun b hb hn => ⟨r6 b fun e => hn (.inl (by rw [e]; exact hxb)), fun hh => hn hh⟩⟩, fun vs e => ?_⟩
     have e := (usCode_inj e).symm
     subst e
     refine ⟨fun y hy hyn => ?_, fun i1 j1 hi hj hij g1 g2 => ?_⟩
     · obtain ⟨i1, hi, rfl⟩ := List.getElem_of_mem hy
       have hi' : i1 < us.length := by simpa using hi
       rw [List.getElem_set] at hyn ⊢
       by_cases ei : r = i1
       · rw [if_pos ei]
         refine ⟨RowAt.of_cells (tot := tot) d1 (by simpa using d2) d3 r2 (fun j hj => c2 j (by omega)) (by omega) fun k' hk' => ?_, hxb, heb, hob, by rw [r5]; exact hlb⟩
         have hk2 : k' < us[r].xs.length := by simpa using hk'
         rw [r4 k']
         simp only [List.getElem_set]
         by_cases ek : k = k'
         · subst ek
           simp
         · rw [if_neg (by simp; omega), if_neg ek]
           exact c4 k' hk2
       · rw [if_neg ei] at hyn ⊢
         obtain ⟨d1, d2, d3, d4, d5⟩ := RW.here _ (List.getElem_mem hi') hyn
         have hne' := RW.dj i1 r hi' hr (Ne.symm ei) hyn hne
         exact ⟨d1.same (Nat.le_of_eq r5.symm) (r6 _ hne'), d2, d3, d4, by rw [r5]; exact d5⟩
     · have hi' : i1 < us.length := by simpa using hi
       have hj' : j1 < us.length := by simpa using hj
       rw [List.getElem_set] at g1 ⊢
       rw [List.getElem_set] at g2 ⊢
       by_cases ei : r = i1
       · subst ei
         rw [if_pos rfl, if_neg hij]
         rw [if_neg hij] at g2
         exact RW.dj r j1 hr hj' hij hne g2
       · rw [if_neg ei] at g1 ⊢
         by_cases ej : r = j1
         · subst ej
           rw [if_pos rfl]
           exact RW.dj i1 r hi' hr hij g1 hne
         · rw [if_neg ej] at g2 ⊢
           exact RW.dj i1 j1 hi' hj' hij g1 g2
   marks := by rw [hdst]; exact marksN g hG.on }
end
end Go.Avc
/- The first call of a closure that calls itself, by the function that makes it; the contract of such a function. Conditions: none. -/
namespace Go.Avc
open Go.RowKit
section
variable {pv : List (PV × Value)} {Own : Nat → Prop} {we : World} {Γ : Ctx} {s : St}
theorem getD_capt {w : World} {A : Nat → Prop} {β : BM} {cs : List AV} {vs : Array Value} (hp : ∀ (j : Nat) (p : AV), cs[j]? = some p → AR w A β p (vs.getD j undef)) {j k : Nat} (hj : cs[j]? = some (.loc k 0 0)) {bi : BI} (hb : β k = some bi) : vs.getD j undef = .pointer (some ⟨bi.b, 0, none⟩) := by
 have := hp j _ hj
 generalize vs.getD j undef = u at this
 cases this with
 | loc _ _ _ bi' h => rw [hb] at h; cases h; simp
 | locDead _ _ _ _ h => rw [hb] at h; cases h
theorem arr5 {vs : Array Value} (h : vs.size = 5) : vs = #[vs.getD 0 undef, vs.getD 1 undef, vs.getD 2 undef, vs.getD 3 undef, vs.getD 4 undef] := by
 refine Array.ext (by simp [h]) fun i h1 h2 => ?_
 have : i < 5 := by omega
 match i, this with
 | 0, _ => simp [Array.getD_eq_getD_getElem?, h1]
 | 1, _ => simp [Array.getD_eq_getD_getElem?, h1]
 | 2, _ => simp [Array.getD_eq_getD_getElem?, h1]
 | 3, _ => simp [Array.getD_eq_getD_getElem?, h1]
 | 4, _ => simp [Array.getD_eq_getD_getElem?, h1]
theorem PR.box1 {X A : Nat → Prop} {β : BM} {w : World} {q : PV} {b : Nat} {cs : Array Value} {e : TypeId} {fz : Nat × Nat} (h1 : w.heap[b]? = some (.cells cs e fz)) (h2 : cs.size = 1) (h3 : PR w (Av X β) q (cs.getD 0 undef)) (h4 : (cs.getD 0 undef).oneCell' = true) (hA : ¬ A b) (hs : ∀ x, A x → Av X β x) : PR w A (.ptr [q]) (.pointer (some ⟨b, 0, none⟩)) := by
 have hlt : b < w.heap.size := (Array.getElem?_eq_some_iff.1 h1).1
 refine .ptr [q] ⟨b, 0, none⟩ (fun j => cs.getD j undef) (fun _ => ⟨hlt, hA⟩) (fun j p hj => ?_) fun j p hj => ?_
 · match j, hj with
   | 0, hj => exact ⟨by rw [Addr.add_lit]; exact getD_cell h1 (by omega), h4⟩
 · match j, hj with
   | 0, hj => cases hj; exact h3.mono ⟨Nat.le_refl _, fun x _ hn => ⟨rfl, fun hx => hn (hs x hx)⟩⟩
theorem StepW.serve0 {F : Fence} {n : Nat} (hF : FOK F) (hG : UCtx pv Own we Γ) {us : List ARow} (hgh : s.get Γ.N = .gh (usCode us) false) (h64 : us.length = 64) {k1 k2 k8 kt ku f : Nat} (hfx1 : k1 ≠ kt ∧ k1 ≠ ku) (hfx2 : k2 ≠ kt ∧ k2 ≠ ku) (hfx8 : k8 ≠ kt ∧ k8 ≠ ku) (hktu : kt ≠ ku) {q1 q2 : PV} {T : Nat}
   (hb1 : s.blk k1 = some (.box [.pure q1])) (hb2 : s.blk k2 = some (.box [.pure q2])) (hb8 : s.blk k8 = some (.box [.fn f [.loc k1 0 0, .loc kt 0 0, .loc ku 0 0, .loc k2 0 0, .loc k8 0 0]])) (ht : s.blk kt = some (cellA T)) (hu : s.blk ku = some (.row 1 (usPV us)))
   {o : Oper} {cl : Call} (ho : o.op = .call cl) {fo : Operand} (hc : cl.callee = .value fo) (hfo : s.geto fo = .fn f [.loc k1 0 0, .loc kt 0 0, .loc ku 0 0, .loc k2 0 0, .loc k8 0 0]) {x : Operand} (hargs : cl.args = #[x]) {i : Nat} (hx : s.geto x = .int i) {d : Nat} (hdst : o.dst = some d) (hd : d < Γ.N)
   {Q : Bool → Nat → List (List Nat) → Prop} (hS : SSpec Γ.P f (.ptr [q1]) (.ptr [q2]) i T (us.map ARow.xs) Q) {C : St → Prop}
   (hk : ∀ b T' us', us'.length = 64 → (b = false → us' = us) → Q b T' (us'.map ARow.xs) → C (((((s.set kt (cellA T')).set ku (.row 1 (usPV us'))).put d (.bool b)).put Γ.N (.gh (usCode us') false)))) : StepW F n Γ s o C := by
 intro a w next Q0 hR hnext
 obtain ⟨X, β, h, g⟩ := hR
 have hj0 := g.gh hG.on _ _ hgh
 rw [hG.J] at hj0
 obtain ⟨j1, j2, j4, j3⟩ := hj0
 have RW := j3 us rfl
 obtain ⟨B1, hB1, v1, cs1, e1, fz1, x1, x2, x3, x4, x5⟩ := h.live hb1
 obtain ⟨B2, hB2, v2, cs2, e2, fz2, y1, y2, y3, y4, y5⟩ := h.live hb2
 obtain ⟨B8, hB8, v8, cs8, e8, fz8, z1, z2, z3, z4, z5⟩ := h.live hb8
 obtain ⟨Bt, hBt, vt, cst, et, fzt, t1, t2, t3, t4, t5⟩ := h.live ht
 obtain ⟨Bu, hBu, us1, us2, us3, us4, us5⟩ := h.live hu
 rcases us5 with ⟨_, e⟩ | ⟨vu, csu, eu, fzu, u1, u2, u3, u4, u5⟩
 · have := congrArg List.length e
   simp [usPV, h64] at this
 have hBu' : β ku = some ⟨Bu.b, 1, Bu.tot, 64, false⟩ := by
   rw [hBu]
   obtain ⟨a1, a2, a3, a4, a5⟩ := Bu
   simp only at us1 us3 vu
   rw [usPV, List.length_map, h64] at us3
   rw [us1, ← us3, vu]
 have hn64 : 64 ≤ Bu.tot := by
   rw [usPV, List.length_map, h64] at u4
   omega
 have ne : ∀ {ka kb : Nat} {Ba Bb : BI}, ka ≠ kb → β ka = some Ba → β kb = some Bb → Ba.virt = false → Bb.virt = false → Ba.b ≠ Bb.b := fun hne ha hb va vb e => hne (h.inj _ _ _ _ ha hb va vb e)
 -- the closure
 have hev := geto_AR h fo
 rw [hfo] at hev
 obtain ⟨vs, hvs⟩ : ∃ vs : Array Value, vs = #[.pointer (some ⟨B1.b, 0, none⟩), .pointer (some ⟨Bt.b, 0, none⟩), .pointer (some ⟨Bu.b, 0, none⟩), .pointer (some ⟨B2.b, 0, none⟩), .pointer (some ⟨B8.b, 0, none⟩)] := ⟨_, rfl⟩
 have fnv : ∀ {u : Value}, AR w (Av X β) β (.fn f [.loc k1 0 0, .loc kt 0 0, .loc ku 0 0, .loc k2 0 0, .loc k8 0 0]) u → u = .func (.func f) #[] vs := fun {u} hu' => by
   cases hu' with
   | fn _ _ ws hl hp =>
     have e0 := getD_capt (vs := ws) hp (j := 0) rfl hB1
     have e1 := getD_capt (vs := ws) hp (j := 1) rfl hBt
     have e2 := getD_capt (vs := ws) hp (j := 2) rfl hBu
     have e3 := getD_capt (vs := ws) hp (j := 3) rfl hB2
     have e4 := getD_capt (vs := ws) hp (j := 4) rfl hB8
     rw [arr5 hl.1, e0, e1, e2, e3, e4, hvs]
 obtain ⟨c, hcd⟩ : ∃ c : SP, c = ⟨f, .ptr [q1], .ptr [q2], .pointer (some ⟨B1.b, 0, none⟩), .pointer (some ⟨B2.b, 0, none⟩), .pointer (some ⟨B8.b, 0, none⟩), Bt.b, Bu.b, Bu.tot⟩ := ⟨_, rfl⟩
 have hfv : c.fv = .func (.func f) #[] vs := by rw [hcd, hvs]; rfl
 have cbt : c.bt = Bt.b := by rw [hcd]
 have cbu : c.bu = Bu.b := by rw [hcd]
 have ctu : c.tu = Bu.tot := by rw [hcd]
 have hevc : a.eval fo = c.fv := by rw [hfv]; exact fnv hev
 have hxv : a.eval x = .int .i64 i := by
   have := geto_AR h x
   rw [hx] at this
   exact this.val_inv
 obtain ⟨A, hA⟩ : ∃ A : Nat → Prop, A = fun b => (X b ∨ Ex β b) ∧ b ≠ B1.b ∧ b ≠ B2.b ∧ b ≠ B8.b := ⟨_, rfl⟩
 have hAs : ∀ b, A b → Av X β b := fun b hb => by rw [hA] at hb; exact hb.1
 have hEt : Ex β Bt.b := ⟨kt, _, hBt, vt, rfl⟩
 have hEu : Ex β Bu.b := ⟨ku, _, hBu, vu, rfl⟩
 have hct : CellAt c.bt T w := by rw [cbt]; exact ⟨cst, et, fzt, t1, t2, t3, ((t5 0 _ rfl).1).val_inv⟩
 have hcu : UsAt c.bu c.tu us w := by
   rw [cbu, ctu]
   refine ⟨h64, hn64, csu, eu, fzu, u1, u2, u3.symm, fun r hr => ?_⟩
   have hrow : (usPV us)[r]? = some [PV.val us[r].val] := by simp [usPV, hr]
   have := (u5 r _ 0 _ hrow rfl).1.val_inv
   simpa using this
 have hpre : SPre Γ.P c T us A w :=
 { pr := fun q hq => by
     simp only [SP.pv, List.mem_cons, List.not_mem_nil, or_false] at hq
     rcases hq with rfl | rfl | rfl
     · rw [hcd]
       have := (x5 0 _ rfl).1
       exact PR.box1 x1 x3 (by cases this with | pure _ _ h => exact h) (x5 0 _ rfl).2 (by rw [hA]; exact fun hh => hh.2.1 rfl) hAs
     · rw [hcd]
       have := (y5 0 _ rfl).1
       exact PR.box1 y1 y3 (by cases this with | pure _ _ h => exact h) (y5 0 _ rfl).2 (by rw [hA]; exact fun hh => hh.2.2.1 rfl) hAs
     · have h8 := fnv (z5 0 _ rfl).1
       have : PR w A (.ptr [.val (cs8.getD 0 undef)]) (.pointer (some ⟨B8.b, 0, none⟩)) := PR.box1 z1 z3 (.val _) (z5 0 _ rfl).2 (by rw [hA]; exact fun hh => hh.2.2.2 rfl) hAs
       rw [h8, ← hfv] at this
       rw [show c.ps = .pointer (some ⟨B8.b, 0, none⟩) by rw [hcd]]
       exact this
   xt := by rw [cbt, hA]; exact ⟨.inr hEt, ne (Ne.symm hfx1.1) hBt hB1 vt v1, ne (Ne.symm hfx2.1) hBt hB2 vt v2, ne (Ne.symm hfx8.1) hBt hB8 vt v8⟩
   xu := by rw [cbu, hA]; exact ⟨.inr hEu, ne (Ne.symm hfx1.2) hBu hB1 vu v1, ne (Ne.symm hfx2.2) hBu hB2 vu v2, ne (Ne.symm hfx8.2) hBu hB8 vu v8⟩
   ne := by rw [cbt, cbu]; exact ne hktu hBt hBu vt vu
   lt := fun b hb => by
     rcases hAs b hb with hb | ⟨k, bi, hk, hv, rfl⟩
     · exact h.Xlt b hb
     · exact h.lt k bi hk hv
   ct := hct
   cu := hcu
   rows := fun r hr hrn => by
     obtain ⟨d1, d2, d3, d4, d5⟩ := RW.here r hr hrn
     rw [hA, cbt, cbu]
     exact ⟨d1, ⟨.inl d2, fun e => d3 (e ▸ ⟨k1, B1, hB1, v1, rfl⟩), fun e => d3 (e ▸ ⟨k2, B2, hB2, v2, rfl⟩), fun e => d3 (e ▸ ⟨k8, B8, hB8, v8, rfl⟩)⟩, fun e => d3 (e ▸ hEt), fun e => d3 (e ▸ hEu)⟩
   dj := RW.dj
   glob := h.glob.mono ⟨Nat.le_refl _, fun b _ hn => ⟨rfl, fun hx => hn (hAs b hx)⟩⟩ }
 have hcalls := hS.2 c us _ w (by rw [hcd]) (by rw [hcd]) (by rw [hcd]) rfl hpre
 refine ⟨fun f _ => hF.fn f, ?_⟩
 rw [Oper.semAt_eq _ _ _ (by rw [ho]; intro c; simp)]
 rw [call_run (Γ := Γ) ho hc hevc (show ∀ (vs : Array Value) (w : World), (callFunc c.f vs).run Γ.P w = .ok (.enter c.f vs) w by rw [show c.f = f by rw [hcd]]; exact hS.1), hargs]
 have hvs2 : (#[] ++ (#[x] : Array Operand).map a.eval ++ #[c.pa, .pointer (some ⟨c.bt, 0, none⟩), .pointer (some ⟨c.bu, 0, none⟩), c.pp, c.ps] : Array Value) = #[.int .i64 (i : Int), c.pa, .pointer (some ⟨c.bt, 0, none⟩), .pointer (some ⟨c.bu, 0, none⟩), c.pp, c.ps] := by
   simp [hxv]
 rw [hvs2]
 refine ⟨fun hn => (by rw [hF.depth] at hn; cases hn), hF.calls _ _ _ _ _ _ ?_⟩
 rw [show c.f = f by rw [hcd]]
 refine hcalls.mono ?_
 rintro e w' ⟨b, T', us', rfl, hBf, hQ, hp⟩
 exact hnext _ _ _ (by rw [hdst]; exact serve_after hG h g hgh h64 hBt cbt.symm vt (by rw [cbu, ctu]; exact hBu') ht hu (by rw [cbt, cbu]; exact ne hktu hBt hBu vt vu) hp hd) (hk b T' us' hp.cu.1 hBf hQ)
end
def startU (us : List ARow) (args : List PV) (N : Nat) : St := ⟨(N, .gh (usCode us) false) :: argsEnv 0 args, [], []⟩
theorem PSpec.of_wpU {P : Program} {f : FuncId} {fn : Func} {c : Code} {args : List PV} {v0 : Value} (hf : P.funcs[f]? = some fn) (hb : fn.body = some c)
   (hcall : ∀ (vs : Array Value) (w : World), (callFunc f vs).run P w = .ok (.enter f vs) w) (hl : args.length ≤ fn.ntmps) {us : List ARow} (hus : ∀ r ∈ us, r.xs = [])
   (h : ∀ (we : World) (Γ : Ctx), Γ.P = P → Γ.N = fn.ntmps → Γ.fx = [] → Γ.pk = none → UCtx [] (fun _ => False) we Γ → Wp Γ Fence.wide 0 c (startU us args Γ.N) fun e s => endVC P fn (.val v0) e s ∧ ∃ i t, s.get Γ.N = .gh i t) : PSpec P f args (.val v0) := by
 refine ⟨hcall, fun w X vs' hgl hsz hv hX => ?_⟩
 refine (callsIn_wide (n := 0)).1 (callsIn_of_wp_marks hf hb trivial ?_)
 let Γ : Ctx := ⟨P, fn.ntmps, { w with heap := #[] }, fun _ => False, fun _ => none, [], uY P [] (fun _ => False) w, (fun _ b hb => hb.elim), none, []⟩
 have hs := h w Γ rfl rfl rfl rfl { on := rfl, J := rfl, df := rfl, w0 := rfl, X := fun _ h => h }
 have hR : R Γ (startU us args fn.ntmps) { tmps := vs' ++ Array.replicate (fn.ntmps - vs'.size) undef, defers := [] } w := by
   have hget : ∀ t, (startU us args fn.ntmps).get t = if t = fn.ntmps then .gh (usCode us) false else (startSt args).get t := fun t => by
     simp only [startU, startSt, St.get, lk_cons]
     by_cases e : fn.ntmps = t
     · rw [if_pos e, if_pos e.symm]; rfl
     · rw [if_neg e, if_neg (Ne.symm e)]
   refine ⟨X, fun _ => none, ?_, fun b hb => hb.elim, fun b hb => absurd hb (Nat.not_lt_zero _), fun _ i t hi => ?_, fun _ => rfl, ⟨[], rfl, List.nodup_nil, fun d hd => by cases hd⟩⟩
   · refine
     { size := by show (vs' ++ Array.replicate (fn.ntmps - vs'.size) undef).size = fn.ntmps; rw [Array.size_append, Array.size_replicate]; omega
       slots := fun t => ?_
       blks := fun k => by simp [St.blk, startU, lk, BO]
       inj := fun k k' bi bi' hk => by cases hk
       lt := fun k bi hk => by cases hk
       notX := fun k bi hk => by cases hk
       own := fun k bi hk => by cases hk
       fixd := fun k hk => by cases hk
       used1 := fun t k hk => by
         rw [hget] at hk
         split at hk
         · simp [AV.keys] at hk
         · rcases startSt_get args t with e | ⟨p, _, e⟩ <;> rw [e] at hk <;> simp [AV.keys] at hk
       used2 := fun k b hk => by simp [St.blk, startU, lk] at hk
       keep := ⟨rfl, tpr, rfl, Nat.zero_le _, fun b hb => absurd hb (Nat.not_lt_zero _)⟩
       Xlt := hX
       glob := hgl.mono ⟨Nat.le_refl _, fun b _ hb => ⟨rfl, by
         rintro (hx | ⟨k, bi, hk, _⟩)
         · exact hb hx
         · cases hk⟩⟩ }
     show AR w (Av X fun _ => none) _ _ _
     rw [hget, frame_getD]
     split
     · exact .gh _ _ _
     · rcases startSt_get args t with e | ⟨p, hp, e⟩
       · rw [e]; exact .junk _
       · rw [e]
         refine .pure _ _ ((hv t p hp).mono ⟨Nat.le_refl _, fun b _ hb => ⟨rfl, ?_⟩⟩)
         rintro (hx | ⟨k, bi, hk, _⟩)
         · exact hb hx
         · cases hk
   · have hi' : (startU us args fn.ntmps).get fn.ntmps = .gh i t := hi
     rw [hget, if_pos rfl] at hi'
     cases hi'
     refine ⟨Kp.refl _ _, ?_, fun q hq => (by cases hq), fun vs e => ?_⟩
     · rintro b ⟨k, bi, hk, _⟩
       cases hk
     · have e := (usCode_inj e).symm
       subst e
       exact ⟨fun r hr hrn => absurd (hus r hr) hrn, fun i j hi hj _ h1 _ => absurd (hus _ (List.getElem_mem hi)) h1⟩
 refine wpIn_mono (hs _ w hR) ?_
 rintro e a' w' ⟨s', hK | ⟨_, _, hpk, _⟩, hr⟩
 case inr => cases hpk
 obtain ⟨hK, i, t, hit⟩ := hK
 have fin : retVC P fn s' (.val v0) → LeavesInM Fence.wide 0 P fn a'.tmps (fun e w'' => ∃ v, e = .returned v ∧ PR w'' X (.val v0) v ∧ Kp (fun _ => False) w w'') a'.defers .returning w' := fun hK =>
   hr.leave rfl rfl fun X' β w'' hr' hsub _ hg => by
     obtain ⟨j1, _⟩ : uJ [] (fun _ => False) w i t X' (Ex β) w'' := hg rfl i t hit
     obtain ⟨v, h1, h2⟩ := ret_sound (Γ := Γ.atX X') hr' hK
     refine ⟨v, h1, v, rfl, ?_, j1⟩
     rw [h2.val_inv]
     exact .val _
 cases e with
 | normal => exact fin hK
 | ret => exact fin hK
 | exit id => exact hK.elim
 | goto l => exact hK.elim
 | panic c => exact hK.elim
 | outgrown => exact hK.elim
end Go.Avc
