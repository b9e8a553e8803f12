/- Arithmetic, comparisons, choices, tuples, lengths: sound. Conditions: none. -/
import Derived.Test.YtmkkfgifeekgeaaVcG
namespace Go.Avc
open Go.RowKit

section
variable {Γ : Ctx} {s : St} {tm : Array Value} {w : World} {β : BM} {P : Program} {K : Kont}

theorem Out.val (h : Rl Γ s tm w β) {v : Value} (hK : K (.pure (.val v)) []) {r : Result Value} (hr : r = .ok v w) : Out Γ s tm K r :=
  Out.same h hK hr (.pure _ _ (.val _)) (by simp [AV.keys])

/-- 'binOp' behind its guard. -/
def binRun (op : BinOp) (t : TypeId) (x y : Operand) (u v : Value) : Sem Value := do eqGuard op t x y u v; binOp op t u v

theorem intBin_sound (h : Rl Γ s tm w β) {op : BinOp} {t : TypeId} {x y : Operand} {k k' : IntKind} {a b : Int} (hK : intBin op k k' a b fun v => K (.pure (.val v)) []) :
    Out Γ s tm K ((binRun op t x y (.int k a) (.int k' b)).run P w) := by
  unfold intBin at hK
  unfold binRun
  simp only [eqGuard_at_int, Sem.run_bind, Sem.run_pure, Result.andThen_ok]
  split at hK
  · obtain ⟨h0, r, rfl, hK⟩ := hK
    exact Out.val h hK (by simp [binOp, Op.shift, show ¬ b < 0 from by omega])
  · obtain ⟨h0, r, rfl, hK⟩ := hK
    exact Out.val h hK (by simp [binOp, Op.shift, show ¬ b < 0 from by omega])
  · split at hK
    · exact hK.elim
    rename_i hk
    obtain rfl := kEq_spec hk
    split at hK
    · obtain ⟨r, rfl, hK⟩ := hK
      exact Out.val h hK (by simp [binOp, Op.intArith])
    · obtain ⟨r, rfl, hK⟩ := hK
      exact Out.val h hK (by simp [binOp, Op.intArith])
    · obtain ⟨r, rfl, hK⟩ := hK
      exact Out.val h hK (by simp [binOp, Op.intArith])
    · obtain ⟨h0, r, rfl, hK⟩ := hK
      exact Out.val h hK (by simp [binOp, Op.intDiv, h0])
    · obtain ⟨h0, r, rfl, hK⟩ := hK
      exact Out.val h hK (by simp [binOp, Op.intDiv, h0])
    · obtain ⟨r, rfl, hK⟩ := hK
      exact Out.val h hK (by simp [binOp, intBits_and])
    · obtain ⟨r, rfl, hK⟩ := hK
      exact Out.val h hK (by simp [binOp, intBits_or])
    · obtain ⟨r, rfl, hK⟩ := hK
      exact Out.val h hK (by simp [binOp, intBits_xor])
    · obtain ⟨r, rfl, hK⟩ := hK
      exact Out.val h hK (by simp [binOp, intBits_andNot])
    · exact Out.val h hK (by simp [binOp, Op.intCmp]; rfl)
    · exact Out.val h hK (by simp [binOp, Op.intCmp]; rfl)
    · exact Out.val h hK (by simp [binOp, Op.intCmp])
    · exact Out.val h hK (by simp [binOp, Op.intCmp])
    · exact Out.val h hK (by simp [binOp, Op.intCmp])
    · exact Out.val h hK (by simp [binOp, Op.intCmp])
    · exact hK.elim

theorem toList_eq_iff (a b : ByteArray) : (a.toList == b.toList) = decide (a = b) := by
  rw [ByteArray.toList_eq, ByteArray.toList_eq, Bool.eq_iff_iff]
  simp only [beq_iff_eq, decide_eq_true_eq]
  constructor
  · intro h
    cases a; cases b
    simp only [ByteArray.mk.injEq]
    exact Array.toList_inj.1 h
  · rintro rfl; rfl

theorem strBin_sound (h : Rl Γ s tm w β) {op : BinOp} {t : TypeId} {x y : Operand} {a b : ByteArray} (hK : strBin op a b fun v => K (.pure (.val v)) []) :
    Out Γ s tm K ((binRun op t x y (.string a) (.string b)).run P w) := by
  unfold strBin at hK
  unfold binRun
  simp only [eqGuard_at_string, Sem.run_bind, Sem.run_pure, Result.andThen_ok]
  split at hK
  · exact Out.val h hK (by simp [binOp, Op.stringOp, toList_eq_iff])
  · exact Out.val h hK (by simp [binOp, Op.stringOp, toList_eq_iff])
  · obtain ⟨h0, hK⟩ := hK
    refine Out.val h hK ?_
    have : ¬ (((a.size + b.size : Nat) : Int) > IntKind.i64.max) := by rw [IntKind.max_i64]; omega
    simp only [binOp, Op.stringOp, if_neg this, Sem.run_pure]
  · exact Out.val h hK (by simp [binOp, Op.stringOp, ByteArray.toList_eq])
  · exact hK.elim

theorem PR.val_inv {A : Nat → Prop} {v u : Value} (h : PR w A (.val v) u) : u = v := by cases h; rfl
theorem AR.val_inv {v u : Value} (h : AR w (Av Γ.X β) β (.pure (.val v)) u) : u = v := by
  cases h with
  | pure _ _ h => exact h.val_inv

theorem equal_of {t : TypeId} {x y : Value} {r : Bool} (h : ∀ d, (Op.equalIn (d + 1) t x y).run P w = .ok r w) : (Op.equal t x y).run P w = .ok r w := h 9999

theorem valsOf_spec : ∀ {l : List AV} {vs : List Value}, valsOf l = some vs → l = vs.map fun v => .pure (.val v)
  | [], vs, h => by simp [valsOf] at h; subst h; rfl
  | a :: l, vs, h => by
    unfold valsOf at h
    split at h
    · rename_i e; cases e
    · rename_i e
      cases e
      simp only [Option.map_eq_some_iff] at h
      obtain ⟨q, hq, rfl⟩ := h
      simp [valsOf_spec hq]
    · cases h

theorem agg_of_vals {x : AV} {u : Value} {vs : List Value} (hx : AR w (Av Γ.X β) β x u) (hv : valsOf (cellsOf x) = some vs) (hs : ∃ c, x = .agg c ∨ ∃ d, x = .pure (.agg d) ∧ c = pures d) : u = .agg vs.toArray := by
  have e := valsOf_spec hv
  obtain ⟨c, hs⟩ := hs
  have fin : ∀ (us : Array Value), us.size = vs.length → (∀ j, j < vs.length → us.getD j undef = vs.getD j undef) → us = vs.toArray := fun us hl hg => by
    apply Array.ext (by simpa using hl)
    intro j hj hj'
    have := hg j (by omega)
    rw [Array.getD_eq_getD_getElem?, Array.getElem?_eq_getElem hj] at this
    simpa [List.getD, show j < vs.length from by omega] using this
  rcases hs with rfl | ⟨d, rfl, rfl⟩
  · cases hx with
    | agg _ us hl hp =>
    simp only [cellsOf] at e
    subst e
    rw [fin us (by simpa using hl)]
    intro j hj
    have := hp j (.pure (.val vs[j])) (by simp [hj])
    rw [this.val_inv]
    simp [List.getD, hj]
  · cases hx with
    | pure _ _ hp =>
    cases hp with
    | agg _ us hl hp =>
    simp only [cellsOf] at e
    have hd : d = vs.map .val := by
      have : ∀ (l : List PV) (m : List Value), pures l = m.map (fun v => AV.pure (.val v)) → l = m.map .val := by
        intro l
        induction l with
        | nil => intro m h; cases m <;> simp [pures] at h ⊢
        | cons p l ih =>
          intro m h
          cases m with
          | nil => simp [pures] at h
          | cons v m =>
            simp only [pures, List.map_cons, List.cons.injEq, AV.pure.injEq] at h
            rw [List.map_cons, ih m h.2, h.1]
      exact this d vs e
    subst hd
    rw [fin us (by simpa using hl)]
    intro j hj
    have := hp j (.val vs[j]) (by simp [hj])
    rw [this.val_inv]
    simp [List.getD, hj]

theorem binOp_eql_run {t : TypeId} {x y : Value} {r : Bool} (hne : binOp .eql t x y = (do pure (.bool (← Op.equal t x y)))) (h : (Op.equal t x y).run P w = .ok r w) : (binOp .eql t x y).run P w = .ok (.bool r) w := by
  rw [hne]; simp only [Sem.run_bind, h, Result.andThen_ok, Sem.run_pure]
theorem binOp_neq_run {t : TypeId} {x y : Value} {r : Bool} (hne : binOp .neq t x y = (do pure (.bool (!(← Op.equal t x y))))) (h : (Op.equal t x y).run P w = .ok r w) : (binOp .neq t x y).run P w = .ok (.bool !r) w := by
  rw [hne]; simp only [Sem.run_bind, h, Result.andThen_ok, Sem.run_pure]

theorem bin_sound (h : Rl Γ s tm w β) {op : BinOp} {t : TypeId} {x y : AV} {ox oy : Operand} {u v : Value} (hx : AR w (Av Γ.X β) β x u) (hy : AR w (Av Γ.X β) β y v) (hK : opBin P op t x y K) :
    Out Γ s tm K ((binRun op t ox oy u v).run P w) := by
  unfold opBin at hK
  split at hK
  · rw [hx.val_inv, hy.val_inv]; exact intBin_sound h hK
  · rw [hx.val_inv, hy.val_inv]; exact strBin_sound h hK
  · rename_i a b
    rw [hx.val_inv, hy.val_inv]
    split at hK
    · rename_i ht
      have he : (Op.equal t (.bool a) (.bool b)).run P w = .ok (a == b) w := equal_of fun d => by simp [Op.equalIn, run_underlying ht]
      unfold binRun
      simp only [eqGuard_at_bool, Sem.run_bind, Sem.run_pure, Result.andThen_ok]
      split at hK
      · exact Out.val h hK (binOp_eql_run rfl he)
      · exact Out.val h hK (by rw [binOp_neq_run rfl he]; cases a <;> cases b <;> rfl)
      · exact hK.elim
    · exact hK.elim
  · split at hK
    · rename_i hn
      have hv : v = .slice none 0 0 := by
        unfold isNil at hn
        split at hn
        · exact hy.val_inv
        · cases hn
      subst hv
      split at hK
      · rename_i e ht
        have hnf : ∀ (o : Option Addr) (n c : Nat), (Op.equal t (.slice o n c) (.slice none 0 0)).run P w = .ok o.isNone w := fun o n c =>
          equal_of fun d => by cases o <;> simp [Op.equalIn, run_underlying ht]
        have hg : ∀ (op : BinOp) (o : Option Addr) (n c : Nat), eqGuard op t ox oy (.slice o n c) (.slice none 0 0) = pure () := fun op o n c => by cases op <;> rfl
        split at hK
        · rename_i sz rows _ _ _
          have hsl : ∃ o n c, u = .slice o n c ∧ (o.isNone = true → rows = []) := by
            cases hx with
            | pure _ _ hp =>
            cases hp with
            | slnil => exact ⟨none, 0, 0, rfl, fun _ => rfl⟩
            | sl _ _ a cap us => exact ⟨some a, _, _, rfl, fun h => by simp at h⟩
          obtain ⟨o, n, c, rfl, ho⟩ := hsl
          unfold binRun
          simp only [hg, Sem.run_bind, Sem.run_pure, Result.andThen_ok]
          split at hK
          · exact Out.val h (hK _ ho) (binOp_eql_run rfl (hnf o n c))
          · exact Out.val h (hK _ fun hr => ho (by cases o <;> simp_all)) (binOp_neq_run rfl (hnf o n c))
          · exact hK.elim
        · rw [hx.val_inv]
          unfold binRun
          simp only [hg, Sem.run_bind, Sem.run_pure, Result.andThen_ok]
          split at hK
          · exact Out.val h hK (binOp_eql_run rfl (hnf none _ _))
          · exact Out.val h hK (binOp_neq_run rfl (hnf none _ _))
          · exact hK.elim
        · exact hK.elim
        · exact hK.elim
      · exact hK.elim
    · split at hK
      · rename_i xs ys hxs hys
        split at hK
        · obtain ⟨r, hr, s1, s2, hK⟩ := hK
          rw [agg_of_vals hx hxs s1, agg_of_vals hy hys s2]
          obtain ⟨r1, r2⟩ := hr w
          refine Out.val h hK ?_
          unfold binRun
          rw [Sem.run_bind, show eqGuard .eql t ox oy (.agg xs.toArray) (.agg ys.toArray) = eqGuard .eql t (.tmp 0) (.tmp 0) (.agg xs.toArray) (.agg ys.toArray) from rfl, r1, Result.andThen_ok]
          exact binOp_eql_run rfl r2
        · obtain ⟨r, hr, s1, s2, hK⟩ := hK
          rw [agg_of_vals hx hxs s1, agg_of_vals hy hys s2]
          obtain ⟨r1, r2⟩ := hr w
          refine Out.val h hK ?_
          unfold binRun
          rw [Sem.run_bind, show eqGuard .neq t ox oy (.agg xs.toArray) (.agg ys.toArray) = eqGuard .eql t (.tmp 0) (.tmp 0) (.agg xs.toArray) (.agg ys.toArray) from rfl, r1, Result.andThen_ok]
          exact binOp_neq_run rfl r2
        · exact hK.elim
      · exact hK.elim

theorem un_sound (h : Rl Γ s tm w β) {op : UnOp} {x : AV} {u : Value} (hx : AR w (Av Γ.X β) β x u) (hK : opUn op x K) : Out Γ s tm K ((Op.unary op u).run P w) := by
  unfold opUn at hK
  split at hK
  · rw [hx.val_inv]
    split at hK
    · exact Out.val h hK rfl
    · exact hK.elim
  · rw [hx.val_inv]
    split at hK
    · obtain ⟨r, rfl, hK⟩ := hK
      exact Out.val h hK (by simp [Op.unary, Op.intArith])
    · obtain ⟨r, rfl, hK⟩ := hK
      exact Out.val h hK (by simp [Op.unary, intBits_xor])
    · exact hK.elim
  · exact hK.elim

theorem extract_sound (h : Rl Γ s tm w β) {x : AV} {u : Value} {i : Nat} (hx : AR w (Av Γ.X β) β x u) (hkx : ∀ k ∈ x.keys, k ∈ s.used) (hK : opExtract x i K) : Out Γ s tm K ((Instr.extract u i).run P w) := by
  unfold opExtract at hK
  split at hK
  · rename_i cs
    split at hK
    · rename_i v hv
      rw [nth_eq] at hv
      cases hx with
      | tup _ vs hl hp =>
      have hi : i < vs.size := by have := (List.getElem?_eq_some_iff.1 hv).1; omega
      refine Out.same h hK (u := vs.getD i undef) ?_ (hp i v hv) fun k hk => hkx k (by simp only [AV.keys]; exact AV.mem_keysL.2 ⟨v, List.mem_of_getElem? hv, hk⟩)
      simp [Instr.extract, hi]
    · exact hK.elim
  · rename_i cs
    split at hK
    · rename_i p hp'
      rw [nth_eq] at hp'
      cases hx with
      | pure _ _ hp =>
      cases hp with
      | tup _ vs hl hp =>
      have hi : i < vs.size := by have := (List.getElem?_eq_some_iff.1 hp').1; omega
      refine Out.same h hK (u := vs.getD i undef) ?_ (.pure _ _ (hp i p hp')) (by simp [AV.keys])
      simp [Instr.extract, hi]
    · exact hK.elim
  · exact hK.elim

theorem len_sound (h : Rl Γ s tm w β) {t ty : TypeId} {x : AV} {u : Value} (hx : AR w (Av Γ.X β) β x u) (hlv : lenLive x s.blk) (hK : opLen P t x K) : Out Γ s tm K ((Builtin.len_ #[t] ty #[u]).run P w) := by
  unfold opLen at hK
  split at hK
  · rename_i e ht
    split at hK
    · rename_i k i n
      have hu : ∃ o c, u = .slice o n c := by
        cases hx with
        | lsl => exact ⟨_, _, rfl⟩
        | lslV => exact ⟨_, _, rfl⟩
        | lslDead _ _ _ _ hd =>
          have hb := h.blks k
          rw [hd] at hb
          simp only [lenLive, lenLiveB] at hlv
          cases hs : s.blk k with
          | none => rw [hs] at hlv; cases hlv
          | some b => rw [hs] at hb; exact hb.elim
      obtain ⟨o, c, rfl⟩ := hu
      exact Out.val h hK (by simp [Builtin.len_, run_underlying ht, goInt])
    · rename_i sz rows
      have hu : ∃ o c, u = .slice o rows.length c := by
        cases hx with
        | pure _ _ hp =>
        cases hp with
        | slnil => exact ⟨_, _, rfl⟩
        | sl => exact ⟨_, _, rfl⟩
      obtain ⟨o, c, rfl⟩ := hu
      exact Out.val h hK (by simp [Builtin.len_, run_underlying ht, goInt])
    · rw [hx.val_inv]
      exact Out.val h hK (by simp [Builtin.len_, run_underlying ht, goInt])
    · exact hK.elim
  · rename_i ht
    split at hK
    · rw [hx.val_inv]
      exact Out.val h hK (by simp [Builtin.len_, run_underlying ht, goInt])
    · exact hK.elim
  · rename_i n e ht
    exact Out.val h hK (by simp [Builtin.len_, run_underlying ht, goInt])
  · exact hK.elim
end
end Go.Avc
