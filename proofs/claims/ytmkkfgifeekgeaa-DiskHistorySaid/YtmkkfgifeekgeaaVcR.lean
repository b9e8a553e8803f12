/- Conversions, greatest and least: sound; the further operations all together. Conditions: none. -/
import Derived.Test.YtmkkfgifeekgeaaVcQ
namespace Go.Avc
open Go.RowKit

section
variable {Γ : Ctx} {s : St} {tm : Array Value} {w : World} {β : BM} {P : Program} {K : Kont}

theorem convert_sound (h : Rl Γ s tm w β) {src dst : TypeId} {x : AV} {u : Value} {d : Nat} (hx : AR w (Av Γ.X β) β x u) (hK : opConvert P src dst x s.blk d s.used Γ.fx K) :
    Out Γ s tm K ((convert src dst u).run P w) := by
  unfold opConvert at hK
  split at hK
  · rename_i k0 k hs hd
    split at hK
    · rename_i k1 n
      obtain ⟨r, rfl, hK⟩ := hK
      rw [hx.val_inv]
      have hk : P.intKind dst = k := by simp [Program.intKind, hd]
      refine Out.same h hK ?_ (.pure _ _ (.val _)) (by simp [AV.keys])
      have := run_convert_int (P := P) w src dst k1 n (by rw [hs]; rfl) (by rw [hk]; exact hd)
      rw [hk] at this
      exact this
    · exact hK.elim
  · rename_i e hs hd
    split at hK
    case h_2 => exact hK.elim
    rename_i he
    split at hK
    case h_2 => exact hK.elim
    rename_i hns
    split at hK
    case h_2 => exact hK.elim
    rename_i rows hrows
    obtain ⟨bs, rfl, hK⟩ := hK
    obtain ⟨g1, g2, g3⟩ := srcRows_spec (P := P) h hx hrows
    obtain ⟨cs, c1, c2, c3⟩ := g3 _ (Nat.le_refl _)
    have hlen : (byteRows bs).length = bs.length := by simp [byteRows]
    have hu : ∃ a c, u = .slice a bs.length c := by
      unfold srcRows at hrows
      split at hrows
      · cases hx with
        | pure _ _ hp =>
          split at hrows
          case h_2 => cases hrows
          injection hrows with hrows
          cases hp with
          | slnil => exact ⟨none, 0, by rw [← hlen, ← hrows]; rfl⟩
          | sl _ _ a cap => exact ⟨some a, cap, by rw [← hlen, ← hrows]⟩
      · split at hrows
        · split at hrows
          case h_2 => cases hrows
          injection hrows with hrows
          rename_i k i n _ z rows0 hblk _ _
          obtain ⟨bi, hβ, hb⟩ := h.live hblk
          cases hx with
          | lslDead _ _ _ _ hd => rw [hβ] at hd; cases hd
          | lslV _ _ bi' a hbb hil => exact ⟨a, 0, by rw [← hlen, ← hrows]; simp⟩
          | lsl _ _ _ bi' cap hbb hv hn hcc hil hm =>
            rw [hβ] at hbb; cases hbb
            have hl := hb.2.2.1
            exact ⟨_, cap, by rw [← hlen, ← hrows]; congr 1; simp; omega⟩
        · cases hrows
      · rw [hx.val_inv]
        injection hrows with hrows
        exact ⟨none, 0, by rw [← hlen, ← hrows]; rfl⟩
      · cases hns
      · cases hrows
    obtain ⟨a, c, rfl⟩ := hu
    rw [hlen] at c1 c2
    have hcell : ∀ j (hj : j < bs.length), cs.getD j undef = .int .u8 (bs[j].toNat : Int) := fun j hj => by
      have := (c3 j _ 0 _ (byteRows_get hj) (by omega) rfl).1
      rw [Nat.mul_one, Nat.add_zero] at this
      exact this.val_inv
    refine Out.same h hK (u := .string ⟨bs.toArray⟩) ?_ (.pure _ _ (.val _)) (by simp [AV.keys])
    have hcs : cs = ((bs.map (fun b => (b.toNat : Int))).map (Value.int .u8)).toArray := by
      apply Array.ext
      · simp [c2]
      · intro j h1 h2
        have h3 : j < bs.length := by simpa using h2
        have := hcell j h3
        rw [Array.getD_eq_getD_getElem?, Array.getElem?_eq_getElem h1] at this
        simp only [Option.getD_some] at this
        rw [this]
        simp
    have hc1 := c1 w rfl
    cases a with
    | none =>
      have h0 : bs.length = 0 := by
        simp only [Builtin.firstCells, Sem.run_pure] at hc1
        injection hc1 with hc1
        rw [← hc1] at c2
        simpa using c2.symm
      have hb0 : bs = [] := List.length_eq_zero_iff.1 h0
      subst hb0
      exact run_convert_bytes_nil (P := P) (w := w) src e hs he _ _ dst hd
    | some a =>
      simp only [Builtin.firstCells, Nat.mul_one] at hc1
      rw [run_convert_bytes_string w src dst e (some a) bs.length c hs he hd]
      rw [hcs] at hc1
      rw [run_bytesToString w a bs.length c _ hc1, foldl_push_byteCells]
      have he0 : ByteArray.empty.data = #[] := rfl
      rw [he0]
      simp
  · rename_i e hs hd
    split at hK
    case h_2 => exact hK.elim
    rename_i he
    split at hK
    case h_2 => exact hK.elim
    rename_i hsz
    split at hK
    case h_2 => exact hK.elim
    rename_i str
    obtain ⟨hdu, hdfx, hlim, hK⟩ := guardNew_spec hK
    rw [hx.val_inv]
    have hrun := run_bytes_of_string (P := P) w src dst e str hs hd he
    have hsd : str.size = str.data.size := rfl
    have hge := grownCap_ge w str.size 0 e
    have hle := grownCap_le_maxLen w str.size 0 e (by unfold maxLen; omega)
    have hbl : (byteRows str.data.toList).length = str.size := by simp only [byteRows, List.length_map, Array.length_toList]; rfl
    have hbs : (bytesRow str (grownCap w str.size 0 e)).size = grownCap w str.size 0 e := by simp only [bytesRow, Array.size_append, Array.size_map, Array.size_replicate]; omega
    obtain ⟨β', q1, q2⟩ := row_out h (w1 := w.drew) rfl rfl rfl rfl hdu hdfx e (sz := 1) (rows := byteRows str.data.toList) (cs := bytesRow str (grownCap w str.size 0 e))
      ((bytesRow str (grownCap w str.size 0 e)).size, (bytesRow str (grownCap w str.size 0 e)).size + 1) (fun j hj h => by simp at h; omega) (by omega)
      (fun j row hj => by
        simp only [byteRows, List.getElem?_map, Option.map_eq_some_iff] at hj
        obtain ⟨b, _, rfl⟩ := hj
        rfl)
      (fun j row y p hj hy => by
        have hjl : j < str.data.size := by have := (List.getElem?_eq_some_iff.1 hj).1; simpa [byteRows] using this
        rw [byteRows_get (by simpa using hjl)] at hj
        injection hj with hj
        subst hj
        cases y with
        | succ y => simp at hy
        | zero =>
          simp only [List.getElem?_cons_zero, Option.some.injEq] at hy
          subst hy
          rw [Nat.mul_one, Nat.add_zero, Array.getD_eq_getD_getElem?, bytesRow_at str _ j hjl]
          exact ⟨.val _, rfl⟩)
      (cap := grownCap w str.size 0 e) (by omega) (by rw [hbs]; omega) hle
    rw [hbl] at q2
    exact ⟨_, _, _, _, β', hK, hrun, q1, q2, by simp [AV.keys, St.acts, St.act, St.new]⟩
  · exact hK.elim

theorem more1_ok0 {md : Bool} : MoreOK0 (more1 md Γ.P Γ.fx) Γ := by
  intro F hF n s a w β o K hK h ho next Q hk
  have hd : a.defers = a.defers := rfl
  have fin : ∀ (S : Sem Value), (execOp a.eval o) = (do pure (.value (← S))) → (∀ c, o.op ≠ .defer c) → Out Γ s a.tmps K (S.run Γ.P w) → o.wpIn F n Γ.P a w next Q := by
    rintro S he hnd ⟨v, acts, u, w', β', hKv, hr, hR, hv, hkv⟩
    refine wpIn_of_run hF hnd (v := u) (w' := w') ?_ (hk v acts _ w' hKv (putD_R hd hR ho hv hkv))
    rw [he, Sem.run_bind, hr, Result.andThen_ok]
    rfl
  have oar : ∀ x : Option Operand, optAR Γ w β (x.map s.geto) (x.map a.eval) := fun x => by
    cases x with
    | none => trivial
    | some x => exact geto_AR h x
  unfold more1 at hK
  split at hK
  · rename_i t x c hx
    split at hK
    · obtain ⟨h1, h2, hK⟩ := guardNew_spec hK
      exact fin _ (by simp only [execOp, hx]) (by rw [hx]; intro c; simp) (make_sound h h1 h2 (geto_AR h x) (geto_AR h c) hK)
    · exact hK.elim
  · rename_i t len parts hx
    split at hK
    · obtain ⟨h1, h2, hK⟩ := guardNew_spec hK
      exact fin _ (by simp only [execOp, hx]) (by rw [hx]; intro c; simp) (buildSlice_sound h h1 h2 hK)
    · exact hK.elim
  · rename_i t parts hx
    exact fin _ (by simp only [execOp, hx]) (by rw [hx]; intro c; simp) (build_sound h hK)
  · rename_i t x lo hi mx hx
    exact fin _ (by simp only [execOp, hx]) (by rw [hx]; intro c; simp) (slice_sound h (geto_AR h x) (geto_keys h x) (oar lo) (oar hi) (oar mx) hK)
  · rename_i src dst x hx
    split at hK
    · exact fin _ (by simp only [execOp, hx]) (by rw [hx]; intro c; simp) (convert_sound h (geto_AR h x) hK)
    · exact hK.elim
  · rename_i c hx
    split at hK
    · rename_i hc
      split at hK
      · rename_i x y t tx hargs hts
        split at hK
        case h_2 => exact hK.elim
        rename_i hkind
        split at hK
        · obtain ⟨h1, h2, hK⟩ := guardNew_spec hK
          have e1 : c.args = #[x, y] := Array.toList_inj.1 (by simpa using hargs)
          have e2 : c.argTypes = #[t, tx] := Array.toList_inj.1 (by simpa using hts)
          refine fin (Builtin.append_ #[t, tx] o.type #[a.eval x, a.eval y]) ?_ (by rw [hx]; intro c; simp) (append_sound h hkind h1 h2 (geto_AR h x) (geto_AR h y) hK)
          simp only [execOp, hx, resolve, hc, e1, e2, invoke, builtin]
          simp
        · exact hK.elim
      · exact hK.elim
    · rename_i hc
      split at hK
      · rename_i x y t tx hargs hts
        have e1 : c.args = #[x, y] := Array.toList_inj.1 (by simpa using hargs)
        have e2 : c.argTypes = #[t, tx] := Array.toList_inj.1 (by simpa using hts)
        refine fin (Builtin.copy_ #[t, tx] o.type #[a.eval x, a.eval y]) ?_ (by rw [hx]; intro c; simp) (copy_sound h (geto_AR h x) (geto_AR h y) hK)
        simp only [execOp, hx, resolve, hc, e1, e2, invoke, builtin]
        simp
      · exact hK.elim
    · rename_i hc
      split at hK
      · rename_i x y hargs
        split at hK
        · rename_i k n' k' m hxx hyy
          split at hK
          case h_2 => exact hK.elim
          rename_i hkk
          have e0 := kEq_spec hkk
          subst e0
          have e1 : c.args = #[x, y] := Array.toList_inj.1 (by simpa using hargs)
          have ex := geto_AR h x
          rw [hxx] at ex
          have ex := ex.val_inv
          have ey := geto_AR h y
          rw [hyy] at ey
          have ey := ey.val_inv
          refine fin (Builtin.max_ c.argTypes o.type #[a.eval x, a.eval y]) ?_ (by rw [hx]; intro c; simp) (Out.same h hK (u := .int k (max n' m)) ?_ (.pure _ _ (.val _)) (by simp [AV.keys]))
          · simp only [execOp, hx, resolve, hc, e1, invoke, builtin]
            simp
          · rw [ex, ey]
            simp [Builtin.max_, Builtin.max2]
            omega
        · exact hK.elim
      · exact hK.elim
    · rename_i hc
      split at hK
      · rename_i x y hargs
        split at hK
        · rename_i k n' k' m hxx hyy
          split at hK
          case h_2 => exact hK.elim
          rename_i hkk
          have e0 := kEq_spec hkk
          subst e0
          have e1 : c.args = #[x, y] := Array.toList_inj.1 (by simpa using hargs)
          have ex := geto_AR h x
          rw [hxx] at ex
          have ex := ex.val_inv
          have ey := geto_AR h y
          rw [hyy] at ey
          have ey := ey.val_inv
          refine fin (Builtin.min_ c.argTypes o.type #[a.eval x, a.eval y]) ?_ (by rw [hx]; intro c; simp) (Out.same h hK (u := .int k (min n' m)) ?_ (.pure _ _ (.val _)) (by simp [AV.keys]))
          · simp only [execOp, hx, resolve, hc, e1, invoke, builtin]
            simp
          · rw [ex, ey]
            simp [Builtin.min_, Builtin.min2]
            omega
        · exact hK.elim
      · exact hK.elim
    · exact hK.elim
  · exact hK.elim
end
theorem more1_ok {Γ : Ctx} {md : Bool} : MoreOK (more1 md Γ.P Γ.fx) Γ := fun X w β => more1_ok0 (Γ := Γ.here X w β)
end Go.Avc
