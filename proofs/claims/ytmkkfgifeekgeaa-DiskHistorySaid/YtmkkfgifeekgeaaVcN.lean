/- Make, literals, slices, append, copy, conversions: sound. Conditions: none. -/
import Derived.Test.YtmkkfgifeekgeaaVcM
namespace Go.Avc
open Go.RowKit

section
variable {Γ : Ctx} {s : St} {tm : Array Value} {w : World} {β : BM} {P : Program} {K : Kont}

theorem zeroOf_spec {t : TypeId} {z : List PV} (h : zeroOf P t = some z) : ∃ i zv, P.info? t = some i ∧ i.zero = some zv ∧ z = zv.cells.toList.map .val ∧ (∀ v ∈ zv.cells.toList, v.oneCell' = true) ∧ ∀ w, (zeroValue t).run P w = .ok zv w := by
  unfold zeroOf at h
  split at h
  case h_2 => cases h
  rename_i i hi
  split at h
  case h_2 => cases h
  rename_i zv hz
  split at h
  case h_2 => cases h
  rename_i h1
  cases h
  refine ⟨i, zv, hi, hz, rfl, fun v hv => ?_, fun w => by simp [zeroValue, typeInfo, hi, hz]⟩
  exact allOne_spec h1 (.pure (.val v)) (List.mem_map.2 ⟨v, hv, rfl⟩)

theorem natEq_spec {a : Option Nat} {b : Nat} (h : natEq a b = true) : a = some b := by
  unfold natEq at h
  split at h
  · rw [Nat.eq_of_beq_eq_true h]
  · cases h

theorem szOf_info {t : TypeId} {n : Nat} {i : TypeInfo} (h : szOf P t = some n) (hi : P.info? t = some i) : i.size = n := by
  simpa [szOf, hi] using h
theorem bytesOf_info {t : TypeId} {n : Nat} {i : TypeInfo} (h : bytesOf P t = some n) (hi : P.info? t = some i) : i.bytes = n := by
  unfold bytesOf at h
  rw [hi] at h
  simp only at h
  split at h <;> simp_all

/-- A new row behind a slice value of its own. -/
theorem row_out (h : Rl Γ s tm w β) {w1 : World} (hw : w1.heap = w.heap) (ho : w1.os = w.os) (ht : w1.tape = w.tape) (hp : w1.output = w.output) {d : Nat} (hd : d ∉ s.used) (hfx : d ∉ Γ.fx) (t : TypeId) {sz : Nat} {rows : List (List PV)} {cs : Array Value} (fz : Nat × Nat) (hfz : NF cs fz) (hsz : 0 < sz)
    (hr : ∀ (i : Nat) (row : List PV), rows[i]? = some row → row.length = sz)
    (hc : ∀ (i : Nat) (row : List PV) (j : Nat) (p : PV), rows[i]? = some row → row[j]? = some p → PR w (Av Γ.X β) p (cs.getD (i * sz + j) undef) ∧ (cs.getD (i * sz + j) undef).oneCell' = true)
    {cap : Nat} (hcap : rows.length ≤ cap) (hcs : cap * sz ≤ cs.size) (hm : cap ≤ maxLen) :
    ∃ β', Rl Γ (s.new d (.row sz rows)) tm (w1.alloc (.cells cs t fz)) β' ∧ AR (w1.alloc (.cells cs t fz)) (Av Γ.X β') β' (.lsl d 0 rows.length) (.slice (some ⟨w.heap.size, 0, none⟩) rows.length cap) := by
  have hl : rows.length * sz ≤ cs.size := Nat.le_trans (Nat.mul_le_mul_right _ hcap) hcs
  obtain ⟨β', hn, hb⟩ := new_row h hw ho ht hp hd hfx t fz hfz hsz hl hr hc
  refine ⟨β', hn, ?_⟩
  have := AR.lsl (w := w1.alloc (.cells cs t fz)) (A := Av Γ.X β') (β := β') d 0 rows.length _ cap hb rfl hcap (by simpa using hcs) (by simp) hm
  simpa using this

theorem madeCells_getD (z : Array Value) (sz i j n : Nat) (hz : z.size = sz) (hj : j < sz) (hl : i * sz + j < n) : (madeCells z n).getD (i * sz + j) undef = z.getD j undef := by
  have hm : (i * sz + j) % sz = j := by rw [Nat.mul_comm, Nat.mul_add_mod]; exact Nat.mod_eq_of_lt hj
  rw [Array.getD_eq_getD_getElem?, Array.getD_eq_getD_getElem?]
  have hjz : j < z.size := by omega
  simp [madeCells, hl, hz, hm]
  rw [getElem!_pos z j hjz, Array.getElem?_eq_getElem hjz]
  rfl

theorem make_sound (h : Rl Γ s tm w β) {t : TypeId} {n c : AV} {un uc : Value} {d : Nat} (hd : d ∉ s.used) (hfx : d ∉ Γ.fx) (hn : AR w (Av Γ.X β) β n un) (hc : AR w (Av Γ.X β) β c uc) (hK : opMake P t n c d K) :
    Out Γ s tm K ((Instr.makeSlice t un uc).run P w) := by
  unfold opMake at hK
  split at hK
  case h_2 => exact hK.elim
  rw [hn.val_inv, hc.val_inv]
  rename_i kn n kc c
  split at hK
  case h_2 => exact hK.elim
  rename_i e ht
  split at hK
  case h_2 => exact hK.elim
  rename_i z hz
  split at hK
  case h_2 => exact hK.elim
  rename_i sz hs
  split at hK
  case h_2 => exact hK.elim
  rename_i by_ hby
  split at hK
  case h_2 => exact hK.elim
  rename_i hzl
  obtain ⟨h0, hnc, hc1, hc2, hK⟩ := hK
  obtain ⟨i, zv, hi, hzv, rfl, hone, _⟩ := zeroOf_spec hz
  have hsz := szOf_info hs hi
  have hzs : zv.cells.size = sz + 1 := by have := natEq_spec hzl; simp at this; omega
  have hrun := run_make (P := P) w t e i zv ht hi hzv kn kc n c h0 hnc (by rw [bytesOf_info hby hi, Int.mul_comm]; exact hc2) (by omega)
  have hrep : ∀ (x : Nat) (row : List PV), (List.replicate n.toNat (zv.cells.toList.map PV.val))[x]? = some row → row = zv.cells.toList.map PV.val ∧ x < n.toNat := fun x row hx => by
    rw [List.getElem?_replicate] at hx
    split at hx
    · cases hx; exact ⟨rfl, by assumption⟩
    · cases hx
  have hmul : n.toNat * (sz + 1) ≤ c.toNat * (sz + 1) := Nat.mul_le_mul_right _ (by omega)
  obtain ⟨β', hR, hA⟩ := row_out h (w1 := w) rfl rfl rfl rfl hd hfx e (sz := sz + 1) (rows := List.replicate n.toNat (zv.cells.toList.map PV.val)) (cs := madeCells zv.cells (c.toNat * i.size)) (0, 0) (NF.zero _) (by omega)
    (fun x row hx => by rw [(hrep x row hx).1]; simp [hzs]) (fun x row y p hx hy => by
      obtain ⟨rfl, hxn⟩ := hrep x row hx
      simp only [List.getElem?_map, Option.map_eq_some_iff, Array.getElem?_toList] at hy
      obtain ⟨v, hv, rfl⟩ := hy
      have hyl : y < sz + 1 := by have := (Array.getElem?_eq_some_iff.1 hv).1; omega
      have hlt : x * (sz + 1) + y < c.toNat * (sz + 1) := by
        have : x * (sz + 1) + (sz + 1) ≤ n.toNat * (sz + 1) := by rw [← Nat.succ_mul]; exact Nat.mul_le_mul_right _ hxn
        omega
      rw [hsz, madeCells_getD _ _ _ _ _ hzs hyl hlt]
      have e : zv.cells.getD y undef = v := by rw [Array.getD_eq_getD_getElem?, hv]; rfl
      rw [e]
      exact ⟨.val _, hone v (by have := Array.mem_of_getElem? hv; simpa using this)⟩)
    (cap := c.toNat) (by simp; omega) (by rw [size_madeCells, hsz]; exact Nat.le_refl _) (by unfold maxLen; omega)
  refine ⟨_, _, _, _, β', hK, hrun, hR, by simpa using hA, by simp [AV.keys, St.acts, St.act, St.new]⟩

theorem srcRows_spec (h : Rl Γ s tm w β) {x : AV} {u : Value} (hx : AR w (Av Γ.X β) β x u) {sz : Nat} {rows : List (List PV)} (hs : srcRows x s.blk sz = some rows) :
    (∀ w' : World, (Builtin.lenOf u).run P w' = .ok rows.length w') ∧ (∀ (i : Nat) (row : List PV), rows[i]? = some row → row.length = sz) ∧
    ∀ c, c ≤ rows.length → ∃ cs : Array Value, (∀ w' : World, w'.heap = w.heap → (Builtin.firstCells sz c u).run P w' = .ok cs w') ∧ cs.size = c * sz ∧
      ∀ (i : Nat) (row : List PV) (j : Nat) (p : PV), rows[i]? = some row → i < c → row[j]? = some p → PR w (Av Γ.X β) p (cs.getD (i * sz + j) undef) ∧ (cs.getD (i * sz + j) undef).oneCell' = true := by
  -- out of cells that lie in a row
  have gen : ∀ (a : Addr) (cap : Nat) (f : Nat → Value), 0 < sz → (∀ (i : Nat) (row : List PV), rows[i]? = some row → row.length = sz) →
      (∀ (i : Nat) (row : List PV) (j : Nat) (p : PV), rows[i]? = some row → row[j]? = some p → w.cell? (a.add (i * sz + j)) = some (f (i * sz + j)) ∧ PR w (Av Γ.X β) p (f (i * sz + j)) ∧ (f (i * sz + j)).oneCell' = true) →
      u = .slice (some a) rows.length cap → (∀ w' : World, (Builtin.lenOf u).run P w' = .ok rows.length w') ∧ (∀ (i : Nat) (row : List PV), rows[i]? = some row → row.length = sz) ∧
    ∀ c, c ≤ rows.length → ∃ cs : Array Value, (∀ w' : World, w'.heap = w.heap → (Builtin.firstCells sz c u).run P w' = .ok cs w') ∧ cs.size = c * sz ∧
      ∀ (i : Nat) (row : List PV) (j : Nat) (p : PV), rows[i]? = some row → i < c → row[j]? = some p → PR w (Av Γ.X β) p (cs.getD (i * sz + j) undef) ∧ (cs.getD (i * sz + j) undef).oneCell' = true := by
    rintro a cap f hsz hl hf rfl
    refine ⟨fun _ => rfl, hl, fun c hc => ⟨((List.range (c * sz)).map f).toArray, fun w' hw' => ?_, by simp, fun i row j p hi hic hj => ?_⟩⟩
    · simp only [Builtin.firstCells]
      refine run_loadCells (P := P) w' a (c * sz) f fun y hy => ?_
      rw [World.cell?_of_block (w := w) (by rw [hw'])]
      have h1 : y / sz < c := Nat.div_lt_of_lt_mul (by rw [Nat.mul_comm]; exact hy)
      have h2 : y % sz < sz := Nat.mod_lt _ hsz
      have h3 : y / sz * sz + y % sz = y := by rw [Nat.mul_comm]; exact Nat.div_add_mod y sz
      have hrow : rows[y / sz]? = some rows[y / sz] := List.getElem?_eq_getElem (by omega)
      have hlen := hl _ _ hrow
      have hp : rows[y / sz][y % sz]? = some rows[y / sz][y % sz] := List.getElem?_eq_getElem (by omega)
      have := (hf _ _ _ _ hrow hp).1
      rw [h3] at this
      exact this
    · have hjl : j < sz := by have := hl i row hi; have := (List.getElem?_eq_some_iff.1 hj).1; omega
      have : i * sz + sz ≤ c * sz := by rw [← Nat.succ_mul]; exact Nat.mul_le_mul_right _ hic
      rw [getD_range _ _ _ (by omega)]
      exact (hf i row j p hi hj).2
  unfold srcRows at hs
  split at hs
  · split at hs
    case h_2 => cases hs
    rename_i hz
    have hz' := Nat.eq_of_beq_eq_true hz
    cases hz'
    cases hs
    cases hx with
    | pure _ _ hp =>
    cases hp with
    | slnil => exact ⟨fun _ => rfl, by simp, fun c hc => ⟨#[], fun _ _ => by simp [Builtin.firstCells], by simp at hc; simp [hc], by simp⟩⟩
    | sl _ _ a cap us hc hm hsz hb hl hr hp =>
      refine gen a cap (fun y => us (y / sz) (y % sz)) hsz hl (fun i row j p hi hj => ?_) rfl
      have hjl : j < sz := by have := hl i row hi; have := (List.getElem?_eq_some_iff.1 hj).1; omega
      have e1 : (i * sz + j) / sz = i := by
        rw [Nat.mul_comm, Nat.mul_add_div hsz, Nat.div_eq_of_lt hjl, Nat.add_zero]
      have e2 : (i * sz + j) % sz = j := by rw [Nat.mul_comm, Nat.mul_add_mod]; exact Nat.mod_eq_of_lt hjl
      simp only [e1, e2]
      exact ⟨(hr i row j p hi hj).1, hp i row j p hi hj, (hr i row j p hi hj).2⟩
  · rename_i k i n
    split at hs
    · rename_i z rows0 hblk
      split at hs
      case h_2 => cases hs
      rename_i hz
      obtain rfl := Nat.eq_of_beq_eq_true hz
      cases hs
      obtain ⟨bi, hβ, hb⟩ := h.live hblk
      have hb' := hb
      obtain ⟨h1, h2, h2', h3, h4⟩ := hb'
      cases hx with
      | lsl _ _ _ bi' cap hbb hv hn hcc hil hm =>
        rw [hβ] at hbb; cases hbb
        have hlen : ((rows0.drop i).take n).length = n := by simp; omega
        have hget : ∀ (x : Nat) (row : List PV), ((rows0.drop i).take n)[x]? = some row → rows0[i + x]? = some row := fun x row hx => by
          have hxn : x < n := by have := (List.getElem?_eq_some_iff.1 hx).1; omega
          rw [List.getElem?_take, if_pos hxn, List.getElem?_drop] at hx
          exact hx
        have hf : ∀ y, ∃ v, ∀ x row j p, ((rows0.drop i).take n)[x]? = some row → row[j]? = some p → y = x * z + j → w.cell? ⟨bi.b, i * bi.sz + y, none⟩ = some v ∧ PR w (Av Γ.X β) p v ∧ v.oneCell' = true := fun y => by
          by_cases hex : ∃ x row j p, ((rows0.drop i).take n)[x]? = some row ∧ row[j]? = some p ∧ y = x * z + j
          · obtain ⟨x, row, j, p, hx, hj, rfl⟩ := hex
            obtain ⟨v, g1, g2, g3⟩ := row_cell (w := w) (β := β) hb (hget x row hx) hj
            refine ⟨v, fun x' row' j' p' hx' hj' e => ?_⟩
            have hjl : j < z := by have := h3 _ row (hget x row hx); have := (List.getElem?_eq_some_iff.1 hj).1; omega
            have hjl' : j' < z := by have := h3 _ row' (hget x' row' hx'); have := (List.getElem?_eq_some_iff.1 hj').1; omega
            have e1 : (x * z + j) / z = x := by rw [Nat.mul_comm, Nat.mul_add_div h2, Nat.div_eq_of_lt hjl, Nat.add_zero]
            have e2 : (x' * z + j') / z = x' := by rw [Nat.mul_comm, Nat.mul_add_div h2, Nat.div_eq_of_lt hjl', Nat.add_zero]
            have exx : x' = x := by rw [← e1, ← e2, e]
            subst exx
            rw [hx] at hx'; cases hx'
            have ejj : j' = j := by omega
            subst ejj
            rw [hj] at hj'; cases hj'
            refine ⟨?_, g2, g3⟩
            rw [← g1]
            congr 2
            rw [h1, Nat.add_mul]; omega
          · exact ⟨undef, fun x row j p hx hj e => absurd ⟨x, row, j, p, hx, hj, e⟩ hex⟩
        obtain ⟨f, hf⟩ := Classical.axiomOfChoice hf
        refine gen ⟨bi.b, i * bi.sz, none⟩ cap f h2 (fun x row hx => h3 _ row (hget x row hx)) (fun x row j p hx hj => ?_) (by rw [hlen])
        rw [Addr.add_lit]
        exact hf _ x row j p hx hj rfl
      | lslV _ _ bi' a hbb =>
        rw [List.take_zero]
        refine ⟨fun _ => rfl, by simp, fun c hc => ⟨#[], fun _ _ => ?_, by simp at hc; simp [hc], by simp⟩⟩
        have : c = 0 := by simpa using hc
        subst this
        cases a <;> simp [Builtin.firstCells, loadCells, loadCellsFrom]
      | lslDead _ _ _ _ hd => rw [hβ] at hd; cases hd
    · cases hs
  · cases hs
    rw [hx.val_inv]
    exact ⟨fun _ => rfl, by simp, fun c hc => ⟨#[], fun _ _ => by simp [Builtin.firstCells], by simp at hc; simp [hc], by simp⟩⟩
  · rename_i str
    split at hs
    case h_2 => cases hs
    rename_i hz
    obtain rfl := Nat.eq_of_beq_eq_true hz
    cases hs
    rw [hx.val_inv]
    refine ⟨fun w' => by show Result.ok _ w' = _; simp <;> rfl, fun i row hi => ?_, fun c hc => ⟨((str.extract 0 c).data.map fun b => Value.int .u8 b.toNat), fun _ _ => rfl, ?_, fun i row j p hi hic hj => ?_⟩⟩
    · simp only [List.getElem?_map, Option.map_eq_some_iff] at hi
      obtain ⟨b, _, rfl⟩ := hi
      rfl
    · simp only [List.length_map, Array.length_toList] at hc
      have e1 : (str.extract 0 c).data.size = c := by
        show (str.extract 0 c).size = c
        rw [ByteArray.size_extract]
        have : str.size = str.data.size := rfl
        omega
      rw [Array.size_map, e1, Nat.mul_one]
    · simp only [List.getElem?_map, Option.map_eq_some_iff, Array.getElem?_toList] at hi
      obtain ⟨b, hb, rfl⟩ := hi
      cases j with
      | succ j => simp at hj
      | zero =>
        simp only [List.getElem?_cons_zero, Option.some.injEq] at hj
        subst hj
        have e : ((str.extract 0 c).data.map fun b => Value.int .u8 b.toNat).getD (i * 1 + 0) undef = Value.int .u8 (b.toNat : Int) := by
          rw [Array.getD_eq_getD_getElem?]
          rw [ByteArray.data_extract]
          simp only [Nat.mul_one, Nat.add_zero, Array.getElem?_map, Array.getElem?_extract]
          rw [if_pos (by have := (Array.getElem?_eq_some_iff.1 hb).1; omega)]
          simp [hb]
        rw [e]
        exact ⟨.val _, rfl⟩
  · cases hs
end
end Go.Avc
