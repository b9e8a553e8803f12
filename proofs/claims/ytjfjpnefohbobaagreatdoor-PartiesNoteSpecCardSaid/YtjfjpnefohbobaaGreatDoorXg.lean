/- Parties: what Note answers; the law PartiesLinked. Conditions: none. -/
import Derived.Test.YtjfjpnefohbobaaGreatDoorWd
import Derived.Test.YtjfjpnefohbobaaGreatDoorXf
set_option linter.unusedSimpArgs false
set_option linter.unusedVariables false
set_option maxRecDepth 20000
set_option maxHeartbeats 4000000
namespace Go.Proofs.YtjfjpnefohbobaaGreatDoor
open Go.Avc
inductive NoteIs (p : Party) (kind day : Int) (body : List UInt8) : Party → Int → Prop
 | err (e : Int) (h0 : e ≠ 0) (h1 : e ≠ 470) : NoteIs p kind day body zeroP e
 | disk (d : K.Disk) (hv : p.valid) (h : ({ p with disk := d } : Party).valid) : NoteIs p kind day body { p with disk := d } 470
 | ok (d : K.Disk) (hv : p.valid) (hf : Fits p.log (mkR p.log p.id kind day body)) (h : (p.plus d (mkR p.log p.id kind day body)).valid) : NoteIs p kind day body (p.plus d (mkR p.log p.id kind day body)) 0
theorem note_is (p : Party) (kind day : Int) (body : List UInt8) : NoteIs p kind day body (p.note kind day body).1 (p.note kind day body).2 := by
 by_cases hv : p.valid
 · cases hs : p.disk.stopped with
   | false =>
     rcases note_run hv hs kind day body with ⟨h1, h2, h3⟩ | ⟨_, hf, ⟨d, h1, h2, _⟩ | ⟨_, d, h1, h2, _⟩⟩
     · rw [h3]; exact .err _ h1 h2
     · rw [h1]; exact .ok d hv hf h2
     · rw [h1]; exact .disk d hv h2
   | true =>
     rcases note_stopped hv hs kind day body with ⟨e, h1, h2, h3⟩ | ⟨h1, _⟩
     · rw [h3]; exact .err _ h1 h2
     · rw [h1]; exact .disk p.disk hv hv
 · have : p.note kind day body = (zeroP, 510) := by unfold Party.note; rw [if_neg hv]
   rw [this]
   exact .err _ (by decide) (by decide)
theorem plus_can {p : Party} {kind day : Int} {body : List UInt8} (hc : p.can) (hf : Fits p.log (mkR p.log p.id kind day body)) (hl : p.log.length ≤ 1000) (hj : K.lensN p.jour.records ≤ 40000) (hb : body.length ≤ 1000) (d : K.Disk) : (p.plus d (mkR p.log p.id kind day body)).can := by
 have hok := fits_ok hf (mkR_len _ _ _ _ _)
 refine ⟨fun x hx => ?_, by show (p.log ++ [_]).length ≤ _; simp; omega, ?_, hc.seed⟩
 · rcases List.mem_append.1 hx with h | h
   · exact hc.log x h
   · rw [List.mem_singleton.1 h]; exact ⟨hok, by show body.length ≤ _; omega⟩
 · have h1 := (recE_len hok (by show body.length ≤ _; omega)).1
   have h2 : (mkR p.log p.id kind day body).body.length = body.length := rfl
   show K.lensN (p.jour.records ++ [_]) ≤ _
   simp only [K.lensN, List.map_append, List.sum_append, List.map_cons, List.map_nil, List.sum_cons, List.sum_nil] at hj ⊢
   omega
attribute [local irreducible] PSub Wp PSpec Le Need Both
attribute [local irreducible] recE recD tagged sha headOf decF decode addR
end Go.Proofs.YtjfjpnefohbobaaGreatDoor
