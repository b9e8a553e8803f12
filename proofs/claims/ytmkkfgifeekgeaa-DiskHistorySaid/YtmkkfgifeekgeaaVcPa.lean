/- A contract at arguments that say more. Conditions: none. -/
import Derived.Test.YtmkkfgifeekgeaaVcW
namespace Go.Avc
theorem PSpec.args {P : Program} {f : FuncId} {args args' : List PV} {res : PV} (h : PSpec P f args' res) (hs : SubL args args') : PSpec P f args res :=
  ⟨h.1, fun w X vs hsz hv hX => h.2 w X vs (by rw [hsz, hs.get.1]) (fun j p hp => by
    obtain ⟨p', hp', hsub⟩ := hs.get.2 j p hp
    exact hsub _ _ _ (hv j p' hp')) hX⟩
theorem PSpec.res {P : Program} {f : FuncId} {args : List PV} {r r' : PV} (h : PSpec P f args r) (hs : PSub r r') : PSpec P f args r' :=
  ⟨h.1, fun w X vs hsz hv hX => (h.2 w X vs hsz hv hX).mono fun _ _ ⟨v, e, hr, k⟩ => ⟨v, e, hs _ _ _ hr, k⟩⟩
end Go.Avc
