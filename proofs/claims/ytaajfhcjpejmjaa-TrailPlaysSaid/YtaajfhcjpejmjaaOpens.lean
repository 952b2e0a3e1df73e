/- How the law's arguments read. -/
import Derived.Test.YtaajfhcjpejmjaaSyLaw
import Derived.Test.YtaajfhcjpejmjaaStoreDefs
namespace Go.Proofs.Ytaajfhcjpejmjaa
open Go Go.Sy Go.RowKit
theorem opens_sh (N : Nat) : OpensN Try.prog N 29 shK (fun _ => True) :=
  OpensN.mono (OpensN.imp (opens_struct Try.underlying29 (by kernel_rfl) (opf_cons rfl (by kernel_rfl) rfl (opens_int Try.underlying3 N) (opf_cons rfl (by kernel_rfl) rfl (opens_int Try.underlying3 N) (opf_cons rfl (by kernel_rfl) rfl (opens_int Try.underlying3 N) (opf_nil _ _ _))))) (by
    rintro F cs ⟨a, b, c, _⟩ ⟨c0, c1, rfl, h0, c2, c3, rfl, h1, c4, c5, rfl, h2, h3⟩ _
    have h0 : c0 = [.int .i64 a] := h0
    have h1 : c2 = [.int .i64 b] := h1
    have h2 : c4 = [.int .i64 c] := h2
    have h3 : c5 = [] := h3
    subst h0; subst h1; subst h2; subst h3
    exact ⟨⟨a, b, c⟩, rfl, trivial⟩))
theorem opens_shs (N : Nat) : OpensN Try.prog N 22 (Kind.slice shK) (fun xs => xs.length * 24 ≤ 140737488351232 ∧ ∀ x ∈ xs, True) :=
  OpensN.mono (opens_slice Try.underlying22 (by kernel_rfl) (by kernel_rfl) (opens_sh N))
end Go.Proofs.Ytaajfhcjpejmjaa
