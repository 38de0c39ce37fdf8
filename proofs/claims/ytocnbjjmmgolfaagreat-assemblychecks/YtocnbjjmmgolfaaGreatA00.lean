/- AssemblyChecks is proved: for all inputs the law returns true, without any condition; here the machine that the proof uses begins. -/
/- Short names for proofs that a tactic finds. -/
/- Short names for proofs that a tactic finds, in the texts of the evaluator and behind. -/
import Derived.KernelRfl
namespace Go
theorem J{α:Sort _}{a:α}:a=a:=rfl
theorem O{p:Prop}(h:p:=by omega):p:=h
theorem U{p:Prop}(h:p:=by decide):p:=h
theorem V0{p:Prop}(h:p:=by simp[Builtin.len_,h0,run_underlying hu,goInt]):p:=h
theorem V4{p:Prop}(h:p:=by(rw[List.length_map];omega)):p:=h
theorem V5{p:Prop}(h:p:=by exact fun b m h1 h2=>by rw[h2]at h1;cases h1):p:=h
theorem V6{p:Prop}(h:p:=by exact fun q=>by simp[Op.equalIn,run_underlying hu]):p:=h
theorem V7{p:Prop}(h:p:=by(simp[Op.operands];exact⟨p.1,by simpa using hp⟩)):p:=h
theorem Y5{p:Prop}(h:p:=by simp[Op.operands]):p:=h
theorem Y8{p:Prop}(h:p:=by simp):p:=h
theorem Z0{p:Prop}(h:p:=by kernel_rfl):p:=h
theorem Z1{p:Prop}(h:p:=by assumption):p:=h
theorem Z3{p:Prop}(h:p:=by exact Nat.le_refl _):p:=h
end Go
namespace Go
theorem Oz{p:Prop}(h:p:=by omega):p:=h
theorem Uz{p:Prop}(h:p:=by decide):p:=h
end Go
