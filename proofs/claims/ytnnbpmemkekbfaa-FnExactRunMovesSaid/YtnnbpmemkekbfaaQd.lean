/- The program's functions by the ghost evaluator: what each computes, and that it does. -/
import Derived.Test.YtnnbpmemkekbfaaGh44
import Derived.Test.YtnnbpmemkekbfaaGh47
import Derived.Test.YtnnbpmemkekbfaaProg
import Derived.KernelRfl
import Derived.Test.YtnnbpmemkekbfaaQa
set_option linter.unusedVariables false
set_option linter.unusedSimpArgs false
set_option maxRecDepth 100000
set_option maxHeartbeats 2000000
namespace Go.Proofs.Gh.Gm
def tys_m16 : List (Nat × TI) := []
theorem tys_m16_eq : tys_m16.map (fun x => tiOf Go.Proofs.Try.prog x.1 x.2.cks) = tys_m16.map fun x => some x.2 := by kernel_rfl
theorem typed_instr {k : Nat} {row : List C} (h : Typed Go.Proofs.Try.prog (k + 2) 143 row) : ∃ i : Instr, row = encInstr i ∧ True := by
  simp only [Typed, Go.Proofs.Try.underlying143, Go.Proofs.Try.underlying3, all2_cons, all2_nil] at h
  obtain ⟨parts, rfl, _, _, rfl, ⟨a, rfl, _⟩, _, _, rfl, ⟨b, rfl, _⟩, _, _, rfl, ⟨c, rfl, _⟩, _, _, rfl, ⟨d, rfl, _⟩, rfl⟩ := h
  exact ⟨⟨a, b, c, d⟩, rfl, trivial⟩
theorem typed_code {k : Nat} {row : List C} (h : Typed Go.Proofs.Try.prog (k + 3) 116 row) : ∃ c : List Instr, row = encCode false c ∧ c.length ≤ 9223372036854775807 := by
  rw [Typed, Go.Proofs.Try.underlying116] at h
  obtain ⟨es, rfl, hlen, hr⟩ := h
  obtain ⟨l, rfl, _⟩ := rows_map (f := encInstr) (G := fun _ => True) (es := es) (fun row hrow => typed_instr (hr row hrow))
  refine ⟨l, ?_, by simpa [maxLen] using hlen⟩
  rw [show Go.Proofs.Try.prog.cellsOf 143 = 4 by kernel_rfl]
theorem typed_prog {ds : List C} (h : Typed Go.Proofs.Try.prog 9 50 ds) : ∃ p : Prog, ds = encProg false p ∧ bndZ p.codes := by
  rw [Typed, Go.Proofs.Try.underlying50] at h
  obtain ⟨parts, rfl, h⟩ := h
  simp only [all2_cons, all2_nil] at h
  obtain ⟨x, _, rfl, hx, y, _, rfl, hy, rfl⟩ := h
  simp only [Typed, Go.Proofs.Try.underlying3] at hx
  obtain ⟨n, rfl, _⟩ := hx
  rw [Typed, Go.Proofs.Try.underlying48] at hy
  obtain ⟨es, rfl, hlen, hr⟩ := hy
  obtain ⟨l, rfl, hl⟩ := rows_map (f := encCode false) (G := fun c : List Instr => c.length ≤ 9223372036854775807) (es := es) (fun row hrow => typed_code (hr row hrow))
  refine ⟨⟨n, l⟩, ?_, by simpa [maxLen] using hlen, hl⟩
  rw [show Go.Proofs.Try.prog.cellsOf 116 = 1 by kernel_rfl]
  rfl
theorem typed_moves {ds : List C} (h : Typed Go.Proofs.Try.prog 9 51 ds) : ∃ (nl : Option Bool) (l : List Move), ds = [C.sl false nl 2 (l.map encMove)] ∧ l.length ≤ 9223372036854775807 := by
  rw [Typed, Go.Proofs.Try.underlying51] at h
  obtain ⟨es, rfl, hlen, hr⟩ := h
  obtain ⟨l, rfl, _⟩ := rows_map (f := encMove) (G := fun _ => True) (es := es) (fun row hrow => by
    have := hr row hrow
    simp only [Typed, Go.Proofs.Try.underlying87, Go.Proofs.Try.underlying3, Go.Proofs.Try.underlying4, all2_cons, all2_nil] at this
    obtain ⟨parts, rfl, _, _, rfl, ⟨a, rfl, _⟩, _, _, rfl, ⟨b, rfl⟩, rfl⟩ := this
    exact ⟨⟨a, b⟩, rfl, trivial⟩)
  refine ⟨none, l, ?_, by simpa [maxLen] using hlen⟩
  rw [show Go.Proofs.Try.prog.cellsOf 87 = 2 by kernel_rfl]
end Go.Proofs.Gh.Gm
