/- The program's functions by the ghost evaluator: what each computes, and that it does. -/
import Derived.Test.YtnnbpmemkekbfaaGreatGh44
import Derived.Test.YtnnbpmemkekbfaaGreatGh47
import Derived.Test.YtnnbpmemkekbfaaGreatProg
import Derived.KernelRfl
import Derived.Test.YtnnbpmemkekbfaaGreatQd
set_option linter.unusedVariables false
set_option linter.unusedSimpArgs false
set_option maxRecDepth 100000
set_option maxHeartbeats 2000000
namespace Go.Proofs.Gh.Gm
def tys_z4 : List (Nat × TI) := []
theorem tys_z4_eq : tys_z4.map (fun x => tiOf Go.Proofs.Tryz.prog x.1 x.2.cks) = tys_z4.map fun x => some x.2 := by kernel_rfl
theorem typed_instr {k : Nat} {row : List C} (h : Typed Go.Proofs.Tryz.prog (k + 2) 112 row) : ∃ i : Instr, row = encInstr i ∧ True := by
  simp only [Typed, Go.Proofs.Tryz.underlying112, Go.Proofs.Tryz.underlying3, all2_cons, all2_nil] at h
  obtain ⟨parts, rfl, _, _, rfl, ⟨a, rfl, _⟩, _, _, rfl, ⟨b, rfl, _⟩, _, _, rfl, ⟨c, rfl, _⟩, _, _, rfl, ⟨d, rfl, _⟩, rfl⟩ := h
  exact ⟨⟨a, b, c, d⟩, rfl, trivial⟩
theorem typed_code {k : Nat} {row : List C} (h : Typed Go.Proofs.Tryz.prog (k + 3) 80 row) : ∃ c : List Instr, row = encCode false c ∧ c.length ≤ 9223372036854775807 := by
  rw [Typed, Go.Proofs.Tryz.underlying80] at h
  obtain ⟨es, rfl, hlen, hr⟩ := h
  obtain ⟨l, rfl, _⟩ := rows_map (f := encInstr) (G := fun _ => True) (es := es) (fun row hrow => typed_instr (hr row hrow))
  refine ⟨l, ?_, by simpa [maxLen] using hlen⟩
  rw [show Go.Proofs.Tryz.prog.cellsOf 112 = 4 by kernel_rfl]
theorem typed_prog {ds : List C} (h : Typed Go.Proofs.Tryz.prog 9 24 ds) : ∃ p : Prog, ds = encProg false p ∧ bndZ p.codes := by
  rw [Typed, Go.Proofs.Tryz.underlying24] at h
  obtain ⟨parts, rfl, h⟩ := h
  simp only [all2_cons, all2_nil] at h
  obtain ⟨x, _, rfl, hx, y, _, rfl, hy, rfl⟩ := h
  simp only [Typed, Go.Proofs.Tryz.underlying3] at hx
  obtain ⟨n, rfl, _⟩ := hx
  rw [Typed, Go.Proofs.Tryz.underlying22] at hy
  obtain ⟨es, rfl, hlen, hr⟩ := hy
  obtain ⟨l, rfl, hl⟩ := rows_map (f := encCode false) (G := fun c : List Instr => c.length ≤ 9223372036854775807) (es := es) (fun row hrow => typed_code (hr row hrow))
  refine ⟨⟨n, l⟩, ?_, by simpa [maxLen] using hlen, hl⟩
  rw [show Go.Proofs.Tryz.prog.cellsOf 80 = 1 by kernel_rfl]
  rfl
theorem typed_int1 {k : Nat} {row : List C} (h : Typed Go.Proofs.Tryz.prog (k + 1) 3 row) : ∃ n : Int, row = encInt n ∧ True := by
  simp only [Typed, Go.Proofs.Tryz.underlying3] at h
  obtain ⟨n, rfl, _⟩ := h
  exact ⟨n, rfl, trivial⟩
theorem typed_ints {k : Nat} {ds : List C} (h : Typed Go.Proofs.Tryz.prog (k + 2) 25 ds) : ∃ l : List Int, ds = [C.sl false none 1 (l.map encInt)] ∧ l.length ≤ 9223372036854775807 := by
  rw [Typed, Go.Proofs.Tryz.underlying25] at h
  obtain ⟨es, rfl, hlen, hr⟩ := h
  obtain ⟨l, rfl, _⟩ := rows_map (f := encInt) (G := fun _ => True) (es := es) (fun row hrow => typed_int1 (hr row hrow))
  refine ⟨l, ?_, by simpa [maxLen] using hlen⟩
  rw [show Go.Proofs.Tryz.prog.cellsOf 3 = 1 by kernel_rfl]
theorem typed_slots {k : Nat} {ds : List C} (h : Typed Go.Proofs.Tryz.prog (k + 3) 83 ds) : ∃ l : List Slot, ds = [C.sl false none 2 (l.map encSlot)] ∧ l.length ≤ 9223372036854775807 := by
  rw [Typed, Go.Proofs.Tryz.underlying83] at h
  obtain ⟨es, rfl, hlen, hr⟩ := h
  obtain ⟨l, rfl, _⟩ := rows_map (f := encSlot) (G := fun _ => True) (es := es) (fun row hrow => by
    have := hr row hrow
    simp only [Typed, Go.Proofs.Tryz.underlying126, Go.Proofs.Tryz.underlying3, all2_cons, all2_nil] at this
    obtain ⟨parts, rfl, _, _, rfl, ⟨a, rfl, _⟩, _, _, rfl, ⟨b, rfl, _⟩, rfl⟩ := this
    exact ⟨⟨a, b⟩, rfl, trivial⟩)
  refine ⟨l, ?_, by simpa [maxLen] using hlen⟩
  rw [show Go.Proofs.Tryz.prog.cellsOf 126 = 2 by kernel_rfl]
theorem typed_thread {k : Nat} {row : List C} (h : Typed Go.Proofs.Tryz.prog (k + 4) 85 row) : ∃ t : Thread, row = encTh false t ∧ (t.vals.length ≤ 9223372036854775807 ∧ t.buf.length ≤ 9223372036854775807) := by
  rw [Typed, Go.Proofs.Tryz.underlying85] at h
  obtain ⟨parts, rfl, h⟩ := h
  simp only [all2_cons, all2_nil] at h
  obtain ⟨x, _, rfl, hx, y, _, rfl, hy, z, _, rfl, hz, rfl⟩ := h
  simp only [Typed, Go.Proofs.Tryz.underlying3] at hx
  obtain ⟨n, rfl, _⟩ := hx
  obtain ⟨v, rfl, hv⟩ := typed_ints hy
  obtain ⟨b, rfl, hb⟩ := typed_slots hz
  exact ⟨⟨n, v, b⟩, rfl, hv, hb⟩
theorem typed_machine {ds : List C} (h : Typed Go.Proofs.Tryz.prog 9 30 ds) : ∃ m : Machine, ds = encMa false m ∧ (m.cells.length ≤ 9223372036854775807 ∧ bndTZ m.ths) := by
  rw [Typed, Go.Proofs.Tryz.underlying30] at h
  obtain ⟨parts, rfl, h⟩ := h
  simp only [all2_cons, all2_nil] at h
  obtain ⟨x, _, rfl, hx, y, _, rfl, hy, rfl⟩ := h
  rw [Typed, Go.Proofs.Tryz.underlying27] at hx
  obtain ⟨parts2, rfl, h⟩ := hx
  simp only [all2_cons, all2_nil] at h
  obtain ⟨c, _, rfl, hc, rfl⟩ := h
  obtain ⟨v, rfl, hv⟩ := typed_ints hc
  rw [Typed, Go.Proofs.Tryz.underlying28] at hy
  obtain ⟨es, rfl, hlen, hr⟩ := hy
  obtain ⟨l, rfl, hl⟩ := rows_map (f := encTh false) (G := fun t : Thread => t.vals.length ≤ 9223372036854775807 ∧ t.buf.length ≤ 9223372036854775807) (es := es) (fun row hrow => typed_thread (hr row hrow))
  refine ⟨⟨v, l⟩, ?_, hv, by simpa [maxLen] using hlen, hl⟩
  rw [show Go.Proofs.Tryz.prog.cellsOf 85 = 3 by kernel_rfl]
  rfl
theorem typed_move {ds : List C} (h : Typed Go.Proofs.Tryz.prog 9 32 ds) : ∃ c : Move, ds = encMove c ∧ True := by
  simp only [Typed, Go.Proofs.Tryz.underlying32, Go.Proofs.Tryz.underlying3, Go.Proofs.Tryz.underlying4, all2_cons, all2_nil] at h
  obtain ⟨parts, rfl, _, _, rfl, ⟨a, rfl, _⟩, _, _, rfl, ⟨b, rfl⟩, rfl⟩ := h
  exact ⟨⟨a, b⟩, rfl, trivial⟩
end Go.Proofs.Gh.Gm
