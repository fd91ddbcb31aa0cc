/- The program's functions by the ghost evaluator: what each computes, and that it does. -/
import Derived.Test.YtmpnmcnjhpekaaaGh47
import Derived.Test.YtmpnmcnjhpekaaaGh48
import Derived.Test.YtmpnmcnjhpekaaaGh45
import Derived.Test.YtmpnmcnjhpekaaaProg
import Derived.KernelRfl
import Derived.Test.YtmpnmcnjhpekaaaQd
set_option linter.unusedVariables false
set_option linter.unusedSimpArgs false
set_option maxRecDepth 100000
set_option maxHeartbeats 2000000
namespace Go.Proofs.Gh.Gm
def tys_al : List (Nat × TI) := [(3, ⟨false, 8, [.int .i64], [.int 0], .scalar, false, none⟩),
  (4, ⟨false, 1, [.bool], [.bool false], .scalar, false, none⟩),
  (5, ⟨false, 1, [.int .u8], [.v (.int .u8 0)], .scalar, false, none⟩),
  (23, ⟨false, 24, [.sl 1], [.sl true (some true) 1 []], .slice 3, false, none⟩),
  (38, ⟨false, 24, [.sl 1], [.sl true (some true) 1 []], .slice 5, false, none⟩),
  (64, ⟨false, 24, [.sl 1], [.sl true (some true) 1 []], .slice 69, false, none⟩),
  (66, ⟨true, 32, [.int .i64, .sl 1], [.int 0, .sl true (some true) 1 []], .struct [(0, 1, false), (1, 1, false)], false, none⟩),
  (69, ⟨false, 24, [.sl 4], [.sl true (some true) 4 []], .slice 135, false, none⟩),
  (72, ⟨false, 24, [.sl 3], [.sl true (some true) 3 []], .slice 84, false, none⟩),
  (74, ⟨true, 48, [.sl 1, .sl 3], [.sl true (some true) 1 [], .sl true (some true) 3 []], .struct [(0, 1, true), (1, 1, false)], false, none⟩),
  (75, ⟨false, 0, [], [], .tuple [74, 4], false, none⟩),
  (78, ⟨true, 16, [.int .i64, .bool], [.int 0, .bool false], .struct [(0, 1, false), (1, 1, false)], true, none⟩),
  (84, ⟨true, 56, [.int .i64, .sl 1, .sl 2], [.int 0, .sl true (some true) 1 [], .sl true (some true) 2 []], .struct [(0, 1, false), (1, 1, false), (2, 1, false)], false, none⟩)]
theorem tys_al_eq : tys_al.map (fun x => tiOf Go.Proofs.Try.prog x.1 x.2.cks) = tys_al.map fun x => some x.2 := by kernel_rfl
/-! iStart: loop.example/g00712/impl.Start -/
noncomputable def QiStart : Fx := ⟨Go.Proofs.Try.f52, [.ro], false, mkEnv tys_al [(103, SiProgOk), (104, Sistart)] [], fun _ => .stop, []⟩
noncomputable def FiStart : List S → Option Res := veil QiStart.run
noncomputable def SiStart : Spec := ⟨[.ro], false, FiStart⟩
theorem miStart (x1 : Int) (x2 : List (List C)) : FiStart [.agg [.int x1, .sl false none 1 x2]] = cV false [.bool] (FiProgOk [.agg [.int x1, .sl false none 1 x2]]) fun b1 => bif !b1 then fr false 1 [.agg [.sl true none 1 [], .sl true none 3 []], .one (.bool false)] else cV true [.sl 1, .sl 3] (Fistart [.agg [.int x1, .sl false none 1 x2]]) fun o1 l1 o2 l2 => fr false 1 [.agg [.sl true none 1 l1, .sl true none 3 l2], .one (.bool true)] := Fx.eq (by kernel_rfl)
theorem okiStart : CalleeOk Go.Proofs.Try.prog 52 SiStart := Fx.ok (F := QiStart) follows (envTy_mk tys_al_eq) (envSpec_of (specsOk_cons okiProgOk (specsOk_cons okistart specsOk_nil))) Go.Proofs.Try.func52 (by kernel_rfl) (by kernel_rfl) (by rw [show subs QiStart.code = [] by kernel_rfl]; trivial) (by kernel_rfl) (by kernel_rfl) rfl
theorem FiStart_at (p : Prog) (h : bndL p.codes) : FiStart [S.agg (encProg false p)] = some (S.tup [S.agg (encMa true (bif progOk p then startM p else ⟨[], []⟩)), S.one (C.bool (progOk p))], [S.one C.unk]) := by
  rw [miStart, FiProgOk_at _ h]
  cases hp : progOk p
  · simp
  · have e := Fistart_at p hp
    simp only [encMa, encProg] at e
    simp [e]
/-! wsame: loop.example/g00712/laws.same -/
@[reducible] def hwsame_4 : Sh := ⟨[.one (.o (.sl false 1)), .one (.o (.sl false 1)), .one (.o (.i .i64))], []⟩
@[reducible] def xwsame_4 : List (Ex × Sh) := [(.ret, ⟨[.one (.o .b)], []⟩), (.exit 0, ⟨[.one (.o .u)], []⟩)]
noncomputable def Rwsame_4 : KC xwsame_4 (hwsame_4.K → hwsame_4.K) := fun k0 k1 nx v1 v2 v3 v4 v5 => bif decide (v5 < (v2.length : Int)) then ix v5 v2 ((v2[Int.toNat v5]?).bind fun w1 => tRo [.int .i64] w1 fun n1 => ix v5 v4 ((v4[Int.toNat v5]?).bind fun w2 => tRo [.int .i64] w2 fun n2 => bif n1 != n2 then k0 false else nx v1 v2 v3 v4 (W (v5 + 1)))) else k1
noncomputable def Lwsame_4 : Lp := ⟨4, [0, 1, 5], [4], 0, 26, hwsame_4, xwsame_4, Rwsame_4⟩
noncomputable def Qwsame : Fx := ⟨Go.Proofs.Try.f40, [.ro, .ro], false, mkEnv tys_al [] [], fun id => bif Nat.beq id 6 then .sq [0, 1, 2, 3, 4, 5, 6, 7, 8] .stop else .stop, [Lwsame_4]⟩
noncomputable def Fwsame : List S → Option Res := veil Qwsame.run
noncomputable def Swsame : Spec := ⟨[.ro, .ro], false, Fwsame⟩
theorem mwsame (x1 : Option Bool) (x2 : List (List C)) (x3 : Option Bool) (x4 : List (List C)) : Fwsame [.one (.sl false x1 1 x2), .one (.sl false x3 1 x4)] = bif (x2.length : Int) != (x4.length : Int) then fr false 2 [.one (.bool false)] else iterC (Rwsame_4 (fun y1 => fr false 2 [.one (.bool y1)]) (fr false 2 [.one (.bool true)])) FUEL x1 x2 x3 x4 0 := Fx.eq (by kernel_rfl)
theorem stwsame_4 : Lwsame_4.Step Qwsame.E Qwsame.dr Qwsame.lp ((findLoop 4 Qwsame.code).getD .skip) := fun k nx v => by kernel_rfl
theorem okwsame : CalleeOk Go.Proofs.Try.prog 40 Swsame := Fx.ok (F := Qwsame) follows (envTy_mk tys_al_eq) (envSpec_of (specsOk_nil)) Go.Proofs.Try.func40 (by kernel_rfl) (by kernel_rfl) (by
  rw [show subs Qwsame.code = [(findLoop 4 Qwsame.code).getD .skip] by kernel_rfl]
  exact ⟨stepAt_some (by kernel_rfl) stwsame_4, trivial⟩) (by kernel_rfl) (by kernel_rfl) rfl
theorem Fwsame_at (nl : Option Bool) (a : List Int) (nl' : Option Bool) (b : List Int) (h : a.length < 4611686018427387903) : Fwsame [S.one (C.sl false nl 1 (a.map encInt)), S.one (C.sl false nl' 1 (b.map encInt))] = some (S.one (C.bool (decide (a = b))), [S.one C.unk, S.one C.unk]) := by
  rw [mwsame]
  by_cases hl : a.length = b.length
  · have e1 : (((a.map encInt).length : Int) != ((b.map encInt).length : Int)) = false := by simp [hl]
    rw [e1, cond_false]
    refine (iter_eq (h := hwsame_4) a b (fun i f => f nl (a.map encInt) nl' (b.map encInt) (i : Int)) (fr false 2 [.one (.bool true)]) (fr false 2 [.one (.bool false)]) (by omega) hl ?_ ?_).trans ?_
    · intro nx; simp [Rwsame_4]
    · intro nx i hi hi' hW
      have e' : (a[i] == b[i]) = decide (a[i] = b[i]) := by by_cases e : a[i] = b[i] <;> simp [e]
      simp [Rwsame_4, hi, hi', hW, bne, e']
      try (cases decide (a[i] = b[i]) <;> simp)
    · by_cases e : a = b <;> simp [e]
  · have e1 : (((a.map encInt).length : Int) != ((b.map encInt).length : Int)) = true := by simp; omega
    have e2 : ¬ a = b := fun e => hl (by rw [e])
    rw [e1]; simp [e2]
/-! wat: loop.example/g00712/laws.at -/
noncomputable def Qwat : Fx := ⟨Go.Proofs.Try.f34, [.ro, .ro], false, mkEnv tys_al [] [], fun _ => .stop, []⟩
noncomputable def Fwat : List S → Option Res := veil Qwat.run
noncomputable def Swat : Spec := ⟨[.ro, .ro], false, Fwat⟩
theorem mwat (x1 : Option Bool) (x2 : List (List C)) (x3 : Int) : Fwat [.one (.sl false x1 1 x2), .one (.int x3)] = bif decide (x3 < (x2.length : Int)) then ix x3 x2 ((x2[Int.toNat x3]?).bind fun w1 => tRo [.int .u8] w1 fun n1 => fr false 2 [.one (.int (W (n1)))]) else fr false 2 [.one (.int (Int.tmod (W ((W (x3 * 13)) + (W ((x2.length : Int) * 5)))) 256))] := Fx.eq (by kernel_rfl)
theorem okwat : CalleeOk Go.Proofs.Try.prog 34 Swat := Fx.ok (F := Qwat) follows (envTy_mk tys_al_eq) (envSpec_of (specsOk_nil)) Go.Proofs.Try.func34 (by kernel_rfl) (by kernel_rfl) (by rw [show subs Qwat.code = [] by kernel_rfl]; trivial) (by kernel_rfl) (by kernel_rfl) rfl
theorem dAt (o : Option Bool) (bs : List Int) (i : Nat) (h : bs.length ≤ 1048576) (hi : i ≤ 1048576) : ∃ v, Fwat [.one (.sl false o 1 (bs.map encB)), .one (.int i)] = some (.one (.int v), [.one .unk, .one .unk]) := by
  have hm := mwat o (bs.map encB) i
  by_cases hk : i < bs.length
  · exact ⟨W bs[i], hm.trans (by simp [hk, C.asInt])⟩
  · have h1 : ¬ (i : Int) < (bs.length : Int) := by omega
    exact ⟨_, hm.trans (by simp [h1]; rfl)⟩
/-- Memory behind all the slots of a buffer. -/
def drained (b : List Slot) (c : List Int) : List Int := b.foldl (fun c s => c.set s.a.toNat s.v) c
theorem drained_len (b : List Slot) (c : List Int) : (drained b c).length = c.length := by
  unfold drained
  induction b generalizing c with
  | nil => rfl
  | cons s b ih => rw [List.foldl_cons, ih]; simp
theorem drained_get {b : List Slot} {c : List Int} {a : Int} (hb : ∀ s ∈ b, 0 ≤ s.a ∧ s.a < c.length) (ha : 0 ≤ a) : (drained b c)[a.toNat]?.getD 0 = readT b c a := by
  rw [← readT_foldl]
  unfold drained
  induction b generalizing c with
  | nil => rfl
  | cons s b ih =>
    rw [List.foldl_cons, List.foldl_cons, ih (fun x hx => by simpa using hb x (by simp [hx]))]
    have hs := hb s (by simp)
    congr 1
    by_cases e : s.a = a
    · subst e
      have : s.a.toNat < c.length := by omega
      simp [this]
    · have : ¬ s.a.toNat = a.toNat := by omega
      simp [List.getElem?_set, this, e]
theorem alone_drain {p : Prog} {ca : List Int} {pc : Int} {vals : List Int} {buf : List Slot} (hm : isMa p ⟨ca, [⟨pc, vals, buf⟩]⟩ = true) (hc : canMv p ⟨ca, [⟨pc, vals, buf⟩]⟩ 0 true = true) :
    ∃ ca' buf', mvM p ⟨ca, [⟨pc, vals, buf⟩]⟩ 0 true = ⟨ca', [⟨pc, vals, buf'⟩]⟩ ∧ drained buf' ca' = drained buf ca := by
  obtain ⟨_, th, s, b, h1, h2, h3, h4⟩ := drOk_of hm hc
  simp at h1
  subst h1
  simp only at h2
  subst h2
  exact ⟨ca.set s.a.toNat s.v, b, by simp [mvM, drainM], by simp [drained]⟩
theorem alone_step {p : Prog} {ca : List Int} {pc : Int} {vals : List Int} {buf : List Slot} (hp : progOk p = true) (hm : isMa p ⟨ca, [⟨pc, vals, buf⟩]⟩ = true) (hc : canMv p ⟨ca, [⟨pc, vals, buf⟩]⟩ 0 false = true) :
    ∃ ca' pc' vals' buf', mvM p ⟨ca, [⟨pc, vals, buf⟩]⟩ 0 false = ⟨ca', [⟨pc', vals', buf'⟩]⟩ ∧ stepM p ⟨drained buf ca, [⟨pc, vals, []⟩]⟩ 0 = ⟨drained buf' ca', [⟨pc', vals', []⟩]⟩ ∧ running p ⟨drained buf ca, [⟨pc, vals, []⟩]⟩ 0 = true := by
  obtain ⟨_, hx⟩ := exOk_of hp hm hc
  obtain ⟨ht, hcc, n, hn, hpc, hth, hin, hmo, hml, hcl, h3, he⟩ := exOk_get hx
  simp at ht hcc hn hpc hth hin h3 he hml
  subst hpc
  obtain ⟨c0, cs, hco⟩ : ∃ c0 cs, p.codes = c0 :: cs := by
    cases hcs : p.codes with
    | nil => rw [hcs] at hcc; simp at hcc
    | cons c0 cs => exact ⟨c0, cs, rfl⟩
  obtain ⟨hpp, hv4, hvv, hbo, hbc⟩ := thOk_iff.1 hth
  simp only at hbc hbo
  have hbs : ∀ s ∈ buf, 0 ≤ s.a ∧ s.a < ca.length := fun s hs => by
    simp only [bufOk, slotOk, inB, Bool.and_eq_true, List.all_eq_true, decide_eq_true_eq] at hbo
    have := (hbo.2 s hs).1.1
    have := hbc s hs
    omega
  simp only [hco, List.getElem_cons_zero] at hn hin h3 he
  have hrun : running p ⟨drained buf ca, [⟨(n : Int), vals, []⟩]⟩ 0 = true := by
    simp [running, inB, hco, hn]
  have hfen : fenceI c0[n] = true → buf = [] := by
    intro hf
    have h2 := hc
    simp only [canMv, Bool.and_eq_true] at h2
    have h2 := h2.2
    simp [hco, hn] at h2
    by_cases h33 : c0[n].op = 3
    · simp [fenceI, h33] at hf
    · simpa [h33, hf] using h2
  generalize hi : c0[n] = i at *
  have hg8 := hin
  simp only [instrOk, Bool.and_eq_true] at hg8
  obtain ⟨⟨⟨⟨⟨⟨⟨g1, g2⟩, g3⟩, g4⟩, g5⟩, g6⟩, g7⟩, g8⟩ := hg8
  simp only [inB, Bool.and_eq_true, decide_eq_true_eq] at g3
  have hex : ∀ c b, execM p ⟨c, [⟨(n : Int), vals, b⟩]⟩ 0 = execI ⟨c, [⟨(n : Int), vals, b⟩]⟩ 0 ⟨(n : Int), vals, b⟩ i := fun c b => by
    simp [execM, instrAt, hco, hn, hi]
  have hdr0 : ∀ c (x : Thread), drainAllM ⟨c, [x]⟩ 0 = ⟨drained x.buf c, [{ x with buf := [] }]⟩ := fun c x => by simp [drainAllM, drained]
  have hd0 : ∀ c, drained [] c = c := fun c => rfl
  have hds : ∀ c s, drained (buf ++ [s]) c = (drained buf c).set s.a.toNat s.v := fun c s => by simp [drained]
  have hcases : i.op = 0 ∨ i.op = 1 ∨ i.op = 8 ∨ i.op = 4 ∨ i.op = 6 ∨ i.op = 2 ∨ i.op = 3 ∨ i.op = 5 ∨ i.op = 7 := by omega
  have hn2 : i.op = 2 ∨ i.op = 3 ∨ i.op = 5 ∨ i.op = 7 → 0 ≤ i.n := by
    intro ho
    have : inB i.n 0 (p.cells - 1) = true := by
      rcases ho with e | e | e | e <;> simpa [useN, e] using g8
    simp only [inB, Bool.and_eq_true, decide_eq_true_eq] at this
    exact this.1
  have hmv : mvM p ⟨ca, [⟨(n : Int), vals, buf⟩]⟩ 0 false = execI ⟨ca, [⟨(n : Int), vals, buf⟩]⟩ 0 ⟨(n : Int), vals, buf⟩ i := by
    simp only [mvM, cond_false]; exact hex ca buf
  have hst : stepM p ⟨drained buf ca, [⟨(n : Int), vals, []⟩]⟩ 0 = drainAllM (execI ⟨drained buf ca, [⟨(n : Int), vals, []⟩]⟩ 0 ⟨(n : Int), vals, []⟩ i) 0 := by
    simp only [stepM, hdr0, hd0]
    rw [hex]
  rw [hmv, hst]
  clear hmv hst hex hc hm hx hth he hin h3
  rcases hcases with e | e | e | e | e | e | e | e | e
  · exact ⟨_, _, _, _, by simp [execI, e]; exact ⟨rfl, rfl, rfl, rfl⟩, by simp [execI, e, hdr0, hd0], hrun⟩
  · exact ⟨_, _, _, _, by simp [execI, e]; exact ⟨rfl, rfl, rfl, rfl⟩, by simp [execI, e, hdr0, hd0], hrun⟩
  · exact ⟨_, _, _, _, by simp [execI, e]; exact ⟨rfl, rfl, rfl, rfl⟩, by simp [execI, e, hdr0, hd0], hrun⟩
  · exact ⟨_, _, _, _, by simp [execI, e]; exact ⟨rfl, rfl, rfl, rfl⟩, by simp [execI, e, hdr0, hd0], hrun⟩
  · exact ⟨_, _, _, _, by simp [execI, e]; exact ⟨rfl, rfl, rfl, rfl⟩, by simp [execI, e, hdr0, hd0], hrun⟩
  · have hr : readT buf ca i.n = readT [] (drained buf ca) i.n := by
      rw [← drained_get hbs (hn2 (by omega))]; rfl
    exact ⟨_, _, _, _, by simp [execI, e]; exact ⟨rfl, rfl, rfl, rfl⟩, by simp [execI, e, hdr0, hd0, hr], hrun⟩
  · exact ⟨_, _, _, _, by simp [execI, e]; exact ⟨rfl, rfl, rfl, rfl⟩, by simp [execI, e, hdr0, hds]; simp [drained], hrun⟩
  · have hb := hfen (by simp [fenceI, e])
    subst hb
    simp only [hd0]
    cases hz : (ca[i.n.toNat]?.getD 0 == vals[i.r.toNat]?.getD 0)
    · exact ⟨_, _, _, _, by simp [execI, e, hz]; exact ⟨rfl, rfl, rfl, rfl⟩, by simp [execI, e, hz, hdr0, hd0], hrun⟩
    · exact ⟨_, _, _, _, by simp [execI, e, hz]; exact ⟨rfl, rfl, rfl, rfl⟩, by simp [execI, e, hz, hdr0, hd0], hrun⟩
  · have hb := hfen (by simp [fenceI, e])
    subst hb
    simp only [hd0]
    exact ⟨_, _, _, _, by simp [execI, e]; exact ⟨rfl, rfl, rfl, rfl⟩, by simp [execI, e, hdr0, hd0], hrun⟩
/-! wFnAlone: loop.example/g00712/laws.FnAlone -/
@[reducible] def hwFnAlone_12 : Sh := ⟨[.one (.o (.sl false 1)), .one (.o (.pl 2 0 [])), .one (.o (.pl 6 0 [])), .one (.o (.pl 9 0 [])), .one (.o (.i .i64))], [(true, [.o .u]), (false, [.o (.i .i64), .o (.sl true 1)]), (false, [.o (.i .i64), .o (.sl true 1)]), (true, [.o .u]), (true, [.o .u]), (true, [.o .u]), (false, [.o (.sl true 1), .o (.sl true 3)]), (true, [.o .u]), (true, [.o .u]), (false, [.o (.sl true 1), .o (.sl true 3)])]⟩
@[reducible] def xwFnAlone_12 : List (Ex × Sh) := [(.ret, ⟨[.one (.o .b)], [(true, [.o .u]), (false, [.o (.i .i64), .o (.sl true 1)]), (false, [.o (.i .i64), .o (.sl true 1)]), (true, [.o .u]), (true, [.o .u]), (true, [.o .u]), (false, [.o (.sl true 1), .o (.sl true 3)]), (true, [.o .u]), (true, [.o .u]), (false, [.o (.sl true 1), .o (.sl true 3)]), (false, [.o (.i .i64), .o .b]), (true, [.o .u]), (true, [.o .u]), (false, [.o .u, .o .u])]⟩), (.ret, ⟨[.one (.o .b)], [(true, [.o .u]), (false, [.o (.i .i64), .o (.sl true 1)]), (false, [.o (.i .i64), .o (.sl true 1)]), (true, [.o .u]), (true, [.o .u]), (true, [.o .u]), (false, [.o (.sl true 1), .o (.sl true 3)]), (true, [.o .u]), (true, [.o .u]), (false, [.o (.sl true 1), .o (.sl true 3)]), (false, [.o (.i .i64), .o .b]), (true, [.o .u]), (true, [.o .u]), (false, [.o .u, .o .u]), (true, [.o .u]), (true, [.o .u]), (false, [.o (.sl true 1), .o (.sl true 3)])]⟩), (.ret, ⟨[.one (.o .b)], [(true, [.o .u]), (false, [.o (.i .i64), .o (.sl true 1)]), (false, [.o (.i .i64), .o (.sl true 1)]), (true, [.o .u]), (true, [.o .u]), (true, [.o .u]), (false, [.o (.sl true 1), .o (.sl true 3)]), (true, [.o .u]), (true, [.o .u]), (false, [.o (.sl true 1), .o (.sl true 3)]), (false, [.o (.i .i64), .o .b]), (true, [.o .u]), (true, [.o .u]), (false, [.o .u, .o .u]), (true, [.o .u]), (true, [.o .u]), (false, [.o .u, .o .u])]⟩), (.exit 0, ⟨[.one (.o .u)], [(true, [.o .u]), (false, [.o (.i .i64), .o (.sl true 1)]), (false, [.o (.i .i64), .o (.sl true 1)]), (true, [.o .u]), (true, [.o .u]), (true, [.o .u]), (false, [.o (.sl true 1), .o (.sl true 3)]), (true, [.o .u]), (true, [.o .u]), (false, [.o (.sl true 1), .o (.sl true 3)])]⟩)]
noncomputable def RwFnAlone_12 : KC xwFnAlone_12 (hwFnAlone_12.K → hwFnAlone_12.K) := fun k0 k1 k2 k3 nx v1 v2 v3 v4 v5 v6 v7 v8 v9 v10 v11 v12 v13 v14 v15 v16 v17 => bif decide (v3 < 60) then cV false [.int .i64] (Fwat [.one (.sl false v1 1 v2), .one (.int v3)]) fun n2 => bif Int.tmod n2 3 == 0 then cT [(true, [.sl 1, .sl 3]), (false, [.bool])] (FiDoMove [.agg [.int v7, .sl false none 1 (freezeRows v9)], .agg [.sl false none 1 (freezeRows v11), .sl false none 3 (freezeRows v13)], .agg [.int 0, .bool true]]) fun o7 l7 o8 l8 b5 => bif !b5 then nx v1 v2 (W (v3 + 1)) v4 v5 v6 v7 v8 v9 v10 v11 v12 v13 v14 v15 v16 v17 else bif (l8.length : Int) == 0 then k0 false v4 v5 v6 v7 v8 v9 none l7 none l8 v14 v15 v16 v17 0 true else bif (v17.length : Int) == 0 then k0 false v4 v5 v6 v7 v8 v9 none l7 none l8 v14 v15 v16 v17 0 true else ix 0 l8 ((l8[0]?).bind fun w3 => tOwn [.int .i64] w3 fun n3 => ix 0 v17 ((v17[0]?).bind fun w4 => tOwn [.int .i64] w4 fun n4 => bif n3 != n4 then k0 false v4 v5 v6 v7 v8 v9 none l7 none l8 v14 v15 v16 v17 0 true else ix 0 l8 ((l8[0]?).bind fun w5 => tOwn [.sl 1] (List.drop 1 w5) (ix 0 v17 ((v17[0]?).bind fun w6 => tOwn [.sl 1] (List.drop 1 w6) ((l8[0]?).bind fun w7 => (w7[1]?).bind fun c2 => if C.nested c2 then (v17[0]?).bind fun w8 => (w8[1]?).bind fun c3 => if C.nested c3 then cV false [.bool] (Fwsame [.one (C.freeze c2), .one (C.freeze c3)]) fun b6 => bif !b6 then k0 false v4 v5 v6 v7 v8 v9 none l7 none l8 v14 v15 v16 v17 0 true else nx v1 v2 (W (v3 + 1)) v4 v5 v6 v7 v8 v9 none l7 none l8 v14 v15 v16 v17 else none else none)))))) else cV false [.bool] (FiCanMove [.agg [.int v7, .sl false none 1 (freezeRows v9)], .agg [.sl false none 1 (freezeRows v11), .sl false none 3 (freezeRows v13)], .agg [.int 0, .bool false]]) fun b7 => bif !b7 then cT [(true, [.sl 1, .sl 3]), (false, [.bool])] (FiDoMove [.agg [.int v7, .sl false none 1 (freezeRows v9)], .agg [.sl false none 1 (freezeRows v11), .sl false none 3 (freezeRows v13)], .agg [.int 0, .bool true]]) fun o9 l9 o10 l10 b8 => bif !b8 then nx v1 v2 (W (v3 + 1)) v4 v5 v6 v7 v8 v9 v10 v11 v12 v13 v14 v15 v16 v17 else bif (l10.length : Int) == 0 then k0 false v4 v5 v6 v7 v8 v9 none l9 none l10 v14 v15 v16 v17 0 true else bif (v17.length : Int) == 0 then k0 false v4 v5 v6 v7 v8 v9 none l9 none l10 v14 v15 v16 v17 0 true else ix 0 l10 ((l10[0]?).bind fun w9 => tOwn [.int .i64] w9 fun n5 => ix 0 v17 ((v17[0]?).bind fun w10 => tOwn [.int .i64] w10 fun n6 => bif n5 != n6 then k0 false v4 v5 v6 v7 v8 v9 none l9 none l10 v14 v15 v16 v17 0 true else ix 0 l10 ((l10[0]?).bind fun w11 => tOwn [.sl 1] (List.drop 1 w11) (ix 0 v17 ((v17[0]?).bind fun w12 => tOwn [.sl 1] (List.drop 1 w12) ((l10[0]?).bind fun w13 => (w13[1]?).bind fun c4 => if C.nested c4 then (v17[0]?).bind fun w14 => (w14[1]?).bind fun c5 => if C.nested c5 then cV false [.bool] (Fwsame [.one (C.freeze c4), .one (C.freeze c5)]) fun b9 => bif !b9 then k0 false v4 v5 v6 v7 v8 v9 none l9 none l10 v14 v15 v16 v17 0 true else nx v1 v2 (W (v3 + 1)) v4 v5 v6 v7 v8 v9 none l9 none l10 v14 v15 v16 v17 else none else none)))))) else cT [(true, [.sl 1, .sl 3]), (false, [.bool])] (FiDoMove [.agg [.int v7, .sl false none 1 (freezeRows v9)], .agg [.sl false none 1 (freezeRows v11), .sl false none 3 (freezeRows v13)], .agg [.int 0, .bool false]]) fun o11 l11 o12 l12 b10 => bif !b10 then nx v1 v2 (W (v3 + 1)) v4 v5 v6 v7 v8 v9 v10 v11 v12 v13 v14 v15 v16 v17 else cT [(true, [.sl 1, .sl 3]), (false, [.bool])] (FiStepPlain [.agg [.int v7, .sl false none 1 (freezeRows v9)], .agg [.sl false none 1 (freezeRows v15), .sl false none 3 (freezeRows v17)], .one (.int 0)]) fun o13 l13 o14 l14 b11 => bif !b11 then k1 false v4 v5 v6 v7 v8 v9 none l11 none l12 v14 v15 v16 v17 0 false none l13 none l14 else bif (l12.length : Int) == 0 then k2 false v4 v5 v6 v7 v8 v9 none l11 none l12 none l13 none l14 0 false else bif (l14.length : Int) == 0 then k2 false v4 v5 v6 v7 v8 v9 none l11 none l12 none l13 none l14 0 false else ix 0 l12 ((l12[0]?).bind fun w15 => tOwn [.int .i64] w15 fun n7 => ix 0 l14 ((l14[0]?).bind fun w16 => tOwn [.int .i64] w16 fun n8 => bif n7 != n8 then k2 false v4 v5 v6 v7 v8 v9 none l11 none l12 none l13 none l14 0 false else ix 0 l12 ((l12[0]?).bind fun w17 => tOwn [.sl 1] (List.drop 1 w17) (ix 0 l14 ((l14[0]?).bind fun w18 => tOwn [.sl 1] (List.drop 1 w18) ((l12[0]?).bind fun w19 => (w19[1]?).bind fun c6 => if C.nested c6 then (l14[0]?).bind fun w20 => (w20[1]?).bind fun c7 => if C.nested c7 then cV false [.bool] (Fwsame [.one (C.freeze c6), .one (C.freeze c7)]) fun b12 => bif !b12 then k2 false v4 v5 v6 v7 v8 v9 none l11 none l12 none l13 none l14 0 false else nx v1 v2 (W (v3 + 1)) v4 v5 v6 v7 v8 v9 none l11 none l12 none l13 none l14 else none else none)))))) else k3 v4 v5 v6 v7 v8 v9 v10 v11 v12 v13 v14 v15 v16 v17
noncomputable def LwFnAlone_12 : Lp := ⟨12, [0, 4, 5, 7, 9], [2], 10, 123, hwFnAlone_12, xwFnAlone_12, RwFnAlone_12⟩
noncomputable def QwFnAlone : Fx := ⟨Go.Proofs.Try.f10, [.ro], false, (mkEnv tys_al [(27, Swbig), (34, Swat), (40, Swsame), (50, SsDrawProgOk), (51, SsProgOk), (52, SiStart), (53, SiCanMove), (54, SiDoMove), (55, SiStepPlain)] []).cutS [(6, [0, 4])], fun id => bif Nat.beq id 6 then .sq [0, 1, 2, 3, 4, 5] (.alt 6 (.sq [7, 8, 9] .stop) (.sq [8, 6, 7, 9] .stop)) else bif Nat.beq id 25 then .sq [0, 1, 2, 3, 4, 5, 6, 7, 8, 9, 10, 11, 12, 13, 14, 15, 16, 17, 18, 19, 20, 21, 22, 23, 24, 25, 26, 27, 28, 29, 30, 31, 32, 33, 34, 35, 36] .stop else .stop, [LwFnAlone_12]⟩
noncomputable def FwFnAlone : List S → Option Res := veil QwFnAlone.run
noncomputable def SwFnAlone : Spec := ⟨[.ro], false, FwFnAlone⟩
@[reducible] def hwFnAlone_c1 : Sh := ⟨[.one (.o (.sl false 1)), .one (.o (.pl 2 0 []))], [(true, [.o .u]), (false, [.o (.i .i64), .o (.sl true 1)]), (false, [.o (.i .i64), .o (.sl true 1)]), (true, [.o .u])]⟩
noncomputable def pwFnAlone_1 : Code × Code := (cutAt 6 QwFnAlone.code).getD (.skip, .skip)
noncomputable def JwFnAlone_1 (xs : List S) : hwFnAlone_c1.K := QwFnAlone.J pwFnAlone_1.2 123 [0, 4] hwFnAlone_c1 xs
theorem mwFnAlone (x1 : Option Bool) (x2 : List (List C)) : FwFnAlone [.one (.sl false x1 1 x2)] = cV false [.bool] (Fwbig [.one (.sl false x1 1 x2)]) fun b1 => bif b1 then fr false 1 [.one (.bool true)] else cV true [.int .i64, .sl 1] (FsDrawProgOk [.one (.sl false x1 1 x2)]) fun n1 o1 l1 => cV false [.bool] (FsProgOk [.agg [.int n1, .sl false none 1 (freezeRows l1)]]) fun b2 => bif !b2 then fr false 1 [.one (.bool true)] else ix 0 l1 ((l1[0]?).bind fun w1 => tOwn [.sl 4] w1 (dup ((l1[0]?).bind fun w2 => (w2[0]?).bind fun c1 => own3 c1 fun o2 m1 l2 => JwFnAlone_1 [.one (.sl false x1 1 x2)] x1 x2 n1 none (md l1 0 0 .unk) n1 none [[.sl true none m1 l2]]))) := Fx.eq (Fx.cut0 (F := QwFnAlone) (h := hwFnAlone_c1) (R := fun kc => cV false [.bool] (Fwbig [.one (.sl false x1 1 x2)]) fun b1 => bif b1 then fr false 1 [.one (.bool true)] else cV true [.int .i64, .sl 1] (FsDrawProgOk [.one (.sl false x1 1 x2)]) fun n1 o1 l1 => cV false [.bool] (FsProgOk [.agg [.int n1, .sl false none 1 (freezeRows l1)]]) fun b2 => bif !b2 then fr false 1 [.one (.bool true)] else ix 0 l1 ((l1[0]?).bind fun w1 => tOwn [.sl 4] w1 (dup ((l1[0]?).bind fun w2 => (w2[0]?).bind fun c1 => own3 c1 fun o2 m1 l2 => kc x1 x2 n1 none (md l1 0 0 .unk) n1 none [[.sl true none m1 l2]])))) (p := pwFnAlone_1) (lv := [0, 4]) (N := 123) (id := 6) (by kernel_rfl) (fun G => by kernel_rfl))
theorem mwFnAlone_1 (x1 : Option Bool) (x2 : List (List C)) (u1 : Option Bool) (u2 : List (List C)) (u3 : Int) (u4 : Option Bool) (u5 : List (List C)) (u6 : Int) (u7 : Option Bool) (u8 : List (List C)) : JwFnAlone_1 [.one (.sl false x1 1 x2)] u1 u2 u3 u4 u5 u6 u7 u8 = cT [(true, [.sl 1, .sl 3]), (false, [.bool])] (FiStart [.agg [.int u6, .sl false none 1 (freezeRows u8)]]) fun o3 l3 o4 l4 b3 => cT [(true, [.sl 1, .sl 3]), (false, [.bool])] (FiStart [.agg [.int u6, .sl false none 1 (freezeRows u8)]]) fun o5 l5 o6 l6 b4 => bif !b3 then fr false 1 [.one (.bool false)] else bif !b4 then fr false 1 [.one (.bool false)] else iterC (RwFnAlone_12 (fun y1 y2 y3 y4 y5 y6 y7 y8 y9 y10 y11 y12 y13 y14 y15 y16 y17 => fr false 1 [.one (.bool y1)]) (fun y18 y19 y20 y21 y22 y23 y24 y25 y26 y27 y28 y29 y30 y31 y32 y33 y34 y35 y36 y37 y38 => fr false 1 [.one (.bool y18)]) (fun y39 y40 y41 y42 y43 y44 y45 y46 y47 y48 y49 y50 y51 y52 y53 y54 y55 => fr false 1 [.one (.bool y39)]) (fun y56 y57 y58 y59 y60 y61 y62 y63 y64 y65 y66 y67 y68 y69 => fr false 1 [.one (.bool true)])) FUEL u1 u2 0 u3 u4 u5 u6 u7 u8 none l3 none l4 none l5 none l6 := by kernel_rfl
theorem stwFnAlone_12 : LwFnAlone_12.Step QwFnAlone.E QwFnAlone.dr QwFnAlone.lp ((findLoop 12 QwFnAlone.code).getD .skip) := fun k nx v => by kernel_rfl
theorem okwFnAlone : CalleeOk Go.Proofs.Try.prog 10 SwFnAlone := Fx.ok (F := QwFnAlone) follows (envTy_mk tys_al_eq).cutS (envSpec_of (specsOk_cons okwbig (specsOk_cons okwat (specsOk_cons okwsame (specsOk_cons oksDrawProgOk (specsOk_cons oksProgOk (specsOk_cons okiStart (specsOk_cons okiCanMove (specsOk_cons okiDoMove (specsOk_cons okiStepPlain specsOk_nil)))))))))).cutS Go.Proofs.Try.func10 (by kernel_rfl) (by kernel_rfl) (by
  rw [show subs QwFnAlone.code = [(findLoop 12 QwFnAlone.code).getD .skip] by kernel_rfl]
  exact ⟨stepAt_some (by kernel_rfl) stwFnAlone_12, trivial⟩) (by kernel_rfl) (by kernel_rfl) rfl
theorem FwFnAlone_at (o : Option Bool) (bs : List Int) : FwFnAlone [S.one (C.sl false o 1 (bs.map encB))] = some (S.one (C.bool true), [S.one C.unk]) := by
  have key : Ok (FwFnAlone [S.one (C.sl false o 1 (bs.map encB))]) (fun r => r = (S.one (C.bool true), [S.one C.unk])) := by
    rw [mwFnAlone, Fwbig_at]
    by_cases hb : (bs.length : Int) > 1048576
    · exact ok_eq (r := (S.one (C.bool true), [S.one C.unk])) (by simp [hb]) rfl
    obtain ⟨⟨cells, codes⟩, e, hpb⟩ := dProgOk o bs (by omega)
    have hbl := progB_bndL hpb (by omega) (by omega)
    have e2 := FsProgOk_at ⟨cells, codes⟩ hbl
    simp only [encProg] at e e2
    cases hp : progOk ⟨cells, codes⟩ with
    | false => rw [hp] at e2; exact ok_eq (r := (S.one (C.bool true), [S.one C.unk])) (by simp [hb, e, e2]) rfl
    | true =>
      rw [hp] at e2
      obtain ⟨c0, cs, rfl⟩ : ∃ c0 cs, codes = c0 :: cs := by
        cases codes with
        | nil => simp [progOk, inB] at hp
        | cons c0 cs => exact ⟨c0, cs, rfl⟩
      have hp1 : progOk ⟨cells, [c0]⟩ = true := by
        simp only [progOk, inB, Bool.and_eq_true, decide_eq_true_eq, List.all_cons, List.length_cons, List.length_nil, List.all_nil] at hp ⊢
        exact ⟨⟨hp.1.1, by omega⟩, hp.2.1, trivial⟩
      have hbl1 : bndL [c0] := ⟨by simp, fun c hc => by simp at hc; subst hc; exact hbl.2 _ (by simp)⟩
      have e3 := FiStart_at ⟨cells, [c0]⟩ hbl1
      rw [hp1] at e3
      simp only [encProg, encMa, cond_true, startM, List.map_cons, List.map_nil] at e3
      have hst := isMa_start hp1
      simp only [startM, List.map_cons, List.map_nil] at hst
      refine ok_of (y := JwFnAlone_1 [.one (.sl false o 1 (bs.map encB))] o (bs.map encB) cells none (md ((c0 :: cs).map (encCode true)) 0 0 .unk) cells none [[.sl true none 4 (c0.map encInstr)]]) (by simp [-List.map_cons, hb, e, e2]; simp [ix]) ?_
      rw [mwFnAlone_1]
      have hfz : freezeRows [[C.sl true none 4 (c0.map encInstr)]] = [[C.sl false none 4 (c0.map encInstr)]] := by simp [freezeRows, freezeRow, C.freeze]
      simp -zeta -zetaHave only [hfz, e3, cT_some, tTup, tParts, S.parts, tOne, cells?_one, cells?_agg, Option.bind_some, List.length_cons, List.length_nil, if_true, tRes, List.head?_cons, List.tail_cons, asBool_bool, asInt_int, asOwn_sl, id, cond_false, Bool.not_true]
      refine iter_ok (h := hwFnAlone_12) 60 (fun i (a : List Int × Int × List Int × List Slot) f => f o (bs.map encB) (i : Int) cells none (md ((c0 :: cs).map (encCode true)) 0 0 .unk) cells none [[C.sl true none 4 (c0.map encInstr)]] none (a.1.map encInt) none [encTh true ⟨a.2.1, a.2.2.1, a.2.2.2⟩] none ((drained a.2.2.2 a.1).map encInt) none [encTh true ⟨a.2.1, a.2.2.1, []⟩])
        (fun _ a => isMa ⟨cells, [c0]⟩ ⟨a.1, [⟨a.2.1, a.2.2.1, a.2.2.2⟩]⟩ = true) _ (by omega) ?_ ?_ (List.replicate cells.toNat 0, 0, [0, 0, 0, 0], []) hst
      · intro nx a _
        exact ok_eq (r := (S.one (C.bool true), [S.one C.unk])) (by simp [RwFnAlone_12]) rfl
      · intro nx i ⟨ca, pc, vals, buf⟩ hi hm hW hnx
        simp only at hm
        have hlt : (i : Int) < 60 := by omega
        obtain ⟨v, ev⟩ := dAt o bs i (by omega) (by omega)
        obtain ⟨b1, b2, b3⟩ := maB_of hp1 hm
        have bb := b3 ⟨pc, vals, buf⟩ (by simp)
        simp only at b1 bb
        have hdm := (drAllOk_of (t := 0) hm (by simp)).2
        have hdm' : isMa ⟨cells, [c0]⟩ ⟨drained buf ca, [⟨pc, vals, []⟩]⟩ = true := by simpa [drainAllM, drained] using hdm
        have hdl := drained_len buf ca
        have d1 := fun dr => FiDoMove_at ⟨cells, [c0]⟩ ⟨ca, [⟨pc, vals, buf⟩]⟩ 0 dr ⟨hbl1, by simp only; omega, by simp, fun t ht => by simp at ht; subst ht; exact ⟨by simp only; omega, by simp only; omega⟩⟩
        have d2 := FiCanMove_at ⟨cells, [c0]⟩ ⟨ca, [⟨pc, vals, buf⟩]⟩ 0 false ⟨hbl1, show ca.length ≤ 4611686018427387903 by omega, ⟨by simp, fun t ht => by simp at ht; subst ht; exact ⟨by simp only; omega, by simp only; omega⟩⟩, by simp⟩
        simp only [canP, hp1, hm, Bool.true_and, encProg, encMa, List.map_cons, List.map_nil] at d1 d2
        have hs := fun l (hl : l.length ≤ 4) => Fwsame_at none l none l (by omega)
        have hT : ∀ X : Option Res, (canMv ⟨cells, [c0]⟩ ⟨ca, [⟨pc, vals, buf⟩]⟩ 0 true = false → X = nx o (bs.map encB) ((i + 1 : Nat) : Int) cells none (md ((c0 :: cs).map (encCode true)) 0 0 .unk) cells none [[C.sl true none 4 (c0.map encInstr)]] none (ca.map encInt) none [encTh true ⟨pc, vals, buf⟩] none ((drained buf ca).map encInt) none [encTh true ⟨pc, vals, []⟩]) →
            (∀ ca' buf', canMv ⟨cells, [c0]⟩ ⟨ca, [⟨pc, vals, buf⟩]⟩ 0 true = true → mvM ⟨cells, [c0]⟩ ⟨ca, [⟨pc, vals, buf⟩]⟩ 0 true = ⟨ca', [⟨pc, vals, buf'⟩]⟩ → X = nx o (bs.map encB) ((i + 1 : Nat) : Int) cells none (md ((c0 :: cs).map (encCode true)) 0 0 .unk) cells none [[C.sl true none 4 (c0.map encInstr)]] none (ca'.map encInt) none [encTh true ⟨pc, vals, buf'⟩] none ((drained buf ca).map encInt) none [encTh true ⟨pc, vals, []⟩]) →
            Ok X (fun r => r = (S.one (C.bool true), [S.one C.unk])) := by
          intro X x1 x2
          cases hc : canMv ⟨cells, [c0]⟩ ⟨ca, [⟨pc, vals, buf⟩]⟩ 0 true with
          | false => exact ok_of (x1 hc) (hnx (ca, pc, vals, buf) hm)
          | true =>
            have hM := isMa_mv hp1 hm hc
            obtain ⟨ca', buf', e1, e2⟩ := alone_drain hm hc
            rw [e1] at hM
            have h2 := hnx (ca', pc, vals, buf') hM
            simp only [e2] at h2
            exact ok_of (x2 ca' buf' hc e1) h2
        have d1t := d1 true
        have hsv := hs vals (by omega)
        cases hz : (Int.tmod v 3 == 0) with
        | true =>
          refine hT _ (fun hc => ?_) (fun ca' buf' hc e1 => ?_)
          · rw [hc] at d1t
            simp [RwFnAlone_12, hlt, ev, hz, hfz, freezeRows, freezeRow, C.freeze, d1t, hW]
          · rw [hc] at d1t
            simp only [e1, cond_true, List.map_cons, List.map_nil] at d1t
            simp [RwFnAlone_12, hlt, ev, hz, hfz, freezeRows, freezeRow, C.freeze, d1t, hW, ix, hsv]
        | false =>
          cases hcf : canMv ⟨cells, [c0]⟩ ⟨ca, [⟨pc, vals, buf⟩]⟩ 0 false with
          | false =>
            rw [hcf] at d2
            refine hT _ (fun hc => ?_) (fun ca' buf' hc e1 => ?_)
            · rw [hc] at d1t
              simp [RwFnAlone_12, hlt, ev, hz, hfz, freezeRows, freezeRow, C.freeze, d1t, d2, hW]
            · rw [hc] at d1t
              simp only [e1, cond_true, List.map_cons, List.map_nil] at d1t
              simp [RwFnAlone_12, hlt, ev, hz, hfz, freezeRows, freezeRow, C.freeze, d1t, d2, hW, ix, hsv]
          | true =>
            have d1f := d1 false
            rw [hcf] at d2 d1f
            have hM := isMa_mv hp1 hm hcf
            obtain ⟨ca', pc', vals', buf', e1, e2, e3⟩ := alone_step hp1 hm hcf
            rw [e1] at hM
            simp only [e1, cond_true, List.map_cons, List.map_nil] at d1f
            have d4 := FiStepPlain_at ⟨cells, [c0]⟩ ⟨drained buf ca, [⟨pc, vals, []⟩]⟩ 0 ⟨hbl1, by simp only; omega, by simp, fun t ht => by simp at ht; subst ht; exact ⟨by simp only; omega, by simp⟩⟩
            simp only [stepP, hp1, hdm', e3, Bool.and_self, cond_true, Int.toNat_zero, e2, encProg, encMa, List.map_cons, List.map_nil] at d4
            rw [show encTh false ⟨pc, vals, []⟩ = [C.int pc, C.sl false none 1 (vals.map encInt), C.sl false none 2 []] from rfl, show encCode false c0 = [C.sl false none 4 (c0.map encInstr)] from rfl] at d4
            obtain ⟨_, _, b3'⟩ := maB_of hp1 hM
            have bb' := b3' ⟨pc', vals', buf'⟩ (by simp)
            simp only at bb'
            have hsv' := hs vals' (by omega)
            exact ok_of (by simp [RwFnAlone_12, hlt, ev, hz, hfz, freezeRows, freezeRow, C.freeze, d1f, d2, d4, hW, ix, hsv']) (hnx (ca', pc', vals', buf') hM)
  obtain ⟨r, h1, rfl⟩ := key
  exact h1
end Go.Proofs.Gh.Gm
