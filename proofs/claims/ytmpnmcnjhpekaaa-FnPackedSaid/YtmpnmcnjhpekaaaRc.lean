/- The program's functions by the ghost evaluator: what each computes, and that it does. -/
import Derived.Test.YtmpnmcnjhpekaaaGh47
import Derived.Test.YtmpnmcnjhpekaaaGh48
import Derived.Test.YtmpnmcnjhpekaaaGh45
import Derived.Test.YtmpnmcnjhpekaaaProg
import Derived.KernelRfl
import Derived.Test.YtmpnmcnjhpekaaaRb
set_option linter.unusedVariables false
set_option linter.unusedSimpArgs false
set_option maxRecDepth 100000
set_option maxHeartbeats 2000000
namespace Go.Proofs.Gh.Gm
def tys_y7 : List (Nat × TI) := []
theorem tys_y7_eq : tys_y7.map (fun x => tiOf Go.Proofs.Try.prog x.1 x.2.cks) = tys_y7.map fun x => some x.2 := by kernel_rfl
/-- All the blocks. -/
def packI : Nat → List OpR → List Int
  | 0, _ => []
  | f + 1, ops => if ops = [] then [] else packBlock (ops.take 16) ++ packI f (ops.drop 16)
theorem packS_eq (f : Nat) (ops : List OpR) (out : List Int) (hf : ops.length ≤ 16 * f) (hf' : 16 * f < ops.length + 16) (ho : out.length ≤ 4000) :
    packS f ops out = if ops.all opOk = true ∧ (out ++ packI f ops).length ≤ 4000 then some (out ++ packI f ops) else none := by
  induction f generalizing ops out with
  | zero =>
    have : ops = [] := List.length_eq_zero_iff.1 (by omega)
    subst this
    simp [packS, packI, ho]
  | succ f ih =>
    have hne : ops ≠ [] := by intro e; subst e; simp at hf'; omega
    have hI : packI (f + 1) ops = packBlock (ops.take 16) ++ packI f (ops.drop 16) := by rw [packI, if_neg hne]
    have hall : ops.all opOk = ((ops.take 16).all opOk && (ops.drop 16).all opOk) := by rw [← List.all_append, List.take_append_drop]
    rw [packS, hI]
    by_cases h1 : (ops.take 16).all opOk = true ∧ (packBlock (ops.take 16)).length + out.length ≤ 4000
    · rw [if_pos h1, ih _ _ (by rw [List.length_drop]; omega) (by rw [List.length_drop]; omega) (by rw [List.length_append]; omega)]
      rw [hall, h1.1, Bool.true_and, List.append_assoc]
    · rw [if_neg h1, if_neg]
      rintro ⟨h2, h3⟩
      rw [hall, Bool.and_eq_true] at h2
      simp only [List.length_append] at h3
      exact h1 ⟨h2.1, by omega⟩
theorem unOp_at {b : List Int} {a : Nat} {o : OpR} {t : List Int} (ho : opOk o = true) (h : b.drop a = opBytes o ++ t) : unOp b a = some (o, a + (opBytes o).length) := by
  obtain ⟨h1, h2, h3, h4⟩ := opOk_iff ho
  have hlen : (opBytes o).length + t.length = b.length - a := by rw [← List.length_append, ← h, List.length_drop]
  have hb := opBytes_len o
  have hget : ∀ j x, (opBytes o)[j]? = some x → b.getD (a + j) 0 = x := fun j x hj => by
    have hjl : j < (opBytes o).length := (List.getElem?_eq_some_iff.1 hj).1
    have : b[a + j]? = some x := by rw [← List.getElem?_drop, h, List.getElem?_append_left hjl, hj]
    simp [List.getD, this]
  have g0 : b.getD a 0 = 5 * o.k + o.t := hget 0 _ (by unfold opBytes; rfl)
  have k1 : (5 * o.k + o.t) / 5 = o.k := by omega
  have k2 : (5 * o.k + o.t) % 5 = o.t := by omega
  have hlt : a < b.length := by omega
  unfold unOp rawOp
  rw [if_pos hlt, g0, k1, k2]
  cases h5 : inB o.k 1 3 with
  | false =>
    have hx := h4 h5
    have : (⟨o.k, o.t, 0⟩ : OpR) = o := by cases o; simp_all
    simp [this, ho, opBytes, h5]
  | true =>
    have g1 : b.getD (a + 1) 0 = o.x := hget 1 _ (by simp [opBytes, h5])
    have hl2 : (opBytes o).length = 2 := by simp [opBytes, h5]
    have hlt1 : a + 1 < b.length := by omega
    simp only [cond_true, hlt1, if_true, g1, Option.bind_some, hl2]
    rw [show (⟨o.k, o.t, o.x⟩ : OpR) = o by cases o; rfl, ho]
    rfl
theorem parse_at (c : List OpR) {b : List Int} {a : Nat} (hc : c.all opOk = true) (h : b.drop a = c.flatMap opBytes) (ha : a ≤ b.length) : parseN b c.length a = some (c, b.length) := by
  induction c generalizing a with
  | nil =>
    have : (b.drop a).length = 0 := by rw [h]; rfl
    rw [List.length_drop] at this
    simp only [List.length_nil, parseN]
    congr 2; omega
  | cons o c ih =>
    simp only [List.all_cons, Bool.and_eq_true] at hc
    rw [List.flatMap_cons] at h
    have hl := congrArg List.length h
    simp only [List.length_append, List.length_drop] at hl
    have hu := unOp_at hc.1 h
    have hd : b.drop (a + (opBytes o).length) = c.flatMap opBytes := by
      rw [← List.drop_drop, h, List.drop_left]
    have := ih hc.2 hd (by omega)
    simp only [List.length_cons, parseN, hu, this]
theorem block_at {c : List OpR} (t : List Int) (hc : c.all opOk = true) (h1 : 1 ≤ c.length) (h16 : c.length ≤ 16) : blockB (packBlock c ++ t) = some (c, (packBlock c).length) := by
  have hfl := flat_len c
  have hH : (packH c).length = (c.flatMap opBytes).length + 2 := rfl
  have hB : (packBlock c).length = (c.flatMap opBytes).length + 4 := by simp only [packBlock, List.length_append, hH]; rfl
  have hs := sumB_range (packH c)
  have g0 : (packBlock c ++ t).getD 0 0 = (c.length : Int) := rfl
  have g1 : (packBlock c ++ t).getD 1 0 = ((c.flatMap opBytes).length : Int) := rfl
  have hT : (packBlock c ++ t).take (2 + (c.flatMap opBytes).length) = packH c := by
    rw [packBlock, List.append_assoc, List.take_append_of_le_length (by omega), List.take_of_length_le (by omega)]
  have hge : ∀ j x, [sumB (packH c) / 256, sumB (packH c) % 256][j]? = some x → (packBlock c ++ t).getD ((c.flatMap opBytes).length + 2 + j) 0 = x := fun j x hj => by
    have hjl : j < 2 := (List.getElem?_eq_some_iff.1 hj).1
    have : (packBlock c ++ t)[(c.flatMap opBytes).length + 2 + j]? = some x := by
      rw [List.getElem?_append_left (by omega), packBlock, List.getElem?_append_right (by omega), hH, Nat.add_sub_cancel_left, hj]
    simp only [List.getD, this, Option.getD_some]
  have e1 := hge 0 _ rfl
  have e2 := hge 1 _ rfl
  have hp := parse_at c (b := packH c) (a := 2) hc rfl (by omega)
  have hin : inB (c.length : Int) 1 16 = true := by rw [inB_iff]; omega
  unfold blockB
  rw [g0, g1, if_neg (fun h => by
    rcases h with h | h | h
    · rw [List.length_append, hB] at h; omega
    · rw [hin] at h; cases h
    · rw [List.length_append, hB, Int.toNat_natCast] at h; omega)]
  simp only [Int.toNat_natCast, hT, hp]
  have hTl : (packBlock c ++ t).take (packH c).length = packH c := by rw [hH, Nat.add_comm]; exact hT
  rw [hTl, if_pos]
  · rw [hB, hH]
  · refine ⟨by omega, ?_⟩
    rw [hH]
    rw [Nat.add_zero] at e1
    rw [e1, e2]; omega
theorem scan_step {b : List Int} {l : List OpR} {k : Nat} (h : blockB b = some (l, k)) : scan b = (l ++ (scan (b.drop k)).1, k + (scan (b.drop k)).2) := by
  have hk := blockB_le h
  simp only at hk
  obtain ⟨f, hf⟩ : ∃ f, b.length = f + 1 := ⟨b.length - 1, by omega⟩
  have : scanF f (b.drop k) = scan (b.drop k) := scanF_len (by rw [List.length_drop]; omega) (Nat.le_refl _)
  have h2 : scan b = scanF b.length b := rfl
  rw [h2, hf, scanF_some h, this]
theorem scan_none {b : List Int} (h : blockB b = none) : scan b = ([], 0) := scanF_none h _
/-- What is decoded of the beginning of what was packed. -/
def Cut (b : List Int) (ops : List OpR) (full cut : Nat) : Prop :=
  (∃ t, ops = (scan b).1 ++ t) ∧ ((scan b).1.length % 16 = 0 ∨ (scan b).1.length = ops.length) ∧ (scan b).2 ≤ b.length ∧ kindB (b.drop (scan b).2) ≠ 2 ∧ (full ≤ cut → scan b = (ops, full))
theorem scan_cut (f : Nat) (ops : List OpR) (cut : Nat) (hf : ops.length ≤ 16 * f) (hall : ops.all opOk = true) : Cut ((packI f ops).take cut) ops (packI f ops).length cut := by
  induction f generalizing ops cut with
  | zero =>
    have : ops = [] := List.length_eq_zero_iff.1 (by omega)
    subst this
    have hb : (packI 0 ([] : List OpR)).take cut = [] := by simp [packI]
    rw [hb]
    exact ⟨⟨[], rfl⟩, .inl rfl, Nat.le_refl _, by decide, fun _ => rfl⟩
  | succ f ih =>
    by_cases hne : ops = []
    · subst hne
      have hb : (packI (f + 1) ([] : List OpR)) = [] := by simp [packI]
      rw [hb, List.take_nil]
      exact ⟨⟨[], rfl⟩, .inl rfl, Nat.le_refl _, by decide, fun _ => rfl⟩
    have hl0 : 0 < ops.length := List.length_pos_iff.2 hne
    have hI : packI (f + 1) ops = packBlock (ops.take 16) ++ packI f (ops.drop 16) := by rw [packI, if_neg hne]
    have hall2 : (ops.take 16).all opOk = true ∧ (ops.drop 16).all opOk = true := by
      rw [← Bool.and_eq_true, ← List.all_append, List.take_append_drop]; exact hall
    have hcl : (ops.take 16).length = min 16 ops.length := List.length_take
    have hops : ops = ops.take 16 ++ ops.drop 16 := (List.take_append_drop 16 ops).symm
    rw [hI]
    by_cases hc : (packBlock (ops.take 16)).length ≤ cut
    · have ht : (packBlock (ops.take 16) ++ packI f (ops.drop 16)).take cut = packBlock (ops.take 16) ++ (packI f (ops.drop 16)).take (cut - (packBlock (ops.take 16)).length) := by
        rw [List.take_append, List.take_of_length_le hc]
      have hB := block_at ((packI f (ops.drop 16)).take (cut - (packBlock (ops.take 16)).length)) hall2.1 (by omega) (by omega)
      obtain ⟨⟨t, i1⟩, i2, i3, i4, i5⟩ := ih (ops.drop 16) (cut - (packBlock (ops.take 16)).length) (by rw [List.length_drop]; omega) hall2.2
      rw [ht]
      have hsc := scan_step hB
      rw [List.drop_left] at hsc
      refine ⟨⟨t, ?_⟩, ?_, ?_, ?_, ?_⟩
      · rw [hsc, List.append_assoc, ← i1]; exact hops
      · rw [hsc, List.length_append, hcl]
        rw [List.length_drop] at i2
        have hle : (scan ((packI f (ops.drop 16)).take (cut - (packBlock (ops.take 16)).length))).1.length ≤ ops.length - 16 := by
          have := congrArg List.length i1
          rw [List.length_append, List.length_drop] at this
          omega
        rcases i2 with i2 | i2
        · by_cases h16 : 16 ≤ ops.length
          · left; rw [show min 16 ops.length = 16 by omega]; omega
          · right; omega
        · right; omega
      · rw [hsc, List.length_append]; simp only; omega
      · rw [hsc]
        simp only
        rw [← List.drop_drop, List.drop_left]
        exact i4
      · intro hfull
        rw [List.length_append] at hfull
        rw [hsc, i5 (by omega), List.length_append]
        simp only
        rw [← hops]
    · have ht : (packBlock (ops.take 16) ++ packI f (ops.drop 16)).take cut = (packBlock (ops.take 16)).take cut := by
        rw [List.take_append_of_le_length (by omega)]
      rw [ht]
      generalize hcd : ops.take 16 = c at *
      have hfl := flat_len c
      have hH : (packH c).length = (c.flatMap opBytes).length + 2 := rfl
      have hB : (packBlock c).length = (c.flatMap opBytes).length + 4 := by simp only [packBlock, List.length_append, hH]; rfl
      have hf1 : 1 ≤ (c.flatMap opBytes).length := by
        rcases Nat.eq_zero_or_pos (c.flatMap opBytes).length with h | h
        · have := flat_nil h
          rw [this] at hcl
          simp at hcl
          omega
        · exact h
      have hpb : packBlock c = (c.length : Int) :: ((c.flatMap opBytes).length : Int) :: (c.flatMap opBytes ++ [sumB (packH c) / 256, sumB (packH c) % 256]) := rfl
      have hnone : blockB ((packBlock c).take cut) = none ∧ kindB ((packBlock c).take cut) ≠ 2 := by
        rcases cut with _ | _ | n
        · exact ⟨by rw [List.take_zero]; rfl, by rw [List.take_zero]; decide⟩
        · rw [hpb]
          exact ⟨by unfold blockB; rw [if_pos (.inl (by simp))], by simp [kindB]⟩
        · have hT : (packBlock c).take (n + 1 + 1) = (c.length : Int) :: ((c.flatMap opBytes).length : Int) :: (c.flatMap opBytes ++ [sumB (packH c) / 256, sumB (packH c) % 256]).take n := by rw [hpb]; rfl
          have hTl : ((packBlock c).take (n + 1 + 1)).length = n + 1 + 1 := by rw [List.length_take]; omega
          have e1 : inB (c.length : Int) 1 16 = true := by rw [inB_iff]; omega
          have e2 : inB ((c.flatMap opBytes).length : Int) 1 32 = true := by rw [inB_iff]; omega
          constructor
          · have g : ((packBlock c).take (n + 1 + 1)).getD 1 0 = ((c.flatMap opBytes).length : Int) := by rw [hT]; rfl
            have hlt : ((packBlock c).take (n + 1 + 1)).length < (((packBlock c).take (n + 1 + 1)).getD 1 0).toNat + 4 := by
              rw [hTl, g, Int.toNat_natCast]; omega
            unfold blockB
            rw [if_pos (.inr (.inr hlt))]
          · rw [hT] at hTl
            rw [hT]
            simp only [kindB, e1, e2, hTl, Bool.true_and]
            rw [decide_eq_true (by omega)]
            decide
      have hsc := scan_none hnone.1
      refine ⟨⟨ops, by rw [hsc]; rfl⟩, .inl (by rw [hsc]; rfl), by rw [hsc]; exact Nat.zero_le _, by rw [hsc]; exact hnone.2, fun h => ?_⟩
      rw [List.length_append] at h
      omega
theorem scan_pack (f : Nat) (ops : List OpR) (hf : ops.length ≤ 16 * f) (hall : ops.all opOk = true) : scan (packI f ops) = (ops, (packI f ops).length) := by
  have := scan_cut f ops (packI f ops).length hf hall
  rw [List.take_of_length_le (Nat.le_refl _)] at this
  exact this.2.2.2.2 (Nat.le_refl _)
end Go.Proofs.Gh.Gm
set_option linter.unusedVariables false
set_option linter.unusedSimpArgs false
set_option maxRecDepth 100000
set_option maxHeartbeats 2000000
namespace Go.Proofs.Gh.Gm
def tys_y8 : List (Nat × TI) := [(3, ⟨false, 8, [.int .i64], [.int 0], .scalar, false, none⟩),
  (4, ⟨false, 1, [.bool], [.bool false], .scalar, false, none⟩),
  (5, ⟨false, 1, [.int .u8], [.v (.int .u8 0)], .scalar, false, none⟩),
  (38, ⟨false, 24, [.sl 1], [.sl true (some true) 1 []], .slice 5, false, none⟩),
  (40, ⟨false, 24, [.sl 3], [.sl true (some true) 3 []], .slice 104, false, none⟩),
  (49, ⟨false, 0, [], [], .tuple [40, 3, 3], false, none⟩),
  (102, ⟨false, 8, [.other], [.v Value.nilFunc], .scalar, false, none⟩),
  (104, ⟨true, 24, [.int .i64, .int .i64, .int .i64], [.int 0, .int 0, .int 0], .struct [(0, 1, false), (1, 1, false), (2, 1, false)], true, none⟩)]
theorem tys_y8_eq : tys_y8.map (fun x => tiOf Go.Proofs.Try.prog x.1 x.2.cks) = tys_y8.map fun x => some x.2 := by kernel_rfl
/-! iPackOp: loop.example/g00712/impl.PackOp -/
noncomputable def QiPackOp : Fx := ⟨Go.Proofs.Try.f135, [.ro], false, mkEnv tys_y8 [(134, SihasX), (81, SiOpOk)] [], fun _ => .stop, []⟩
noncomputable def FiPackOp : List S → Option Res := veil QiPackOp.run
noncomputable def SiPackOp : Spec := ⟨[.ro], false, FiPackOp⟩
theorem miPackOp (x1 : Int) (x2 : Int) (x3 : Int) : FiPackOp [.agg [.int x1, .int x2, .int x3]] = cV false [.bool] (FiOpOk [.agg [.int x1, .int x2, .int x3]]) fun b1 => bif !b1 then fr false 1 [.one (.sl true (some true) 1 [])] else cV false [.bool] (FihasX [.one (.int x1)]) fun b2 => bif b2 then fr false 1 [.one (.sl true (some false) 1 [[.v (.int .u8 (B8 (W ((W (5 * x1)) + x2))))], [.v (.int .u8 (B8 (x3)))]])] else fr false 1 [.one (.sl true (some false) 1 [[.v (.int .u8 (B8 (W ((W (5 * x1)) + x2))))]])] := Fx.eq (by kernel_rfl)
theorem okiPackOp : CalleeOk Go.Proofs.Try.prog 135 SiPackOp := Fx.ok (F := QiPackOp) follows (envTy_mk tys_y8_eq) (envSpec_of (specsOk_cons okihasX (specsOk_cons okiOpOk specsOk_nil))) Go.Proofs.Try.func135 (by kernel_rfl) (by kernel_rfl) (by rw [show subs QiPackOp.code = [] by kernel_rfl]; trivial) (by kernel_rfl) (by kernel_rfl) rfl
theorem FiPackOp_at (o : OpR) : FiPackOp [S.agg (encOp o)] = some (S.one (C.sl true (some (!opOk o)) 1 ((bif opOk o then opBytes o else []).map encB)), [S.one C.unk]) := by
  cases h : opOk o with
  | false => simp [miPackOp, FiOpOk_at, h]
  | true =>
    obtain ⟨h1, h2, h3, _⟩ := opOk_iff h
    have w1 : W (5 * o.k) = 5 * o.k := W_eq (by omega) (by omega)
    have w2 : W (5 * o.k + o.t) = 5 * o.k + o.t := W_eq (by omega) (by omega)
    have w3 : B8 (5 * o.k + o.t) = 5 * o.k + o.t := B8_eq (by omega) (by omega)
    cases e : inB o.k 1 3 with
    | false => simp [miPackOp, FiOpOk_at, FihasX_at, h, e, w1, w2, w3, opBytes]
    | true =>
      have h3 := h3 e
      have w4 : B8 o.x = o.x := B8_eq (by omega) (by omega)
      simp [miPackOp, FiOpOk_at, FihasX_at, h, e, w1, w2, w3, w4, opBytes]
/-! iPackOps_1: loop.example/g00712/impl.PackOps$1 -/
noncomputable def QiPackOps_1 : Fx := ⟨Go.Proofs.Try.f80, [.ro], false, mkEnv tys_y8 [(81, SiOpOk)] [], fun _ => .stop, []⟩
noncomputable def FiPackOps_1 : List S → Option Res := veil QiPackOps_1.run
noncomputable def SiPackOps_1 : Spec := ⟨[.ro], false, FiPackOps_1⟩
theorem miPackOps_1 (x1 : Int) (x2 : Int) (x3 : Int) : FiPackOps_1 [.agg [.int x1, .int x2, .int x3]] = cV false [.bool] (FiOpOk [.agg [.int x1, .int x2, .int x3]]) fun b1 => fr false 1 [.one (.bool (!b1))] := Fx.eq (by kernel_rfl)
theorem okiPackOps_1 : CalleeOk Go.Proofs.Try.prog 80 SiPackOps_1 := Fx.ok (F := QiPackOps_1) follows (envTy_mk tys_y8_eq) (envSpec_of (specsOk_cons okiOpOk specsOk_nil)) Go.Proofs.Try.func80 (by kernel_rfl) (by kernel_rfl) (by rw [show subs QiPackOps_1.code = [] by kernel_rfl]; trivial) (by kernel_rfl) (by kernel_rfl) rfl
theorem FiPackOps_1_at (o : OpR) : FiPackOps_1 [S.agg (encOp o)] = some (S.one (C.bool (!opOk o)), [S.one C.unk]) := by
  simp [miPackOps_1, FiOpOk_at]
/-! slicesIndexFunc_iOp_iPackOps_1: slices.IndexFunc[[]loop.example/g00712/impl.Op,loop.example/g00712/impl.Op] -/
@[reducible] def hslicesIndexFunc_iOp_iPackOps_1_2 : Sh := ⟨[.one (.o (.sl false 3)), .one (.fn 80 []), .one (.o (.i .i64)), .one (.o (.i .i64))], []⟩
@[reducible] def xslicesIndexFunc_iOp_iPackOps_1_2 : List (Ex × Sh) := [(.ret, ⟨[.one (.o (.i .i64))], []⟩), (.exit 0, ⟨[.one (.o .u)], []⟩)]
noncomputable def RslicesIndexFunc_iOp_iPackOps_1_2 : KC xslicesIndexFunc_iOp_iPackOps_1_2 (hslicesIndexFunc_iOp_iPackOps_1_2.K → hslicesIndexFunc_iOp_iPackOps_1_2.K) := fun k0 k1 nx v1 v2 v3 v4 => bif decide (v4 < v3) then ix v4 v2 ((v2[Int.toNat v4]?).bind fun w1 => tRo [.int .i64, .int .i64, .int .i64] w1 fun n1 n2 n3 => cV false [.bool] (FiPackOps_1 [.agg [.int n1, .int n2, .int n3]]) fun b1 => bif b1 then k0 v4 else nx v1 v2 v3 (W (v4 + 1))) else k1
noncomputable def LslicesIndexFunc_iOp_iPackOps_1_2 : Lp := ⟨2, [0, 1, 7, 8], [4], 0, 19, hslicesIndexFunc_iOp_iPackOps_1_2, xslicesIndexFunc_iOp_iPackOps_1_2, RslicesIndexFunc_iOp_iPackOps_1_2⟩
noncomputable def QslicesIndexFunc_iOp_iPackOps_1 : Fx := ⟨Go.Proofs.Try.f132, [.ro, .ro], false, mkEnv tys_y8 [(80, SiPackOps_1)] [], fun _ => .stop, [LslicesIndexFunc_iOp_iPackOps_1_2]⟩
noncomputable def FslicesIndexFunc_iOp_iPackOps_1 : List S → Option Res := veil QslicesIndexFunc_iOp_iPackOps_1.run
noncomputable def SslicesIndexFunc_iOp_iPackOps_1 : Spec := ⟨[.ro, .ro], false, FslicesIndexFunc_iOp_iPackOps_1⟩
theorem mslicesIndexFunc_iOp_iPackOps_1 (x1 : Option Bool) (x2 : List (List C)) : FslicesIndexFunc_iOp_iPackOps_1 [.one (.sl false x1 3 x2), .one (.fn 80 [])] = iterC (RslicesIndexFunc_iOp_iPackOps_1_2 (fun y1 => fr false 2 [.one (.int y1)]) (fr false 2 [.one (.int (-1))])) FUEL x1 x2 (x2.length : Int) 0 := Fx.eq (by kernel_rfl)
theorem stslicesIndexFunc_iOp_iPackOps_1_2 : LslicesIndexFunc_iOp_iPackOps_1_2.Step QslicesIndexFunc_iOp_iPackOps_1.E QslicesIndexFunc_iOp_iPackOps_1.dr QslicesIndexFunc_iOp_iPackOps_1.lp ((findLoop 2 QslicesIndexFunc_iOp_iPackOps_1.code).getD .skip) := fun k nx v => by kernel_rfl
theorem okslicesIndexFunc_iOp_iPackOps_1 : CalleeOk Go.Proofs.Try.prog 132 SslicesIndexFunc_iOp_iPackOps_1 := Fx.ok (F := QslicesIndexFunc_iOp_iPackOps_1) follows (envTy_mk tys_y8_eq) (envSpec_of (specsOk_cons okiPackOps_1 specsOk_nil)) Go.Proofs.Try.func132 (by kernel_rfl) (by kernel_rfl) (by
  rw [show subs QslicesIndexFunc_iOp_iPackOps_1.code = [(findLoop 2 QslicesIndexFunc_iOp_iPackOps_1.code).getD .skip] by kernel_rfl]
  exact ⟨stepAt_some (by kernel_rfl) stslicesIndexFunc_iOp_iPackOps_1_2, trivial⟩) (by kernel_rfl) (by kernel_rfl) rfl
theorem FslicesIndexFunc_iOp_iPackOps_1_at (nl : Option Bool) (l : List OpR) (h : l.length ≤ 1048576) : FslicesIndexFunc_iOp_iPackOps_1 [S.one (C.sl false nl 3 (l.map encOp)), S.one (C.fn 80 [])] = some (S.one (C.int (bif l.any (fun n => !opOk n) then (l.findIdx (fun n => !opOk n) : Int) else -1)), [S.one C.unk, S.one C.unk]) := by
  rw [mslicesIndexFunc_iOp_iPackOps_1]
  refine (iter_find (h := hslicesIndexFunc_iOp_iPackOps_1_2) l (fun i f => f nl (l.map encOp) ((l.map encOp).length : Int) (i : Int)) (fun n => !opOk n) (fun i => fr false 2 [.one (.int i)]) (fr false 2 [.one (.int (-1))]) (by omega) ?_ ?_).trans ?_
  · intro nx; simp [RslicesIndexFunc_iOp_iPackOps_1_2]
  · intro nx i hi hW
    have f1 := FiPackOps_1_at l[i]
    simp [RslicesIndexFunc_iOp_iPackOps_1_2, hi, hW, f1]
  · cases l.any (fun n => !opOk n) <;> simp
/-! slicesContainsFunc_iOp_iPackOps_1: slices.ContainsFunc[[]loop.example/g00712/impl.Op,loop.example/g00712/impl.Op] -/
noncomputable def QslicesContainsFunc_iOp_iPackOps_1 : Fx := ⟨Go.Proofs.Try.f79, [.ro, .ro], false, mkEnv tys_y8 [(132, SslicesIndexFunc_iOp_iPackOps_1)] [], fun _ => .stop, []⟩
noncomputable def FslicesContainsFunc_iOp_iPackOps_1 : List S → Option Res := veil QslicesContainsFunc_iOp_iPackOps_1.run
noncomputable def SslicesContainsFunc_iOp_iPackOps_1 : Spec := ⟨[.ro, .ro], false, FslicesContainsFunc_iOp_iPackOps_1⟩
theorem mslicesContainsFunc_iOp_iPackOps_1 (x1 : Option Bool) (x2 : List (List C)) : FslicesContainsFunc_iOp_iPackOps_1 [.one (.sl false x1 3 x2), .one (.fn 80 [])] = cV false [.int .i64] (FslicesIndexFunc_iOp_iPackOps_1 [.one (.sl false x1 3 x2), .one (.fn 80 [])]) fun n1 => fr false 2 [.one (.bool (decide (n1 ≥ 0)))] := Fx.eq (by kernel_rfl)
theorem okslicesContainsFunc_iOp_iPackOps_1 : CalleeOk Go.Proofs.Try.prog 79 SslicesContainsFunc_iOp_iPackOps_1 := Fx.ok (F := QslicesContainsFunc_iOp_iPackOps_1) follows (envTy_mk tys_y8_eq) (envSpec_of (specsOk_cons okslicesIndexFunc_iOp_iPackOps_1 specsOk_nil)) Go.Proofs.Try.func79 (by kernel_rfl) (by kernel_rfl) (by rw [show subs QslicesContainsFunc_iOp_iPackOps_1.code = [] by kernel_rfl]; trivial) (by kernel_rfl) (by kernel_rfl) rfl
theorem FslicesContainsFunc_iOp_iPackOps_1_at (nl : Option Bool) (l : List OpR) (h : l.length ≤ 1048576) : FslicesContainsFunc_iOp_iPackOps_1 [S.one (C.sl false nl 3 (l.map encOp)), S.one (C.fn 80 [])] = some (S.one (C.bool (l.any fun n => !opOk n)), [S.one C.unk, S.one C.unk]) := by
  rw [mslicesContainsFunc_iOp_iPackOps_1, FslicesIndexFunc_iOp_iPackOps_1_at _ _ h]
  cases l.any (fun n => !opOk n) <;> simp
@[simp] theorem encB_V (l : List Int) : rowsV (l.map encB) = true := by
  simp [rowsV, C.isV]
theorem fold_flat (c : List OpR) (acc : List Int) : c.foldl (fun x o => x ++ opBytes o) acc = acc ++ c.flatMap opBytes := by
  induction c generalizing acc with
  | nil => simp
  | cons o c ih => rw [List.foldl_cons, ih, List.flatMap_cons, List.append_assoc]
theorem packBlock_len (c : List OpR) (hl : c.length ≤ 16) : (packBlock c).length ≤ 36 ∧ c.length ≤ (packBlock c).length := by
  have := flat_len c
  have h1 : c.length ≤ (c.flatMap opBytes).length := by
    clear this hl
    induction c with
    | nil => simp
    | cons o c ih => have := opBytes_len o; simp only [List.flatMap_cons, List.length_append, List.length_cons]; omega
  have hH : (packH c).length = (c.flatMap opBytes).length + 2 := rfl
  have hB : (packBlock c).length = (c.flatMap opBytes).length + 4 := by simp only [packBlock, List.length_append, hH]; rfl
  omega
theorem packI_len (f : Nat) (ops : List OpR) (hf : ops.length ≤ 16 * f) : ops.length ≤ (packI f ops).length := by
  induction f generalizing ops with
  | zero => omega
  | succ f ih =>
    by_cases hne : ops = []
    · subst hne; simp
    · have := ih (ops.drop 16) (by rw [List.length_drop]; omega)
      have h2 := (packBlock_len (ops.take 16) (by rw [List.length_take]; omega)).2
      rw [packI, if_neg hne, List.length_append]
      rw [List.length_drop] at this
      rw [List.length_take] at h2
      omega
/-! ipacked: loop.example/g00712/impl.packed -/
@[reducible] def hipacked_5 : Sh := ⟨[.one (.o (.sl false 3)), .one (.o (.al 4 0 [])), .one (.o (.i .i64)), .one (.o (.al 5 0 [])), .one (.o (.sl false 3)), .one (.o (.i .i64)), .one (.o (.i .i64))], [(true, [.o .u]), (true, [.o .u]), (true, [.o .u]), (true, [.o .u]), (true, [.o (.sl true 1)]), (true, [.o (.sl true 1)])]⟩
@[reducible] def xipacked_5 : List (Ex × Sh) := [(.exit 2, ⟨[.one (.o (.sl false 3)), .one (.o (.al 4 0 [])), .one (.o (.i .i64)), .one (.o (.al 5 0 []))], [(true, [.o .u]), (true, [.o .u]), (true, [.o .u]), (true, [.o .u]), (true, [.o (.sl true 1)]), (true, [.o (.sl true 1)])]⟩)]
noncomputable def Ripacked_5 : KC xipacked_5 (hipacked_5.K → hipacked_5.K) := fun k0 nx v1 v2 v3 v4 v5 v6 v7 v8 v9 v10 v11 => bif decide (v7 < v6) then ix v7 v5 ((v5[Int.toNat v7]?).bind fun w1 => tRo [.int .i64, .int .i64, .int .i64] w1 fun n1 n2 n3 => cV false [.sl 1] (FiPackOp [.agg [.int n1, .int n2, .int n3]]) fun o1 l1 => if (true && !rowsV l1) = true then none else if (v11.length + l1.length) * 1 ≤ LIM then nx v1 v2 v3 v4 v5 v6 (W (v7 + 1)) v8 v9 (apNl v10 l1) (v11 ++ l1) else none) else k0 v1 v2 v3 v8 v9 v10 v11
noncomputable def Lipacked_5 : Lp := ⟨5, [0, 3, 4, 5, 18, 19, 20], [0, 3, 4, 5], 4, 44, hipacked_5, xipacked_5, Ripacked_5⟩
@[reducible] def hipacked_2 : Sh := ⟨[.one (.o (.sl false 3)), .one (.o (.al 2 0 []))], [(true, [.o .u]), (true, [.o .u]), (true, [.o (.sl true 1)])]⟩
@[reducible] def xipacked_2 : List (Ex × Sh) := [(.exit 0, ⟨[.one (.o (.al 2 0 []))], [(true, [.o .u]), (true, [.o .u]), (true, [.o (.sl true 1)])]⟩)]
noncomputable def Ripacked_2 : KC xipacked_2 (hipacked_2.K → hipacked_2.K) := fun k0 nx v1 v2 v3 v4 => bif decide ((v2.length : Int) > 0) then if 0 ≤ (0 : Int) ∧ (0 : Int) ≤ (if (v2.length : Int) < 16 then (v2.length : Int) else (16 : Int)) ∧ (if (v2.length : Int) < 16 then (v2.length : Int) else (16 : Int)) ≤ (v2.length : Int) then iterC (Ripacked_5 (fun y1 y2 y3 y4 y5 y6 y7 => if (true && !rowsV y7) = true then none else if (2 + y7.length) * 1 ≤ LIM then cV false [.sl 1] (Fisealed [.one (.sl false (some false) 1 (freezeRows ([[C.v (.int .u8 (B8 (y3)))], [C.v (.int .u8 (B8 ((y7.length : Int))))]] ++ y7)))]) fun o1 l1 => if (true && !rowsV l1) = true then none else if (y5.length + l1.length) * 1 ≤ LIM then if 0 ≤ y3 ∧ y3 ≤ ((y2.length : Nat) : Int) ∧ ((y2.length : Nat) : Int) ≤ (y2.length : Int) then nx (cutNl y1) (List.drop (Int.toNat y3) (List.take (Int.toNat (y2.length : Int)) y2)) (apNl y4 l1) (y5 ++ l1) else none else none else none)) FUEL v1 v2 (if (v2.length : Int) < 16 then (v2.length : Int) else (16 : Int)) (cutNl v1) (List.drop 0 (List.take (Int.toNat (if (v2.length : Int) < 16 then (v2.length : Int) else (16 : Int))) v2)) ((List.drop 0 (List.take (Int.toNat (if (v2.length : Int) < 16 then (v2.length : Int) else (16 : Int))) v2)).length : Int) 0 v3 v4 (some false) [] else none else k0 v3 v4
noncomputable def Lipacked_2 : Lp := ⟨2, [0, 3], [3], 2, 44, hipacked_2, xipacked_2, Ripacked_2⟩
noncomputable def Qipacked : Fx := ⟨Go.Proofs.Try.f82, [.ro], false, mkEnv tys_y8 [(135, SiPackOp), (136, Sisealed)] [], fun _ => .stop, [Lipacked_5, Lipacked_2]⟩
noncomputable def Fipacked : List S → Option Res := veil Qipacked.run
noncomputable def Sipacked : Spec := ⟨[.ro], false, Fipacked⟩
theorem mipacked (x1 : Option Bool) (x2 : List (List C)) : Fipacked [.one (.sl false x1 3 x2)] = iterC (Ripacked_2 (fun y1 y2 => fr false 1 [.one (.sl true y1 1 y2)])) FUEL x1 x2 (some false) [] := Fx.eq (by kernel_rfl)
theorem stipacked_5 : Lipacked_5.Step Qipacked.E Qipacked.dr Qipacked.lp ((findLoop 5 Qipacked.code).getD .skip) := fun k nx v => by kernel_rfl
theorem stipacked_2 : Lipacked_2.Step Qipacked.E Qipacked.dr Qipacked.lp ((findLoop 2 Qipacked.code).getD .skip) := fun k nx v => by kernel_rfl
theorem okipacked : CalleeOk Go.Proofs.Try.prog 82 Sipacked := Fx.ok (F := Qipacked) follows (envTy_mk tys_y8_eq) (envSpec_of (specsOk_cons okiPackOp (specsOk_cons okisealed specsOk_nil))) Go.Proofs.Try.func82 (by kernel_rfl) (by kernel_rfl) (by
  rw [show subs Qipacked.code = [(findLoop 2 Qipacked.code).getD .skip, (findLoop 5 Qipacked.code).getD .skip] by kernel_rfl]
  exact ⟨stepAt_some (by kernel_rfl) stipacked_2, stepAt_some (by kernel_rfl) stipacked_5, trivial⟩) (by kernel_rfl) (by kernel_rfl) rfl
theorem in_packed (c rest : List OpR) (nl nl2 : Option Bool) (T : Int) (out : List Int) (hc : c.all opOk = true) (hl : c.length ≤ 16) (K) :
    iterC (Ripacked_5 K) FUEL nl (rest.map encOp) T nl2 (c.map encOp) (c.length : Int) 0 (some false) (out.map encB) (some false) [] = K nl (rest.map encOp) T (some false) (out.map encB) (some false) ((c.flatMap opBytes).map encB) := by
  refine (iter_fold (h := hipacked_5) c (fun i (x : List Int) f => f nl (rest.map encOp) T nl2 (c.map encOp) (c.length : Int) (i : Int) (some false) (out.map encB) (some false) (x.map encB)) (fun x o => x ++ opBytes o) (fun x => K nl (rest.map encOp) T (some false) (out.map encB) (some false) (x.map encB)) (fun i x => x.length ≤ 2 * i) (by omega) ?_ ?_ [] (by simp)).trans ?_
  · intro nx x _; simp [Ripacked_5]
  · intro nx i x hi hx hW
    have hb := opBytes_len c[i]
    have f1 := FiPackOp_at c[i]
    have hok : opOk c[i] = true := List.all_eq_true.1 hc _ (List.getElem_mem hi)
    rw [hok] at f1
    have hL : x.length + (opBytes c[i]).length ≤ LIM := by unfold LIM; omega
    refine ⟨by rw [List.length_append]; omega, ?_⟩
    simp [Ripacked_5, hi, hW, f1, hL]
  · rw [fold_flat, List.nil_append]
theorem Fipacked_at (nl : Option Bool) (l : List OpR) (hall : l.all opOk = true) (hl : l.length ≤ 100000) : Fipacked [S.one (C.sl false nl 3 (l.map encOp))] = some (S.one (C.sl true (some false) 1 ((packI ((l.length + 15) / 16) l).map encB)), [S.one C.unk]) := by
  have key : Ok (Fipacked [S.one (C.sl false nl 3 (l.map encOp))]) (fun r => r = (S.one (C.sl true (some false) 1 ((packI ((l.length + 15) / 16) l).map encB)), [S.one C.unk])) := by
    rw [mipacked]
    generalize hP : packI ((l.length + 15) / 16) l = P
    refine iter_ok (h := hipacked_2) ((l.length + 15) / 16) (fun j (a : Option Bool × List OpR × List Int) f => f a.1 (a.2.1.map encOp) (some false) (a.2.2.map encB)) (fun j a => a.2.1 = l.drop (16 * j) ∧ a.2.2.length ≤ 36 * j ∧ a.2.2 ++ packI ((l.length + 15) / 16 - j) a.2.1 = P) _ (by omega) ?_ ?_ (nl, l, []) ⟨by simp, by simp, by simpa using hP⟩
    · intro nx ⟨nl', rest, out⟩ ⟨hr, _, hp⟩
      simp only at hr hp
      have h0 : rest = [] := by rw [hr]; exact List.drop_eq_nil_of_le (by omega)
      subst h0
      rw [Nat.sub_self, packI, List.append_nil] at hp
      subst hp
      exact ok_eq (r := (S.one (C.sl true (some false) 1 (out.map encB)), [S.one C.unk])) (by simp [Ripacked_2]) rfl
    · intro nx j ⟨nl', rest, out⟩ hj ⟨hr, ho, hp⟩ _ hnx
      simp only at hr ho hp
      have hrl : rest.length = l.length - 16 * j := by rw [hr, List.length_drop]
      have hr0 : 0 < rest.length := by omega
      obtain ⟨f, hf⟩ : ∃ f, (l.length + 15) / 16 - j = f + 1 := ⟨(l.length + 15) / 16 - j - 1, by omega⟩
      have hne : rest ≠ [] := List.length_pos_iff.1 hr0
      rw [hf, packI, if_neg hne] at hp
      obtain ⟨T, hT⟩ : ∃ T : Nat, T = min 16 rest.length := ⟨_, rfl⟩
      have hTe : (if (rest.length : Int) < 16 then (rest.length : Int) else (16 : Int)) = (T : Int) := by split <;> omega
      have hTl : T ≤ rest.length := by omega
      have htk : rest.take 16 = rest.take T := by
        by_cases h16 : 16 ≤ rest.length
        · rw [show T = 16 by omega]
        · rw [List.take_of_length_le (by omega), List.take_of_length_le (by omega)]
      have hdr : rest.drop 16 = rest.drop T := by
        by_cases h16 : 16 ≤ rest.length
        · rw [show T = 16 by omega]
        · rw [List.drop_eq_nil_of_le (by omega), List.drop_eq_nil_of_le (by omega)]
      rw [htk, hdr] at hp
      have hcall : (rest.take T).all opOk = true := by
        rw [List.all_eq_true] at hall ⊢
        intro o hmem
        have := List.mem_of_mem_take hmem
        rw [hr] at this
        exact hall o (List.mem_of_mem_drop this)
      have hcl : (rest.take T).length = T := by rw [List.length_take]; omega
      have hfull : (rest.map encOp).take rest.length = rest.map encOp := List.take_of_length_le (by simp)
      have hin := in_packed (rest.take T) rest nl' (cutNl nl') (T : Int) out hcall (by omega)
      rw [hcl, List.map_take] at hin
      have hnx := hnx (cutNl nl', rest.drop T, out ++ packBlock (rest.take T)) ⟨by
          rw [← hdr, hr, List.drop_drop]; congr 1, by
          have := (packBlock_len (rest.take T) (by omega)).1
          simp only [List.length_append]; omega, by
          simp only [List.append_assoc]; rw [show (l.length + 15) / 16 - (j + 1) = f by omega]; exact hp⟩
      simp only [List.map_drop] at hnx
      generalize hcg : rest.take T = c at *
      have hfl := flat_len c
      have w3 : B8 (T : Int) = (c.length : Int) := by rw [hcl]; exact B8_eq (by omega) (by omega)
      have w4 : B8 ((c.flatMap opBytes).length : Int) = ((c.flatMap opBytes).length : Int) := B8_eq (by omega) (by omega)
      have hH : (packH c).length = (c.flatMap opBytes).length + 2 := rfl
      have f1 := Fisealed_at (some false) (packH c) ⟨packH_ok hcall (by omega), by omega⟩
      have hs := sumB_range (packH c)
      have hseal : packH c ++ [B8 (sumB (packH c) / 256), B8 (sumB (packH c))] = packBlock c := by
        rw [packBlock, B8_eq (n := sumB (packH c) / 256) (by omega) (by omega), B8_mod]
      rw [hseal] at f1
      have hfz : freezeRows ([C.v (Value.int .u8 (c.length : Int))] :: [C.v (Value.int .u8 ((c.flatMap opBytes).length : Int))] :: (c.flatMap opBytes).map encB) = (packH c).map encB := encB_freeze (packH c)
      have hbl := packBlock_len c (by omega)
      have hL1 : 2 + (c.flatMap opBytes).length ≤ LIM := by unfold LIM; omega
      have hL2 : out.length + (packBlock c).length ≤ LIM := by unfold LIM; omega
      have hpos : 0 < rest.length := hr0
      refine ok_of ?_ hnx
      simp only [Ripacked_2, List.length_map, hTe]
      simp [-List.map_append, -List.length_flatMap, hpos, hTl, hfull, hin, w3, w4, hfz, f1, hL1, hL2]
      try simp
  obtain ⟨r, h1, rfl⟩ := key
  exact h1
/-! iPackOps: loop.example/g00712/impl.PackOps -/
noncomputable def QiPackOps : Fx := ⟨Go.Proofs.Try.f30, [.ro], false, mkEnv tys_y8 [(79, SslicesContainsFunc_iOp_iPackOps_1), (82, Sipacked)] [], fun _ => .stop, []⟩
noncomputable def FiPackOps : List S → Option Res := veil QiPackOps.run
noncomputable def SiPackOps : Spec := ⟨[.ro], false, FiPackOps⟩
theorem miPackOps (x1 : Option Bool) (x2 : List (List C)) : FiPackOps [.one (.sl false x1 3 x2)] = bif decide ((x2.length : Int) > 4000) then fr false 1 [.one (.sl true (some true) 1 []), .one (.bool false)] else cV false [.bool] (FslicesContainsFunc_iOp_iPackOps_1 [.one (.sl false x1 3 x2), .one (.fn 80 [])]) fun b1 => bif b1 then fr false 1 [.one (.sl true (some true) 1 []), .one (.bool false)] else cV false [.sl 1] (Fipacked [.one (.sl false x1 3 x2)]) fun o1 l1 => bif decide ((l1.length : Int) > 4000) then fr false 1 [.one (.sl true (some true) 1 []), .one (.bool false)] else fr false 1 [.one (.sl true o1 1 l1), .one (.bool true)] := Fx.eq (by kernel_rfl)
theorem okiPackOps : CalleeOk Go.Proofs.Try.prog 30 SiPackOps := Fx.ok (F := QiPackOps) follows (envTy_mk tys_y8_eq) (envSpec_of (specsOk_cons okslicesContainsFunc_iOp_iPackOps_1 (specsOk_cons okipacked specsOk_nil))) Go.Proofs.Try.func30 (by kernel_rfl) (by kernel_rfl) (by rw [show subs QiPackOps.code = [] by kernel_rfl]; trivial) (by kernel_rfl) (by kernel_rfl) rfl
theorem FiPackOps_at (nl : Option Bool) (l : List OpR) (h : l.length ≤ 100000) : FiPackOps [S.one (C.sl false nl 3 (l.map encOp))] = some (packRes (packS ((l.length + 15) / 16) l []), [S.one C.unk]) := by
  have hP := packS_eq ((l.length + 15) / 16) l [] (by omega) (by omega) (by simp)
  rw [List.nil_append] at hP
  have hlen := packI_len ((l.length + 15) / 16) l (by omega)
  rw [miPackOps]
  by_cases h4 : (l.length : Int) > 4000
  · rw [hP, if_neg (fun h => by omega)]
    simp [h4, packRes]
  · have f1 := FslicesContainsFunc_iOp_iPackOps_1_at nl l (by omega)
    have hany : (l.any fun n => !opOk n) = !l.all opOk := by
      rw [Bool.eq_iff_iff]; simp
    rw [hany] at f1
    cases hall : l.all opOk with
    | false =>
      rw [hall] at f1 hP
      rw [hP, if_neg (fun h => by cases h.1)]
      simp [h4, f1, packRes]
    | true =>
      rw [hall] at f1 hP
      have f2 := Fipacked_at nl l hall h
      by_cases h5 : (packI ((l.length + 15) / 16) l).length ≤ 4000
      · have h5' : ¬ 4000 < (packI ((l.length + 15) / 16) l).length := by omega
        have h5'' : ¬ (4000 : Int) < ((packI ((l.length + 15) / 16) l).length : Int) := by omega
        rw [hP, if_pos ⟨rfl, h5⟩]
        simp [-Int.natCast_ediv, h4, f1, f2, h5', h5'', packRes]
      · have h5' : 4000 < (packI ((l.length + 15) / 16) l).length := by omega
        have h5'' : (4000 : Int) < ((packI ((l.length + 15) / 16) l).length : Int) := by omega
        rw [hP, if_neg (fun h => h5 h.2)]
        simp [-Int.natCast_ediv, h4, f1, f2, h5', h5'', packRes]
/-! iUnpackOps: loop.example/g00712/impl.UnpackOps -/
noncomputable def QiUnpackOps : Fx := ⟨Go.Proofs.Try.f32, [.ro], false, mkEnv tys_y8 [(35, SiScanOps), (82, Sipacked), (83, SbytesEqual)] [], fun _ => .stop, []⟩
noncomputable def FiUnpackOps : List S → Option Res := veil QiUnpackOps.run
noncomputable def SiUnpackOps : Spec := ⟨[.ro], false, FiUnpackOps⟩
theorem miUnpackOps (x1 : Option Bool) (x2 : List (List C)) : FiUnpackOps [.one (.sl false x1 1 x2)] = cT [(false, [.sl 3]), (false, [.int .i64]), (false, [.int .i64])] (FiScanOps [.one (.sl false x1 1 x2)]) fun o1 l1 n1 n2 => bif n2 != 0 then fr false 1 [.one (.sl true (some true) 3 []), .one (.bool false)] else cV false [.sl 1] (Fipacked [.one (.sl false o1 3 (freezeRows l1))]) fun o2 l2 => cV false [.bool] (FbytesEqual [.one (.sl false o2 1 (freezeRows l2)), .one (.sl false x1 1 x2)]) fun b1 => bif !b1 then fr false 1 [.one (.sl true (some true) 3 []), .one (.bool false)] else fr false 1 [.one (.sl true o1 3 l1), .one (.bool true)] := Fx.eq (by kernel_rfl)
theorem okiUnpackOps : CalleeOk Go.Proofs.Try.prog 32 SiUnpackOps := Fx.ok (F := QiUnpackOps) follows (envTy_mk tys_y8_eq) (envSpec_of (specsOk_cons okiScanOps (specsOk_cons okipacked (specsOk_cons okbytesEqual specsOk_nil)))) Go.Proofs.Try.func32 (by kernel_rfl) (by kernel_rfl) (by rw [show subs QiUnpackOps.code = [] by kernel_rfl]; trivial) (by kernel_rfl) (by kernel_rfl) rfl
theorem FiUnpackOps_good (nl : Option Bool) (b : List Int) (ops : List OpR) (hb : bOk b) (hl : b.length ≤ 4000) (hsc : scan b = (ops, b.length)) (hpk : packI ((ops.length + 15) / 16) ops = b) (hall : ops.all opOk = true) (hol : ops.length ≤ 100000) :
    FiUnpackOps [S.one (C.sl false nl 1 (b.map encB))] = some (S.tup [S.one (C.sl true (some false) 3 (ops.map encOp)), S.one (C.bool true)], [S.one C.unk]) := by
  have f1 := FiScanOps_at nl b ⟨hb, by omega⟩
  rw [scanRes, if_neg (by omega), hsc] at f1
  simp only [List.drop_length, kindB] at f1
  have f2 := Fipacked_at (some false) ops hall hol
  rw [hpk] at f2
  have f3 := eqBytes (some false) nl b b hb hb
  rw [decide_eq_true rfl] at f3
  rw [miUnpackOps]
  simp [f1, f2, f3]
/-! iLongest: loop.example/g00712/impl.Longest -/
noncomputable def QiLongest : Fx := ⟨Go.Proofs.Try.f36, [.ro], false, mkEnv tys_y8 [(35, SiScanOps), (86, SslicesClone_byte)] [], fun _ => .stop, []⟩
noncomputable def FiLongest : List S → Option Res := veil QiLongest.run
noncomputable def SiLongest : Spec := ⟨[.ro], false, FiLongest⟩
theorem miLongest (x1 : Option Bool) (x2 : List (List C)) : FiLongest [.one (.sl false x1 1 x2)] = cT [(false, [.sl 3]), (false, [.int .i64]), (false, [.int .i64])] (FiScanOps [.one (.sl false x1 1 x2)]) fun o1 l1 n1 n2 => if 0 ≤ (0 : Int) ∧ (0 : Int) ≤ n1 ∧ n1 ≤ (x2.length : Int) then cV false [.sl 1] (FslicesClone_byte [.one (.sl false (cutNl x1) 1 (List.drop 0 (List.take (Int.toNat n1) x2)))]) fun o2 l2 => fr false 1 [.one (.sl true o2 1 l2)] else none := Fx.eq (by kernel_rfl)
theorem okiLongest : CalleeOk Go.Proofs.Try.prog 36 SiLongest := Fx.ok (F := QiLongest) follows (envTy_mk tys_y8_eq) (envSpec_of (specsOk_cons okiScanOps (specsOk_cons okslicesClone_byte specsOk_nil))) Go.Proofs.Try.func36 (by kernel_rfl) (by kernel_rfl) (by rw [show subs QiLongest.code = [] by kernel_rfl]; trivial) (by kernel_rfl) (by kernel_rfl) rfl
theorem FiLongest_at (nl : Option Bool) (b : List Int) (h : bOk b ∧ b.length ≤ 4000 ∧ (scan b).2 ≤ b.length) : FiLongest [S.one (C.sl false nl 1 (b.map encB))] = some (S.one (C.sl true (cutNl nl) 1 ((b.take (scan b).2).map encB)), [S.one C.unk]) := by
  obtain ⟨hb, hl, hs⟩ := h
  have f1 := FiScanOps_at nl b ⟨hb, by omega⟩
  rw [scanRes, if_neg (by omega)] at f1
  have f2 := FslicesClone_byte_at byte_plain (cutNl nl) (b.take (scan b).2) (by rw [List.length_take]; omega)
  have hf := encB_free (b.take (scan b).2)
  rw [List.map_take] at f2 hf
  rw [miLongest]
  simp [f1, f2, hs, hf]
/-! wsameBytes: loop.example/g00712/laws.sameBytes -/
@[reducible] def hwsameBytes_4 : Sh := ⟨[.one (.o (.sl false 1)), .one (.o (.sl false 1)), .one (.o (.i .i64))], []⟩
@[reducible] def xwsameBytes_4 : List (Ex × Sh) := [(.ret, ⟨[.one (.o .b)], []⟩), (.exit 0, ⟨[.one (.o .u)], []⟩)]
noncomputable def RwsameBytes_4 : KC xwsameBytes_4 (hwsameBytes_4.K → hwsameBytes_4.K) := fun k0 k1 nx v1 v2 v3 v4 v5 => bif decide (v5 < (v2.length : Int)) then ix v5 v2 ((v2[Int.toNat v5]?).bind fun w1 => tRo [.int .u8] w1 fun n1 => ix v5 v4 ((v4[Int.toNat v5]?).bind fun w2 => tRo [.int .u8] w2 fun n2 => bif n1 != n2 then k0 false else nx v1 v2 v3 v4 (W (v5 + 1)))) else k1
noncomputable def LwsameBytes_4 : Lp := ⟨4, [0, 1, 5], [4], 0, 26, hwsameBytes_4, xwsameBytes_4, RwsameBytes_4⟩
noncomputable def QwsameBytes : Fx := ⟨Go.Proofs.Try.f31, [.ro, .ro], false, mkEnv tys_y8 [] [], fun id => bif Nat.beq id 6 then .sq [0, 1, 2, 3, 4, 5, 6, 7, 8] .stop else .stop, [LwsameBytes_4]⟩
noncomputable def FwsameBytes : List S → Option Res := veil QwsameBytes.run
noncomputable def SwsameBytes : Spec := ⟨[.ro, .ro], false, FwsameBytes⟩
theorem mwsameBytes (x1 : Option Bool) (x2 : List (List C)) (x3 : Option Bool) (x4 : List (List C)) : FwsameBytes [.one (.sl false x1 1 x2), .one (.sl false x3 1 x4)] = bif (x2.length : Int) != (x4.length : Int) then fr false 2 [.one (.bool false)] else iterC (RwsameBytes_4 (fun y1 => fr false 2 [.one (.bool y1)]) (fr false 2 [.one (.bool true)])) FUEL x1 x2 x3 x4 0 := Fx.eq (by kernel_rfl)
theorem stwsameBytes_4 : LwsameBytes_4.Step QwsameBytes.E QwsameBytes.dr QwsameBytes.lp ((findLoop 4 QwsameBytes.code).getD .skip) := fun k nx v => by kernel_rfl
theorem okwsameBytes : CalleeOk Go.Proofs.Try.prog 31 SwsameBytes := Fx.ok (F := QwsameBytes) follows (envTy_mk tys_y8_eq) (envSpec_of (specsOk_nil)) Go.Proofs.Try.func31 (by kernel_rfl) (by kernel_rfl) (by
  rw [show subs QwsameBytes.code = [(findLoop 4 QwsameBytes.code).getD .skip] by kernel_rfl]
  exact ⟨stepAt_some (by kernel_rfl) stwsameBytes_4, trivial⟩) (by kernel_rfl) (by kernel_rfl) rfl
theorem FwsameBytes_at (nl : Option Bool) (a : List Int) (nl' : Option Bool) (b : List Int) (h : a.length < 4611686018427387903) : FwsameBytes [S.one (C.sl false nl 1 (a.map encB)), S.one (C.sl false nl' 1 (b.map encB))] = some (S.one (C.bool (decide (a = b))), [S.one C.unk, S.one C.unk]) := by
  rw [mwsameBytes]
  by_cases hl : a.length = b.length
  · have e1 : (((a.map encB).length : Int) != ((b.map encB).length : Int)) = false := by simp [hl]
    rw [e1, cond_false]
    refine (iter_eq (h := hwsameBytes_4) a b (fun i f => f nl (a.map encB) nl' (b.map encB) (i : Int)) (fr false 2 [.one (.bool true)]) (fr false 2 [.one (.bool false)]) (by omega) hl ?_ ?_).trans ?_
    · intro nx; simp [RwsameBytes_4]
    · intro nx i hi hi' hW
      by_cases e : a[i] = b[i]
      · simp [RwsameBytes_4, hi, hi', hW, e]
      · have e2 : (a[i] != b[i]) = true := by simpa using e
        simp [RwsameBytes_4, hi, hi', hW, e2, e]
    · by_cases e : a = b <;> simp [e]
  · have e1 : (((a.map encB).length : Int) != ((b.map encB).length : Int)) = true := by simp; omega
    have e2 : ¬ a = b := fun e => hl (by rw [e])
    rw [e1]; simp [e2]
end Go.Proofs.Gh.Gm
set_option linter.unusedVariables false
set_option linter.unusedSimpArgs false
set_option maxRecDepth 100000
set_option maxHeartbeats 2000000
namespace Go.Proofs.Gh.Gm
def tys_y9 : List (Nat × TI) := [(3, ⟨false, 8, [.int .i64], [.int 0], .scalar, false, none⟩),
  (4, ⟨false, 1, [.bool], [.bool false], .scalar, false, none⟩),
  (38, ⟨false, 24, [.sl 1], [.sl true (some true) 1 []], .slice 5, false, none⟩),
  (40, ⟨false, 24, [.sl 3], [.sl true (some true) 3 []], .slice 104, false, none⟩),
  (42, ⟨false, 0, [], [], .tuple [38, 4], false, none⟩),
  (45, ⟨false, 0, [], [], .tuple [40, 4], false, none⟩),
  (49, ⟨false, 0, [], [], .tuple [40, 3, 3], false, none⟩),
  (112, ⟨false, 8, [.other], [.v (Value.pointer none)], .scalar, false, none⟩)]
theorem tys_y9_eq : tys_y9.map (fun x => tiOf Go.Proofs.Try.prog x.1 x.2.cks) = tys_y9.map fun x => some x.2 := by kernel_rfl
/-! sl17Ops: loop.example/g00712/spec.l17Ops -/
noncomputable def Qsl17Ops : Fx := ⟨Go.Proofs.Try.f74, [.ro], false, mkEnv tys_y9 [(100, Ssl01Once), (128, Ssl01Below), (129, Ssl17DrawOps), (97, Ssl01New), (99, Ssl01Size)] [(100, [.cub 1]), (128, [.cub 1]), (129, [.cub 1]), (97, [.cur 1])], fun _ => .stop, []⟩
noncomputable def Fsl17Ops : List S → Option Res := veil Qsl17Ops.run
noncomputable def Ssl17Ops : Spec := ⟨[.ro], false, Fsl17Ops⟩
theorem msl17Ops (x1 : Option Bool) (x2 : List (List C)) : Fsl17Ops [.one (.sl false x1 1 x2)] = cOV [.cur 1] false [.other] (Fsl01New [.one (.sl false x1 1 x2)]) fun c1 => cuK 1 c1 fun o1 l1 n1 n2 => cV false [.int .i64] (Fsl01Size [.one (.sl false x1 1 x2), .one (.int 60)]) fun n3 => cOV [.cub 1] false [.int .i64] (Fsl01Below [.one (.bx [.sl false o1 1 l1, .int n1, .int n2]), .one (.int n3)]) fun o2 l2 n4 n5 n6 => (let q1 : Int → Bool → (Option Bool) → (List (List C)) → Int → Int → Option Res := fun z1 z2 z3 z4 z5 z6 => cOV [.cub 1] false [.sl 3] (Fsl17DrawOps [.one (.bx [.sl false z3 1 z4, .int z5, .int z6]), .one (.int z1)]) fun o3 l3 n7 n8 o4 l4 => fr false 1 [.one (.sl true o4 3 l4)]; cOV [.cub 1] false [.bool] (Fsl01Once [.one (.bx [.sl false o2 1 l2, .int n4, .int n5]), .one (.int 60)]) fun o5 l5 n9 n10 b1 => bif b1 then q1 2200 b1 o5 l5 n9 n10 else q1 n6 b1 o5 l5 n9 n10) := Fx.eq (by kernel_rfl)
theorem oksl17Ops : CalleeOk Go.Proofs.Try.prog 74 Ssl17Ops := Fx.ok (F := Qsl17Ops) follows (envTy_mk tys_y9_eq) (envSpec_of (specsOk_cons oksl01Once (specsOk_cons oksl01Below (specsOk_cons oksl17DrawOps (specsOk_cons oksl01New (specsOk_cons oksl01Size specsOk_nil)))))) Go.Proofs.Try.func74 (by kernel_rfl) (by kernel_rfl) (by rw [show subs Qsl17Ops.code = [] by kernel_rfl]; trivial) (by kernel_rfl) (by kernel_rfl) rfl
theorem dOps17 (o : Option Bool) (bs : List Int) (h : bs.length ≤ 1099511627776) : ∃ l : List OpR, Fsl17Ops [.one (.sl false o 1 (bs.map encB))] = some (.one (.sl true (some false) 3 (l.map encOp)), [.one .unk]) ∧ l.length ≤ 2200 := by
  have key : Ok (Fsl17Ops [.one (.sl false o 1 (bs.map encB))]) (fun r => ∃ l : List OpR, r = (.one (.sl true (some false) 3 (l.map encOp)), [.one .unk]) ∧ l.length ≤ 2200) := by
    rw [msl17Ops]
    obtain ⟨c0, e0, hc0⟩ := dNew o bs h
    obtain ⟨n, e1, hn2, hn60⟩ := dSize o bs 60 h (by omega)
    refine ok_of (by simp -zeta -zetaHave [e0, e1]; rfl) ?_
    refine ok_below hc0 fun m c1 hc1 hm0 hm1 => ?_
    have hm1 := hm1 (by omega)
    obtain ⟨m, rfl⟩ := Int.eq_ofNat_of_zero_le hm0
    have hgo : ∀ (c : Cu) (n : Nat), cuOk c → n ≤ 2200 → Ok (cOV [.cub 1] false [.sl 3] (Fsl17DrawOps [.one (.bx [.sl false c.o 1 (c.bs.map encB), .int c.i, .int c.h]), .one (.int (n : Int))]) fun o3 l3 n7 n8 o4 l4 => if rowsFree l4 = true then some (S.one (C.sl true o4 3 l4), [S.one C.unk]) else none) (fun r => ∃ l : List OpR, r = (.one (.sl true (some false) 3 (l.map encOp)), [.one .unk]) ∧ l.length ≤ 2200) := by
      intro c n hc hn
      obtain ⟨l, c2, e2, hc2, hll⟩ := dOps c n hc (by omega)
      exact ok_eq (r := (.one (.sl true (some false) 3 (l.map encOp)), [.one .unk])) (by simp [e2]) ⟨l, rfl, by omega⟩
    extract_lets -underBinder q1
    refine ok_once hc1 fun b c2 hc2 => ?_
    cases b with
    | true => exact hgo c2 2200 hc2 (by omega)
    | false => exact hgo c2 m hc2 (by omega)
  obtain ⟨r, h1, l, rfl, h2⟩ := key
  exact ⟨l, h1, h2⟩
/-! sDrawPackOps: loop.example/g00712/spec.DrawPackOps -/
noncomputable def QsDrawPackOps : Fx := ⟨Go.Proofs.Try.f28, [.ro], false, mkEnv tys_y9 [(74, Ssl17Ops)] [], fun _ => .stop, []⟩
noncomputable def FsDrawPackOps : List S → Option Res := veil QsDrawPackOps.run
noncomputable def SsDrawPackOps : Spec := ⟨[.ro], false, FsDrawPackOps⟩
theorem msDrawPackOps (x1 : Option Bool) (x2 : List (List C)) : FsDrawPackOps [.one (.sl false x1 1 x2)] = cV false [.sl 3] (Fsl17Ops [.one (.sl false x1 1 x2)]) fun o1 l1 => fr false 1 [.one (.sl true o1 3 l1)] := Fx.eq (by kernel_rfl)
theorem oksDrawPackOps : CalleeOk Go.Proofs.Try.prog 28 SsDrawPackOps := Fx.ok (F := QsDrawPackOps) follows (envTy_mk tys_y9_eq) (envSpec_of (specsOk_cons oksl17Ops specsOk_nil)) Go.Proofs.Try.func28 (by kernel_rfl) (by kernel_rfl) (by rw [show subs QsDrawPackOps.code = [] by kernel_rfl]; trivial) (by kernel_rfl) (by kernel_rfl) rfl
theorem dPackOps (o : Option Bool) (bs : List Int) (h : bs.length ≤ 1099511627776) : ∃ l : List OpR, FsDrawPackOps [.one (.sl false o 1 (bs.map encB))] = some (.one (.sl true (some false) 3 (l.map encOp)), [.one .unk]) ∧ l.length ≤ 2200 := by
  obtain ⟨l, e, h1⟩ := dOps17 o bs h
  exact ⟨l, by rw [msDrawPackOps, e]; simp, h1⟩
theorem dAt1 (o : Option Bool) (bs : List Int) (hb : bOk bs) (i : Nat) (h : bs.length ≤ 1048576) (hi : i ≤ 1048576) : ∃ v, Fwat [.one (.sl false o 1 (bs.map encB)), .one (.int i)] = some (.one (.int v), [.one .unk, .one .unk]) ∧ 0 ≤ v ∧ v ≤ 255 := by
  have hm := mwat o (bs.map encB) i
  by_cases hk : i < bs.length
  · have hr := bOk_get hb hk
    exact ⟨W bs[i], hm.trans (by simp [hk, C.asInt]), by rw [W_eq (by omega) (by omega)]; omega⟩
  · have h1 : ¬ (i : Int) < (bs.length : Int) := by omega
    have w1 : W ((i : Int) * 13) = (i : Int) * 13 := W_eq (by omega) (by omega)
    have w2 : W ((bs.length : Int) * 5) = (bs.length : Int) * 5 := W_eq (by omega) (by omega)
    have w3 : W ((i : Int) * 13 + (bs.length : Int) * 5) = (i : Int) * 13 + (bs.length : Int) * 5 := W_eq (by omega) (by omega)
    have hlt : Int.tmod ((i : Int) * 13 + (bs.length : Int) * 5) 256 < 256 := Int.tmod_lt_of_pos _ (by omega)
    exact ⟨Int.tmod ((i : Int) * 13 + (bs.length : Int) * 5) 256, hm.trans (by simp [h1, w1, w2, w3]), Int.tmod_nonneg _ (by omega), by omega⟩
/-! wFnPacked: loop.example/g00712/laws.FnPacked -/
noncomputable def QwFnPacked : Fx := ⟨Go.Proofs.Try.f6, [.ro], false, (mkEnv tys_y9 [(27, Swbig), (28, SsDrawPackOps), (29, SsPackOps), (30, SiPackOps), (31, SwsameBytes), (32, SiUnpackOps), (33, SwsameOps), (34, Swat), (35, SiScanOps), (36, SiLongest)] []).winS [65, 80, 108, 112], fun id => bif Nat.beq id 17 then .sq [0, 1, 2, 4, 5, 6, 3, 7, 8, 9, 10, 11, 12, 13, 14, 15, 16, 17, 18] .stop else .stop, []⟩
noncomputable def FwFnPacked : List S → Option Res := veil QwFnPacked.run
noncomputable def SwFnPacked : Spec := ⟨[.ro], false, FwFnPacked⟩
theorem mwFnPacked (x1 : Option Bool) (x2 : List (List C)) : FwFnPacked [.one (.sl false x1 1 x2)] = cV false [.bool] (Fwbig [.one (.sl false x1 1 x2)]) fun b1 => bif b1 then fr false 1 [.one (.bool true)] else cV false [.sl 3] (FsDrawPackOps [.one (.sl false x1 1 x2)]) fun o1 l1 => cT [(false, [.sl 1]), (false, [.bool])] (FsPackOps [.one (.sl false o1 3 (freezeRows l1))]) fun o2 l2 b2 => cT [(false, [.sl 1]), (false, [.bool])] (FiPackOps [.one (.sl false o1 3 (freezeRows l1))]) fun o3 l3 b3 => bif !(b3 == b2) then fr false 1 [.one (.bool false)] else cV false [.bool] (FwsameBytes [.one (.sl false o3 1 (freezeRows l3)), .one (.sl false o2 1 (freezeRows l2))]) fun b4 => bif !b4 then fr false 1 [.one (.bool false)] else bif !b2 then fr false 1 [.one (.bool true)] else cT [(false, [.sl 3]), (false, [.bool])] (FiUnpackOps [.one (.sl false o3 1 (freezeRows l3))]) fun o4 l4 b5 => bif !b5 then fr false 1 [.one (.bool false)] else cV false [.bool] (FwsameOps [.one (.sl false o4 3 (freezeRows l4)), .one (.sl false o1 3 (freezeRows l1))]) fun b6 => bif !b6 then fr false 1 [.one (.bool false)] else cV false [.int .i64] (Fwat [.one (.sl false x1 1 x2), .one (.int 0)]) fun n1 => cV false [.int .i64] (Fwat [.one (.sl false x1 1 x2), .one (.int 1)]) fun n2 => if W ((l3.length : Int) + 1) = 0 then none else if 0 ≤ (0 : Int) ∧ (0 : Int) ≤ Int.tmod (W (n1 * (W (1 + n2)))) (W ((l3.length : Int) + 1)) ∧ Int.tmod (W (n1 * (W (1 + n2)))) (W ((l3.length : Int) + 1)) ≤ (l3.length : Int) then cT [(false, [.sl 3]), (false, [.int .i64]), (false, [.int .i64])] (FiScanOps [.one (.sl false (cutNl o3) 1 (List.drop 0 (List.take (Int.toNat (Int.tmod (W (n1 * (W (1 + n2)))) (W ((l3.length : Int) + 1)))) (freezeRows l3))))]) fun o5 l5 n3 n4 => (let q1 : Option Res := if 0 ≤ (0 : Int) ∧ (0 : Int) ≤ Int.tmod (W (n1 * (W (1 + n2)))) (W ((l3.length : Int) + 1)) ∧ Int.tmod (W (n1 * (W (1 + n2)))) (W ((l3.length : Int) + 1)) ≤ (l3.length : Int) then if 0 ≤ (0 : Int) ∧ (0 : Int) ≤ n3 ∧ n3 ≤ (l3.length : Int) then cV false [.sl 1] (FiLongest [.one (.sl false (cutNl o3) 1 (List.drop 0 (List.take (Int.toNat (Int.tmod (W (n1 * (W (1 + n2)))) (W ((l3.length : Int) + 1)))) (freezeRows l3))))]) fun o6 l6 => cV false [.bool] (FwsameBytes [.one (.sl false o6 1 (freezeRows l6)), .one (.sl false (cutNl o3) 1 (List.drop 0 (List.take (Int.toNat n3) (freezeRows l3))))]) fun b7 => bif b7 then bif decide (Int.tmod (W (n1 * (W (1 + n2)))) (W ((l3.length : Int) + 1)) < (l3.length : Int)) then fr false 1 [.one (.bool true)] else fr false 1 [.one (.bool (n4 == 0))] else fr false 1 [.one (.bool false)] else none else none; bif decide ((l5.length : Int) > (l1.length : Int)) then fr false 1 [.one (.bool false)] else if 0 ≤ (0 : Int) ∧ (0 : Int) ≤ (l5.length : Int) ∧ (l5.length : Int) ≤ (l1.length : Int) then cV false [.bool] (FwsameOps [.one (.sl false o5 3 (freezeRows l5)), .one (.sl false (cutNl o1) 3 (List.drop 0 (List.take (Int.toNat (l5.length : Int)) (freezeRows l1))))]) fun b8 => bif !b8 then fr false 1 [.one (.bool false)] else bif decide (n3 > Int.tmod (W (n1 * (W (1 + n2)))) (W ((l3.length : Int) + 1))) then fr false 1 [.one (.bool false)] else bif n4 == 2 then fr false 1 [.one (.bool false)] else bif Int.tmod (l5.length : Int) 16 != 0 then bif (l5.length : Int) != (l1.length : Int) then fr false 1 [.one (.bool false)] else q1 else q1 else none) else none := Fx.eq (by kernel_rfl)
theorem okwFnPacked : CalleeOk Go.Proofs.Try.prog 6 SwFnPacked := Fx.ok (F := QwFnPacked) follows (envTy_mk tys_y9_eq).winS (envSpec_of (specsOk_cons okwbig (specsOk_cons oksDrawPackOps (specsOk_cons oksPackOps (specsOk_cons okiPackOps (specsOk_cons okwsameBytes (specsOk_cons okiUnpackOps (specsOk_cons okwsameOps (specsOk_cons okwat (specsOk_cons okiScanOps (specsOk_cons okiLongest specsOk_nil))))))))))).winS Go.Proofs.Try.func6 (by kernel_rfl) (by kernel_rfl) (by rw [show subs QwFnPacked.code = [] by kernel_rfl]; trivial) (by kernel_rfl) (by kernel_rfl) rfl
theorem FwFnPacked_at (o : Option Bool) (bs : List Int) (h : bOk bs) : FwFnPacked [S.one (C.sl false o 1 (bs.map encB))] = some (S.one (C.bool true), [S.one C.unk]) := by
  have key : Ok (FwFnPacked [S.one (C.sl false o 1 (bs.map encB))]) (fun r => r = (S.one (C.bool true), [S.one C.unk])) := by
    rw [mwFnPacked, Fwbig_at]
    by_cases hbg : (bs.length : Int) > 1048576
    · exact ok_eq (r := (S.one (C.bool true), [S.one C.unk])) (by simp [hbg]) rfl
    obtain ⟨l, e, hll⟩ := dPackOps o bs (by omega)
    have e1 := FsPackOps_at (some false) l (by omega)
    have e2 := FiPackOps_at (some false) l (by omega)
    have hP := packS_eq ((l.length + 15) / 16) l [] (by omega) (by omega) (by simp)
    rw [List.nil_append] at hP
    by_cases hg : l.all opOk = true ∧ (packI ((l.length + 15) / 16) l).length ≤ 4000
    case neg =>
      rw [if_neg hg] at hP
      rw [hP, packRes] at e1 e2
      have e3 := FwsameBytes_at (some true) [] (some true) [] (by simp)
      rw [decide_eq_true rfl] at e3
      simp only [List.map_nil] at e3
      have hfz0 : freezeRows [] = [] := rfl
      exact ok_eq (r := (S.one (C.bool true), [S.one C.unk])) (by simp [hbg, e, e1, e2, e3, hfz0]) rfl
    rw [if_pos hg] at hP
    have hrok := packS_ok hP (fun x hx => absurd hx List.not_mem_nil) (by simp)
    rw [hP, packRes] at e1 e2
    have hsc := scan_pack ((l.length + 15) / 16) l (by omega) hg.1
    have hcut := fun c => scan_cut ((l.length + 15) / 16) l c (by omega) hg.1
    generalize hr : packI ((l.length + 15) / 16) l = r at *
    obtain ⟨hrb, hrl⟩ := hrok
    have e3 := FwsameBytes_at (some false) r (some false) r (by omega)
    rw [decide_eq_true rfl] at e3
    have e4 := FiUnpackOps_good (some false) r l hrb hrl hsc hr hg.1 (by omega)
    have e5 := FwsameOps_at (some false) l (some false) l (by omega)
    rw [decide_eq_true rfl] at e5
    obtain ⟨v0, f0, hv0, hv0'⟩ := dAt1 o bs h 0 (by omega) (by omega)
    obtain ⟨v1, f1, hv1, hv1'⟩ := dAt1 o bs h 1 (by omega) (by omega)
    have f0 : Fwat [.one (.sl false o 1 (bs.map encB)), .one (.int 0)] = some (.one (.int v0), [.one .unk, .one .unk]) := f0
    have f1 : Fwat [.one (.sl false o 1 (bs.map encB)), .one (.int 1)] = some (.one (.int v1), [.one .unk, .one .unk]) := f1
    have w1 : W (1 + v1) = 1 + v1 := W_eq (by omega) (by omega)
    have hm0 : 0 ≤ v0 * (1 + v1) := Int.mul_nonneg hv0 (by omega)
    have hm1 : v0 * (1 + v1) ≤ 255 * 256 := Int.mul_le_mul hv0' (by omega) (by omega) (by omega)
    have w2 : W (v0 * (1 + v1)) = v0 * (1 + v1) := W_eq (by omega) (by omega)
    have w3 : W ((r.length : Int) + 1) = (r.length : Int) + 1 := W_eq (by omega) (by omega)
    have hz : ¬ ((r.length : Int) + 1 = 0) := by omega
    obtain ⟨c, hc⟩ := Int.eq_ofNat_of_zero_le (Int.tmod_nonneg ((r.length : Int) + 1) hm0)
    have hcl : (c : Int) < (r.length : Int) + 1 := by rw [← hc]; exact Int.tmod_lt_of_pos _ (by omega)
    have hcr : c ≤ r.length := by omega
    obtain ⟨⟨t, i1⟩, i2, i3, i4, i5⟩ := hcut c
    have hbt := bOk_take hrb c
    have htl : (r.take c).length = c := by rw [List.length_take]; omega
    have e6 := FiScanOps_at (some false) (r.take c) ⟨hbt, by omega⟩
    rw [scanRes, if_neg (by omega)] at e6
    have e7 := FiLongest_at (some false) (r.take c) ⟨hbt, by omega, i3⟩
    have hsl : (scan (r.take c)).1.length ≤ l.length := by rw [i1, List.length_append]; omega
    have hpre : l.take (scan (r.take c)).1.length = (scan (r.take c)).1 := by
      conv => lhs; rw [i1]
      rw [List.take_left]
    have e8 := FwsameOps_at (some false) (scan (r.take c)).1 (some false) (l.take (scan (r.take c)).1.length) (by omega)
    rw [decide_eq_true hpre.symm] at e8
    have hnc : (scan (r.take c)).2 ≤ c := by omega
    have htt : (r.take c).take (scan (r.take c)).2 = r.take (scan (r.take c)).2 := by rw [List.take_take, Nat.min_eq_left hnc]
    rw [htt] at e7
    have e9 := FwsameBytes_at (some false) (r.take (scan (r.take c)).2) (some false) (r.take (scan (r.take c)).2) (by rw [List.length_take]; omega)
    rw [decide_eq_true rfl] at e9
    have hkind : ¬ c < r.length → kindB ((r.take c).drop (scan (r.take c)).2) = 0 := fun h => by
      rw [i5 (by omega)]
      simp only
      rw [List.drop_eq_nil_of_le (by omega)]
      rfl
    have hmod : (Int.tmod ((scan (r.take c)).1.length : Int) 16 != 0) = true → (((scan (r.take c)).1.length : Int) != (l.length : Int)) = false := fun h => by
      rcases i2 with i2 | i2
      · exfalso
        have : Int.tmod ((scan (r.take c)).1.length : Int) 16 = 0 := by
          rw [show (16 : Int) = ((16 : Nat) : Int) from rfl, ← Int.ofNat_tmod, i2]; rfl
        rw [this] at h
        cases h
      · rw [i2]; simp
    have hsl' : (scan (r.take c)).2 ≤ r.length := by omega
    rw [List.map_take] at e6 e7 e9
    rw [List.map_take] at e8
    have hfz : freezeRows ((r.map encB).take (scan (r.take c)).2) = (r.map encB).take (scan (r.take c)).2 := by
      rw [← List.map_take]; exact encB_freeze _
    generalize kindB ((r.take c).drop (scan (r.take c)).2) = kd at *
    generalize scan (r.take c) = s at *
    obtain ⟨ops, n⟩ := s
    simp only at *
    have g1 : ¬ ((ops.length : Int) > (l.length : Int)) := by omega
    have g1' : ¬ ((l.length : Int) < (ops.length : Int)) := by omega
    have g1'' : ¬ (l.length < ops.length) := by omega
    have g2 : ¬ ((n : Int) > (c : Int)) := by omega
    have g2' : ¬ (c < n) := by omega
    have g3 : (kd == 2) = false := by simpa using i4
    refine ok_eq (r := (S.one (C.bool true), [S.one C.unk])) ?_ rfl
    by_cases hcc : c < r.length
    · have hcc' : (c : Int) < (r.length : Int) := by omega
      cases hm : (Int.tmod (ops.length : Int) 16 != 0) with
      | false => simp [hbg, e, e1, e2, e3, e4, e5, f0, f1, w1, w2, w3, hz, hc, hcr, e6, e7, e8, e9, g1, g1', g1'', g2, g2', g3, hsl, hsl', hfz, hcc, hcc', hm, cutNl]
      | true =>
        have hm2 := hmod hm
        simp [hbg, e, e1, e2, e3, e4, e5, f0, f1, w1, w2, w3, hz, hc, hcr, e6, e7, e8, e9, g1, g1', g1'', g2, g2', g3, hsl, hsl', hfz, hcc, hcc', hm, hm2, cutNl]
    · have hcc' : ¬ (c : Int) < (r.length : Int) := by omega
      have hk0 := hkind hcc
      subst hk0
      cases hm : (Int.tmod (ops.length : Int) 16 != 0) with
      | false => simp [hbg, e, e1, e2, e3, e4, e5, f0, f1, w1, w2, w3, hz, hc, hcr, e6, e7, e8, e9, g1, g1', g1'', g2, g2', g3, hsl, hsl', hfz, hcc, hcc', hm, cutNl]
      | true =>
        have hm2 := hmod hm
        simp [hbg, e, e1, e2, e3, e4, e5, f0, f1, w1, w2, w3, hz, hc, hcr, e6, e7, e8, e9, g1, g1', g1'', g2, g2', g3, hsl, hsl', hfz, hcc, hcc', hm, hm2, cutNl]
  obtain ⟨r, h1, rfl⟩ := key
  exact h1
end Go.Proofs.Gh.Gm
