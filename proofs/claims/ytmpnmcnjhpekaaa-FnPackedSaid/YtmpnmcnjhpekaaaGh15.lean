/- The operations, sixth part: arithmetic and what is like it. -/
import Derived.Test.YtmpnmcnjhpekaaaGh14
import Derived.Laws.BytesString
import Derived.Laws.Cells
import Derived.Laws.StructEq
set_option linter.unusedSimpArgs false
namespace Go.Proofs.Gh
open Go.RowKit
section
variable {B : Base} {γ : Nat → Bx} {st : Nat → Prop} {ow : Nat → Option Ow} {hand : List (Value × C)} {σ : St} {w : World} {a : Act} {r : Res} {tmps : Array Value}

theorem done_of {P : Program} {x : Sem Next} {u : Value} {s : S} {k : S → St → Option Res} (R : Rel B γ st ow [] σ a.tmps w) (hx : ∀ w2, x.run P w2 = .ok (.value u) w2) (hk : k s σ = some r) (hs : SlotOk σ st γ w u s) : DoneA P B st a w x k r :=
  ⟨u, s, σ, γ, ow, fun w2 => hx w2, hk, R, hs⟩
theorem done_arith {P : Program} {ki : IntKind} {x y : Int} {op : BinOp} {t : TypeId} {X Y : Operand} {k : S → St → Option Res} (R : Rel B γ st ow [] σ a.tmps w)
    (h : arithK op ki x y (fun c => k (.one c) σ) = some r) : DoneA P B st a w (do pure (.value (← (do eqGuard op t X Y (.int ki x) (.int ki y); binOp op t (.int ki x) (.int ki y))))) k r := by
  have e : ∀ {v : Value}, v.oneCell' = true → k (.one (.v v)) σ = some r → (∀ w2, (binOp op t (.int ki x) (.int ki y)).run P w2 = .ok v w2) → DoneA P B st a w (do pure (.value (← (do eqGuard op t X Y (.int ki x) (.int ki y); binOp op t (.int ki x) (.int ki y))))) k r := fun {v} h1 h2 h3 =>
    done_of R (by cases op <;> simp [eqGuard, Sem.run_bind, h3]) h2 (slotV v h1)
  cases op <;> simp only [arithK] at h
  case add => exact e rfl h (by simp [binOp, Op.intArith])
  case sub => exact e rfl h (by simp [binOp, Op.intArith])
  case mul => exact e rfl h (by simp [binOp, Op.intArith])
  case quo =>
    split at h
    · cases h
    · rename_i hy; exact e rfl h (by simp [binOp, Op.intDiv, hy])
  case rem =>
    split at h
    · cases h
    · rename_i hy; exact e rfl h (by simp [binOp, Op.intDiv, hy])
  case and => exact e rfl h (by simp [binOp, Op.intBits])
  case or => exact e rfl h (by simp [binOp, Op.intBits])
  case xor => exact e rfl h (by simp [binOp, Op.intBits])
  case eql => exact e rfl h (by simp [binOp, Op.intCmp])
  case neq => exact e rfl h (by simp [binOp, Op.intCmp])
  case lss => exact e rfl h (by simp [binOp, Op.intCmp])
  case leq => exact e rfl h (by simp [binOp, Op.intCmp])
  case gtr => exact e rfl h (by simp [binOp, Op.intCmp])
  case geq => exact e rfl h (by simp [binOp, Op.intCmp])
  all_goals cases h
theorem done_str {P : Program} {x y : ByteArray} {op : BinOp} {t : TypeId} {X Y : Operand} {v : Value} {k : S → St → Option Res} (R : Rel B γ st ow [] σ a.tmps w) (hv : v.oneCell' = true)
    (h : k (.one (.v v)) σ = some r) (h3 : ∀ w2, (Op.stringOp op x y).run P w2 = .ok v w2) (hop : op ≠ .shl ∧ op ≠ .shr) : DoneA P B st a w (do pure (.value (← (do eqGuard op t X Y (.string x) (.string y); binOp op t (.string x) (.string y))))) k r :=
  done_of R (by cases op <;> simp_all [eqGuard, Sem.run_bind, binOp]) h (slotV v hv)
theorem eqCells_int {ki : IntKind} {cks : List CK} {cs ds : List C} {b : Bool} (h : eqCells ((.int ki) :: cks) cs ds = some b) : ∃ ka a a' xs ys r, cs = .v (.int ka a) :: xs ∧ ds = .v (.int ka a') :: ys ∧ eqCells cks xs ys = some r ∧ b = ((a == a') && r) := by
  cases cs with
  | nil => simp [eqCells] at h
  | cons c xs =>
    cases ds with
    | nil => simp [eqCells] at h
    | cons d ys =>
      cases c with
      | v x =>
        cases x with
        | int ka a =>
          cases d with
          | v y =>
            cases y with
            | int kb a' =>
              simp only [eqCells] at h
              split at h
              · rename_i e; subst e
                rw [Option.map_eq_some_iff] at h
                obtain ⟨r, h1, h2⟩ := h
                exact ⟨ka, a, a', xs, ys, r, rfl, rfl, h1, h2.symm⟩
              · cases h
            | _ => simp [eqCells] at h
          | _ => simp [eqCells] at h
        | _ => simp [eqCells] at h
      | _ => simp [eqCells] at h
theorem eqCells_bool {cks : List CK} {cs ds : List C} {b : Bool} (h : eqCells (.bool :: cks) cs ds = some b) : ∃ a a' xs ys r, cs = .v (.bool a) :: xs ∧ ds = .v (.bool a') :: ys ∧ eqCells cks xs ys = some r ∧ b = ((a == a') && r) := by
  cases cs with
  | nil => simp [eqCells] at h
  | cons c xs =>
    cases ds with
    | nil => simp [eqCells] at h
    | cons d ys =>
      cases c with
      | v x =>
        cases x with
        | bool a =>
          cases d with
          | v y =>
            cases y with
            | bool a' =>
              simp only [eqCells, Option.map_eq_some_iff] at h
              obtain ⟨r, h1, h2⟩ := h
              exact ⟨a, a', xs, ys, r, rfl, rfl, h1, h2.symm⟩
            | _ => simp [eqCells] at h
          | _ => simp [eqCells] at h
        | _ => simp [eqCells] at h
      | _ => simp [eqCells] at h
theorem eqCells_str {cks : List CK} {cs ds : List C} {b : Bool} (h : eqCells (.str :: cks) cs ds = some b) : ∃ a a' xs ys r, cs = .v (.string a) :: xs ∧ ds = .v (.string a') :: ys ∧ eqCells cks xs ys = some r ∧ b = ((a.toList == a'.toList) && r) := by
  cases cs with
  | nil => simp [eqCells] at h
  | cons c xs =>
    cases ds with
    | nil => simp [eqCells] at h
    | cons d ys =>
      cases c with
      | v x =>
        cases x with
        | string a =>
          cases d with
          | v y =>
            cases y with
            | string a' =>
              simp only [eqCells, Option.map_eq_some_iff] at h
              obtain ⟨r, h1, h2⟩ := h
              exact ⟨a, a', xs, ys, r, rfl, rfl, h1, h2.symm⟩
            | _ => simp [eqCells] at h
          | _ => simp [eqCells] at h
        | _ => simp [eqCells] at h
      | _ => simp [eqCells] at h
theorem eqFields_run {P : Program} {w2 : World} {d : Nat} {xs ys : Array Value} : ∀ (fs : List Field) (cks : List CK) (n : Nat) (cs ds : List C) (us vs : List Value) {b : Bool}, (∀ (k : Nat) (fd : Field), fs[k]? = some fd → fd.name ≠ "_" ∧ fd.offset = n + k ∧ ∃ ck, cks[k]? = some ck ∧
    ((∃ ki ki', ck = .int ki' ∧ P.underlying fd.type = some (.int ki)) ∨ (ck = .bool ∧ P.underlying fd.type = some .bool) ∨ (ck = .str ∧ P.underlying fd.type = some .string))) → fs.length = cks.length → us.length = cs.length → vs.length = ds.length → (∀ k, us[k]? = xs[n + k]?) → (∀ k, vs[k]? = ys[n + k]?) →
    (∀ (i : Nat) (u : Value) (c : C), us[i]? = some u → cs[i]? = some c → CellOk σ st γ w u c) → (∀ (i : Nat) (u : Value) (c : C), vs[i]? = some u → ds[i]? = some c → CellOk σ st γ w u c) → eqCells cks cs ds = some b → (Op.eqFields (d + 1) xs ys fs).run P w2 = .ok b w2
  | [], cks, n, cs, ds, us, vs, b, hf, hl, hu, hv, hx, hy, hc, hd, h => by
    have : cks = [] := List.eq_nil_of_length_eq_zero hl.symm
    subst this
    unfold eqCells at h
    split at h <;> simp at * <;> (try subst h) <;> simp [Op.eqFields]
  | f :: fs, cks, n, cs, ds, us, vs, b, hf, hl, hu, hv, hx, hy, hc, hd, h => by
    obtain ⟨hn, ho, ck, hck, hk⟩ := hf 0 f rfl
    have ho' : f.offset = n := by simpa using ho
    have main : ∀ {cks' : List CK} {c d' : C} {cs' ds' : List C} {r r' : Bool}, cks = ck :: cks' → cs = c :: cs' → ds = d' :: ds' → eqCells cks' cs' ds' = some r' → b = (r && r') →
        (∀ u v, CellOk σ st γ w u c → CellOk σ st γ w v d' → (Op.equalIn (d + 1) f.type u v).run P w2 = .ok r w2) → (Op.eqFields (d + 1) xs ys (f :: fs)).run P w2 = .ok b w2 := by
      intro cks' c d' cs' ds' r r' e1 e2 e3 h1 h2 h3
      subst e1 e2 e3
      match us, vs, hu, hv with
      | u :: us, v :: vs, hu, hv =>
        have hxu : xs[n]? = some u := by have := hx 0; simpa using this.symm
        have hyv : ys[n]? = some v := by have := hy 0; simpa using this.symm
        have hagg : (isAgg f.type).run P w2 = .ok false w2 := by
          rcases hk with ⟨ki, _, _, hk⟩ | ⟨_, hk⟩ | ⟨_, hk⟩ <;> simp [isAgg, run_underlying hk]
        have ih := eqFields_run (P := P) (w2 := w2) (d := d) (xs := xs) (ys := ys) fs cks' (n + 1) cs' ds' us vs (b := r') (fun k fd hk => by
            have := hf (k + 1) fd (by simpa using hk)
            simpa [show n + 1 + k = n + (k + 1) by omega] using this) (by simpa using hl) (by simpa using hu) (by simpa using hv) (fun k => by have := hx (k + 1); rw [show n + 1 + k = n + (k + 1) by omega, ← this]; simp) (fun k => by have := hy (k + 1); rw [show n + 1 + k = n + (k + 1) by omega, ← this]; simp)
          (fun i u c h1 h2 => hc (i + 1) u c (by simpa using h1) (by simpa using h2)) (fun i u c h1 h2 => hd (i + 1) u c (by simpa using h1) (by simpa using h2)) h1
        have h4 := h3 u v (hc 0 u c rfl rfl) (hd 0 v d' rfl rfl)
        simp only [Op.eqFields, ne_eq, hn, not_false_eq_true, if_true, Sem.run_bind, part, hagg, ho', hxu, hyv, Result.andThen_ok, Bool.false_eq_true, if_false, Sem.run_pure, h4]
        cases r with
        | true => simp only [Bool.not_true, Bool.false_eq_true, if_false]; rw [ih, h2]; simp
        | false => simp [h2]
    cases cks with
    | nil => simp at hck
    | cons ck' cks' =>
      simp only [List.getElem?_cons_zero, Option.some.injEq] at hck
      subst hck
      rcases hk with ⟨ki, ki', rfl, hk⟩ | ⟨rfl, hk⟩ | ⟨rfl, hk⟩
      · obtain ⟨ka, x, x', xs1, ys1, r', e1, e2, h1, h2⟩ := eqCells_int h
        refine main rfl e1 e2 h1 h2 fun u v hu' hv' => ?_
        rw [slot_v (.one _ _ hu'), slot_v (.one _ _ hv')]
        exact run_equalIn_int _ _ _ _ _ _ _ hk
      · obtain ⟨x, x', xs1, ys1, r', e1, e2, h1, h2⟩ := eqCells_bool h
        refine main rfl e1 e2 h1 h2 fun u v hu' hv' => ?_
        rw [slot_v (.one _ _ hu'), slot_v (.one _ _ hv')]
        exact run_equalIn_bool' _ _ _ _ _ hk
      · obtain ⟨x, x', xs1, ys1, r', e1, e2, h1, h2⟩ := eqCells_str h
        refine main rfl e1 e2 h1 h2 fun u v hu' hv' => ?_
        rw [slot_v (.one _ _ hu'), slot_v (.one _ _ hv')]
        exact run_equalIn_string _ _ _ _ _ hk
theorem done_binOp {P : Program} {E : Env} (hE : EnvTy P E) {o : Oper} {op : BinOp} {t t' : TypeId} {x y : Operand} {k : S → St → Option Res} (R : Rel B γ st ow [] σ a.tmps w) (ho : o.op = .binOp op t x y t')
    (h : binK E σ op t (σ.view x) (σ.view y) (fun c => k (.one c) σ) = some r) : DoneA P B st a w (execOp a.eval o) k r := by
  have hx := R.view x
  have hy := R.view y
  have he : execOp a.eval o = (do pure (.value (← (do eqGuard op t x y (a.eval x) (a.eval y); binOp op t (a.eval x) (a.eval y))))) := by simp only [execOp, ho]
  rw [he]
  unfold binK at h
  split at h
  · rename_i ki n ki' m hs1 hs2
    rw [hs1] at hx; rw [hs2] at hy
    rw [slot_v hx, slot_v hy]
    cases hsh : isShift op with
    | true =>
      rw [hsh] at h
      simp only [cond_true, shiftK] at h
      split at h
      · cases h
      · rename_i hneg
        split at h
        · exact done_of R (by simp [eqGuard, Sem.run_bind, binOp, Op.shift, hneg]) h (slotV _ rfl)
        · exact done_of R (by simp [eqGuard, Sem.run_bind, binOp, Op.shift, hneg]) h (slotV _ rfl)
        · cases h
    | false =>
      rw [hsh] at h
      simp only [cond_false] at h
      split at h
      · rename_i e; subst e; exact done_arith R h
      · cases h
  · rename_i b1 b2 hs1 hs2
    rw [hs1] at hx; rw [hs2] at hy
    rw [slot_v hx, slot_v hy]
    have hbool : E.isBool t = true → P.underlying t = some .bool := fun hb => by
      unfold Env.isBool at hb
      split at hb
      · rename_i i hi
        split at hb
        · rename_i hkind hcks
          obtain ⟨d, h1, h2, h3⟩ := (hE t i hi).desc
          cases d with
          | int k => rw [h3.1] at hcks; cases hcks
          | bool => exact h1
          | string => rw [h3.1] at hcks; cases hcks
          | slice e => rw [hkind] at h3; cases h3.1
          | struct fs => obtain ⟨p, hp, _⟩ := h3; rw [hkind] at hp; cases hp
          | array n e => have hh : i.kind = .array n e := h3; rw [hkind] at hh; cases hh
          | tuple ts => have hh : i.kind = .tuple ts.toList := h3; rw [hkind] at hh; cases hh
          | _ => rw [h3.2] at hcks; cases hcks
        · cases hb
      · cases hb
    split at h
    · cases hb : E.isBool t with
      | false => rw [hb] at h; cases h
      | true => rw [hb] at h; exact done_of R (by simp [eqGuard, Sem.run_bind, binOp, Op.equal, Op.maxDepth, run_equalIn_bool' _ _ _ _ _ (hbool hb)]) h (slotV _ rfl)
    · cases hb : E.isBool t with
      | false => rw [hb] at h; cases h
      | true => rw [hb] at h; exact done_of R (by simp [eqGuard, Sem.run_bind, binOp, Op.equal, Op.maxDepth, run_equalIn_bool' _ _ _ _ _ (hbool hb)]) h (slotV _ rfl)
    · cases h
  · rename_i xs ys hs1 hs2
    rw [hs1] at hx; rw [hs2] at hy
    have hrun : ∀ {b : Bool}, E.flat t = true → eqCells (E.cks t) xs ys = some b → ∃ us vs, a.eval x = .agg us ∧ a.eval y = .agg vs ∧ P.eqGuardType P.depth t = false ∧ ∀ w2, (Op.equalIn 10000 t (.agg us) (.agg vs)).run P w2 = .ok b w2 := fun {b} hfl he => by
      unfold Env.flat at hfl
      split at hfl
      · rename_i i hi
        obtain ⟨hp, hg, fs, hd, hsz, hfs⟩ := (hE t i hi).flat hfl
        have hcks : E.cks t = i.cks := by unfold Env.cks; rw [hi]
        rw [hcks] at he
        generalize a.eval x = u at hx
        generalize a.eval y = v at hy
        cases hx with
        | agg us _ hl1 hc1 =>
          cases hy with
          | agg vs _ hl2 hc2 =>
            refine ⟨_, _, rfl, rfl, hg, fun w2 => ?_⟩
            have hfo : P.fieldsOf t = fs := by simp [Program.fieldsOf, hd]
            rw [show (10000 : Nat) = 9998 + 1 + 1 from rfl, run_equalIn_struct w2 _ t _ _ (by rw [hfo]; exact hd) hp, hfo]
            exact eqFields_run fs.toList i.cks 0 xs ys us vs (fun k fd hk => by
              obtain ⟨h1, h2, h3⟩ := hfs k fd (by simpa using hk)
              exact ⟨h1, by omega, h3⟩) (by simpa using hsz) hl1 hl2 (fun k => by simp) (fun k => by simp) hc1 hc2 he
      · cases hfl
    split at h
    · cases hb : E.flat t with
      | false => rw [hb] at h; cases h
      | true =>
        rw [hb] at h
        simp only [cond_true, Option.bind_eq_some_iff] at h
        obtain ⟨b, he, h⟩ := h
        obtain ⟨us, vs, e1, e2, hg, hr⟩ := hrun hb he
        rw [e1, e2]
        exact done_of R (fun w2 => by simp only [Sem.run_bind, run_eqGuard_agg w2 .eql t x y us vs hg, run_eql_struct w2 t us vs, hr w2, Result.andThen_ok]; rfl) h (slotV _ rfl)
    · cases hb : E.flat t with
      | false => rw [hb] at h; cases h
      | true =>
        rw [hb] at h
        simp only [cond_true, Option.bind_eq_some_iff] at h
        obtain ⟨b, he, h⟩ := h
        obtain ⟨us, vs, e1, e2, hg, hr⟩ := hrun hb he
        rw [e1, e2]
        exact done_of R (fun w2 => by simp only [Sem.run_bind, run_eqGuard_agg w2 .neq t x y us vs hg, run_neq_struct w2 t us vs, hr w2, Result.andThen_ok]; rfl) h (slotV _ rfl)
    · cases h
  · rename_i s1 s2 hs1 hs2
    rw [hs1] at hx; rw [hs2] at hy
    rw [slot_v hx, slot_v hy]
    split at h
    · split at h
      · rename_i hl
        exact done_str R rfl h (by unfold LIM at hl; simp [Op.stringOp]; omega) (by simp)
      · cases h
    · exact done_str R rfl h (by simp [Op.stringOp]) (by simp)
    · exact done_str R rfl h (by simp [Op.stringOp]) (by simp)
    · exact done_str R rfl h (by simp [Op.stringOp]) (by simp)
    · exact done_str R rfl h (by simp [Op.stringOp]) (by simp)
    · cases h
  · rename_i x' sz hs1 hs2
    rw [hs1] at hx; rw [hs2] at hy
    have hv : a.eval y = .slice none 0 0 := by
      generalize a.eval y = u at hy
      cases hy with
      | one _ _ hc =>
        cases hc with
        | rep _ _ hr =>
          cases hr with
          | nil => rfl
          | own _ g o cap sz _ _ us Xs e cur _ h1 => exact absurd rfl h1
    have hgo : ∀ {n : Nat} (neg : Bool), E.sliceN t = some n → (σ.sliceK n x' fun _ nl es => nilK nl es fun b => k (.one (.v (.bool (if neg then !b else b)))) σ) = some r →
        ∃ (b : Bool) (ad : Option Addr) (l c : Nat), a.eval x = .slice ad l c ∧ k (.one (.v (.bool (if neg then !b else b)))) σ = some r ∧ ∀ w2, (Op.equal t (a.eval x) (.slice none 0 0)).run P w2 = .ok b w2 := by
      intro n neg hc h
      obtain ⟨e, hu⟩ : ∃ e, P.underlying t = some (.slice e) := by
        unfold Env.sliceN at hc
        split at hc
        · rename_i i hi
          split at hc
          · rename_i e n' hk _
            exact ⟨e, ((hE t i hi).sliceE hk).2.1⟩
          · cases hc
        · cases hc
      obtain ⟨ob, nl, es, h, hsl, _⟩ := R.sliceK hx h
      unfold nilK at h
      have hrun : ∀ (ad : Option Addr) (l c : Nat) (w2 : World), (Op.equal t (.slice ad l c) (.slice none 0 0)).run P w2 = .ok ad.isNone w2 := fun ad l c w2 => by
        have : ∀ d, (Op.equalIn (d + 1) t (.slice ad l c) (.slice none 0 0)).run P w2 = .ok ad.isNone w2 := fun d => by cases ad <;> simp [Op.equalIn, run_underlying hu]
        exact this 9999
      rcases hsl.val with ⟨hu', h0, hnl⟩ | ⟨hnl, ad, cap, hu', hrest⟩
      · rw [hu']
        cases nl with
        | some b =>
          have : b = true := by cases b; exact absurd rfl hnl; rfl
          subst this
          exact ⟨true, none, 0, 0, rfl, h, hrun _ _ _⟩
        | none => subst h0; simp at h
      · rw [hu']
        cases nl with
        | some b =>
          have : b = false := by cases b; rfl; exact absurd rfl hnl
          subst this
          exact ⟨false, some ad, _, _, rfl, h, hrun _ _ _⟩
        | none =>
          simp only at h
          split at h
          · cases h
          · exact ⟨false, some ad, _, _, rfl, h, hrun _ _ _⟩
    rw [hv]
    split at h
    · rename_i n hc
      obtain ⟨b, ad, l, c, hvx, h1, h2⟩ := hgo (n := n) false hc (by simpa using h)
      rw [hvx] at h2 ⊢
      exact done_of R (by simp [eqGuard, Sem.run_bind, binOp, h2]) h1 (slotV _ rfl)
    · rename_i n hc
      obtain ⟨b, ad, l, c, hvx, h1, h2⟩ := hgo (n := n) true hc (by simpa using h)
      rw [hvx] at h2 ⊢
      exact done_of R (by simp [eqGuard, Sem.run_bind, binOp, h2]) h1 (slotV _ rfl)
    · cases h
  · cases h
theorem done_unOp {P : Program} {o : Oper} {op : UnOp} {t : TypeId} {x : Operand} {k : S → St → Option Res} (R : Rel B γ st ow [] σ a.tmps w) (ho : o.op = .unOp op t x)
    (h : (match (generalizing := false) op, σ.view x with
      | .not, .one (.v (.bool b)) => k (.one (.v (.bool !b))) σ
      | .neg, .one (.v (.int ki n)) => k (.one (.v (.int ki (ki.wrap (0 - n))))) σ
      | _, _ => none) = some r) : DoneA P B st a w (execOp a.eval o) k r := by
  have hx := R.view x
  split at h
  · rename_i b ho hs
    rw [hs] at hx
    have := slot_v hx
    exact done_of R (by simp [execOp, ho, this, Op.unary]) h (slotV _ rfl)
  · rename_i ki n ho hs
    rw [hs] at hx
    have := slot_v hx
    exact done_of R (by simp [execOp, ho, this, Op.unary, Op.intArith]) h (slotV _ rfl)
  · cases h
theorem TyOk.intE {P : Program} {t : TypeId} {i : TI} (hT : TyOk P t i) {ki : IntKind} (hs : i.kind = .scalar) (hk : i.cks = [.int ki]) : P.underlying t = some (.int ki) := by
  obtain ⟨d, h1, h2, h3⟩ := hT.desc
  cases d with
  | int k => rw [h3.1] at hk; cases hk; exact h1
  | bool => rw [h3.1] at hk; cases hk
  | string => rw [h3.1] at hk; cases hk
  | slice e => rw [hs] at h3; cases h3.1
  | struct fs => obtain ⟨p, hp, _⟩ := h3; rw [hs] at hp; cases hp
  | array n e => have hh : i.kind = .array n e := h3; rw [hs] at hh; cases hh
  | tuple ts => have hh : i.kind = .tuple ts.toList := h3; rw [hs] at hh; cases hh
  | _ => rw [h3.2] at hk; cases hk
theorem TyOk.strE {P : Program} {t : TypeId} {i : TI} (hT : TyOk P t i) (hkind : i.kind = .scalar) (hcks : i.cks = [.str]) : P.underlying t = some .string := by
  obtain ⟨d, h1, h2, h3⟩ := hT.desc
  cases d with
  | int k => rw [h3.1] at hcks; cases hcks
  | bool => rw [h3.1] at hcks; cases hcks
  | string => exact h1
  | slice e => rw [hkind] at h3; cases h3.1
  | struct fs => obtain ⟨p, hp, _⟩ := h3; rw [hkind] at hp; cases hp
  | array n e => have hh : i.kind = .array n e := h3; rw [hkind] at hh; cases hh
  | tuple ts => have hh : i.kind = .tuple ts.toList := h3; rw [hkind] at hh; cases hh
  | _ => rw [h3.2] at hcks; cases hcks
theorem bytesOf_some : ∀ {es : List (List C)} {l : List UInt8}, bytesOf es = some l → ∃ ns : List Int, es = ns.map (fun n => [C.v (.int .u8 n)]) ∧ l = ns.map fun n => UInt8.ofNat n.toNat
  | [], l, h => by cases h; exact ⟨[], rfl, rfl⟩
  | row :: rest, l, h => by
    unfold bytesOf at h
    split at h
    · cases h; exact ⟨[], by simp_all, rfl⟩
    · rename_i n rest' e
      simp only [List.cons.injEq] at e
      obtain ⟨rfl, rfl⟩ := e
      rw [Option.map_eq_some_iff] at h
      obtain ⟨l', hl', rfl⟩ := h
      obtain ⟨ns, h1, h2⟩ := bytesOf_some hl'
      exact ⟨n :: ns, by simp [h1], by simp [h2]⟩
    · cases h
theorem foldl_pushes : ∀ (ns : List Int) (r : ByteArray), ns.foldl (fun r n => r.push (UInt8.ofNat n.toNat)) r = ⟨r.data ++ (ns.map fun n => UInt8.ofNat n.toNat).toArray⟩
  | [], r => by simp
  | n :: ns, r => by
    rw [List.foldl_cons, foldl_pushes ns]
    simp [ByteArray.push]
theorem done_convert {P : Program} {E : Env} (hE : EnvTy P E) {o : Oper} {src dst : TypeId} {x : Operand} {k : S → St → Option Res} (R : Rel B γ st ow [] σ a.tmps w) (ho : o.op = .convert src dst x)
    (h : (bound E src fun j => bound E dst fun i => match i.kind, i.cks, σ.view x with
      | .scalar, [.int ki], .one (.v (.int _ n)) => k (.one (.v (.int ki (ki.wrap n)))) σ
      | .scalar, [.str], .one y => (match j.kind with
        | .slice e => bound E e fun ie => (match ie.kind, ie.cks with
          | .scalar, [.int .u8] => σ.sliceK 1 y fun _ _ es => (bytesOf es).bind fun l => k (.one (.v (.string ⟨l.toArray⟩))) σ
          | _, _ => none)
        | _ => none)
      | _, _, _ => none) = some r) : DoneR P B st a w (execOp a.eval o) k r := by
  obtain ⟨i0, hi0, _, h⟩ := bound_some h
  obtain ⟨i, hi, hk, h⟩ := bound_some h
  obtain ⟨d0, hd0, _⟩ := (hE src i0 hi0).desc
  have hT := hE dst i hi
  have hx := R.view x
  split at h
  · rename_i ki k0 n hkind hcks hs
    rw [hs] at hx
    have := slot_v hx
    have hd := hT.intE hkind hcks
    refine (done_of R (fun w2 => ?_) h (slotV _ rfl)).reads
    simp only [execOp, ho, this, convert, Sem.run_bind, run_underlying hd0, run_underlying hd, Result.andThen_ok]
    cases d0 <;> simp [Conv.intToInt]
  · rename_i y hkind hcks hs
    rw [hs] at hx
    have hd := hT.strE hkind hcks
    split at h
    · rename_i e hke
      obtain ⟨ie, hie, _, h⟩ := bound_some h
      split at h
      · rename_i hk1 hc1
        have hsl := ((hE src i0 hi0).sliceE hke).2.1
        have he := (hE e ie hie).intE hk1 hc1
        obtain ⟨o', nl, es, h, hS, _⟩ := R.sliceK hx h
        rw [Option.bind_eq_some_iff] at h
        obtain ⟨l, hl, h⟩ := h
        obtain ⟨ns, rfl, rfl⟩ := bytesOf_some hl
        rcases hS.val with ⟨hu, e0, _⟩ | ⟨_, ad, cap, hu, _, _, _, hc⟩
        · simp only [List.map_eq_nil_iff] at e0
          subst e0
          refine ⟨_, _, σ, γ, ow, fun w2 hx2 => ?_, h, R, slotV _ rfl⟩
          simp only [execOp, ho, hu]
          rw [Sem.run_bind, run_convert_bytes_string w2 src dst e none 0 0 hsl he hd]
          rfl
        · refine ⟨_, _, σ, γ, ow, fun w2 hx2 => ?_, h, R, slotV _ rfl⟩
          simp only [execOp, ho, hu]
          have hl2 := run_loadCells_list (P := P) w2 ad (ns.map (Value.int .u8)) (fun j v hj => by
            rw [List.getElem?_map, Option.map_eq_some_iff] at hj
            obtain ⟨n, hn, rfl⟩ := hj
            obtain ⟨v, h1, _, X, h2⟩ := hc j [C.v (.int .u8 n)] 0 (.v (.int .u8 n)) (by rw [List.getElem?_map, hn]; rfl) rfl
            cases h2
            have := hx2.cell h1
            simpa using this)
          simp only [List.length_map] at hl2 ⊢
          rw [Sem.run_bind, run_convert_bytes_string w2 src dst e (some ad) ns.length cap hsl he hd, run_bytesToString w2 ad ns.length cap ns hl2, foldl_pushes]
          have he0 : ByteArray.empty.data = #[] := rfl
          simp [he0]
      · cases h
    · cases h
  · cases h
theorem done_index {P : Program} {E : Env} (hE : EnvTy P E) {o : Oper} {t : TypeId} {x ix : Operand} {k : S → St → Option Res} (R : Rel B γ st ow [] σ a.tmps w) (ho : o.op = .index t x ix)
    (h : (bound E t fun i => match i.cks, i.kind, σ.view x, σ.view ix with
      | [.str], .scalar, .one (.v (.string s)), .one (.v (.int _ n)) => if 0 ≤ n ∧ n < (s.size : Int) then k (.one (.v (.int .u8 (s.data.toList.getD n.toNat 0).toNat))) σ else none
      | _, .array n e, .agg xs, .one (.v (.int _ v)) => bound E e fun ie => bif ie.agg then none else pickN v (fun j => (xs[j * ie.cks.length]?).bind fun c => k (.one c) σ) n
      | _, _, _, _ => none) = some r) : DoneA P B st a w (execOp a.eval o) k r := by
  obtain ⟨i, hi, hk, h⟩ := bound_some h
  have hT := hE t i hi
  have hx := R.view x
  have hix := R.view ix
  split at h
  · rename_i s ki n hcks hkind hs1 hs2
    rw [hs1] at hx; rw [hs2] at hix
    have e1 := slot_v hx
    have e2 := slot_v hix
    split at h
    · rename_i hb
      have hstr : P.underlying t = some .string := by
        obtain ⟨d, h1, h2, h3⟩ := hT.desc
        cases d with
        | int k => rw [h3.1] at hcks; cases hcks
        | bool => rw [h3.1] at hcks; cases hcks
        | string => exact h1
        | slice e => rw [hkind] at h3; cases h3.1
        | struct fs => obtain ⟨p, hp, _⟩ := h3; rw [hkind] at hp; cases hp
        | array n e => have hh : i.kind = .array n e := h3; rw [hkind] at hh; cases hh
        | tuple ts => have hh : i.kind = .tuple ts.toList := h3; rw [hkind] at hh; cases hh
        | _ => rw [h3.2] at hcks; cases hcks
      have hlt : n.toNat < s.size := by omega
      refine done_of R ?_ h (slotV _ rfl)
      have hget : s[n.toNat]? = some (s.data.toList.getD n.toNat 0) := by
        have : s[n.toNat]? = some s[n.toNat] := by simp [hlt]
        rw [this]
        have hl2 : n.toNat < s.data.toList.length := by simpa using hlt
        rw [List.getD_eq_getElem?_getD, List.getElem?_eq_getElem hl2]
        rfl
      simp [execOp, ho, e1, e2, Instr.index, asIntOf, run_underlying hstr, hb.1, hget]
    · cases h
  · rename_i cks kind m e xs ki v hkind hs1 hs2
    rw [hs1] at hx; rw [hs2] at hix
    have e2 := slot_v hix
    obtain ⟨ie, hie, hke, h⟩ := bound_some h
    cases hag : ie.agg with
    | true => rw [hag] at h; cases h
    | false =>
      rw [hag, cond_false] at h
      have hd := hT.arrayE hkind
      obtain ⟨hv0, hv1, h⟩ := pickN_some h
      rw [Option.bind_eq_some_iff] at h
      obtain ⟨c, hc, h⟩ := h
      have hTe := hE e ie hie
      have hsz := hTe.size hke
      obtain ⟨d, hde, had, _⟩ := hTe.desc
      rw [hag] at had
      have hagg : ∀ w : World, (isAgg e).run P w = .ok false w := by
        intro w
        simp only [isAgg, Sem.run_bind, run_underlying hde, Result.andThen_ok]
        cases d <;> simp [aggDesc] at had ⊢
      generalize hu : a.eval x = u at hx
      cases hx with
      | agg us _ hl hus =>
        have hlt : v.toNat * ie.cks.length < us.length := by rw [hl]; exact (List.getElem?_eq_some_iff.1 hc).1
        refine done_of R ?_ h (.one _ _ (hus _ _ c (List.getElem?_eq_getElem hlt) hc))
        cases hif : P.info? e with
        | none => rw [hif] at hsz; simp at hsz
        | some fe =>
          rw [hif] at hsz
          simp only [Option.map_some, Option.some.injEq] at hsz
          simp [execOp, ho, hu, e2, Instr.index, asIntOf, run_underlying hd, hv0, hv1, part, hagg, sizeOf, typeInfo, hif, hsz, hlt]
  · cases h
theorem done_extract {P : Program} {o : Oper} {t n : Nat} {k : S → St → Option Res} (R : Rel B γ st ow [] σ a.tmps w) (ho : o.op = .extract (.tmp t) n)
    (h : (match σ.slot t with
      | .tup ss => (ss[n]?).bind fun s => k s σ
      | _ => none) = some r) : DoneA P B st a w (execOp a.eval o) k r := by
  have hx := R.view (.tmp t)
  simp only [St.view] at hx
  split at h
  · rename_i ss hs
    rw [hs] at hx
    rw [Option.bind_eq_some_iff] at h
    obtain ⟨s, hn, h⟩ := h
    generalize hu : a.eval (.tmp t) = u at hx
    cases hx with
    | tup us _ hl hc =>
      have hlt : n < us.length := by rw [hl]; exact (List.getElem?_eq_some_iff.1 hn).1
      refine done_of R ?_ h (hc n _ s (List.getElem?_eq_getElem hlt) hn)
      simp [execOp, ho, hu, Instr.extract, hlt]
  · cases h
theorem done_len {P : Program} {E : Env} (hE : EnvTy P E) {o : Oper} {t : TypeId} {x : Operand} {s : S} {k : S → St → Option Res} (R : Rel B γ st ow [] σ a.tmps w) (hx : SlotOk σ st γ w (a.eval x) s) (ho : o.op = .call { callee := .builtin .len, args := #[x], argTypes := #[t] })
    (h : (σ.lenK E t s fun s => k s σ) = some r) : DoneA P B st a w (execOp a.eval o) k r := by
  unfold St.lenK at h
  obtain ⟨i, hi, hk, h⟩ := bound_some h
  have hT := hE t i hi
  split at h
  · rename_i s hcks hkind _
    have e1 := slot_v hx
    have hstr : P.underlying t = some .string := by
      obtain ⟨d, h1, h2, h3⟩ := hT.desc
      cases d with
      | int k => rw [h3.1] at hcks; cases hcks
      | bool => rw [h3.1] at hcks; cases hcks
      | string => exact h1
      | slice e => rw [hkind] at h3; cases h3.1
      | struct fs => obtain ⟨p, hp, _⟩ := h3; rw [hkind] at hp; cases hp
      | array n e => have hh : i.kind = .array n e := h3; rw [hkind] at hh; cases hh
      | tuple ts => have hh : i.kind = .tuple ts.toList := h3; rw [hkind] at hh; cases hh
      | _ => rw [h3.2] at hcks; cases hcks
    exact done_of R (by simp [execOp, ho, resolve, invoke, builtin, Builtin.len_, e1, run_underlying hstr, goInt]) h (slotV _ rfl)
  · rename_i n e x' hcks hkind _
    obtain ⟨_, hd, _⟩ := hT.sliceE hkind
    obtain ⟨ob, nl, es, h, hsl, _⟩ := R.sliceK hx h
    have hv : ∃ ad c, a.eval x = .slice ad es.length c := by
      rcases hsl.val with ⟨hu', h0, _⟩ | ⟨_, ad, cap, hu', _⟩
      · exact ⟨none, 0, by rw [hu', h0]; rfl⟩
      · exact ⟨some ad, cap, hu'⟩
    obtain ⟨ad, c, hv⟩ := hv
    exact done_of R (by simp [execOp, ho, resolve, invoke, builtin, Builtin.len_, hv, run_underlying hd, goInt]) h (slotV _ rfl)
  · cases h
end
end Go.Proofs.Gh
