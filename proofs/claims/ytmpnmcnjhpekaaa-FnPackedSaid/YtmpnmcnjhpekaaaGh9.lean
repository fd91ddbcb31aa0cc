/- A ghost state and the machine's: appending. -/
import Derived.Test.YtmpnmcnjhpekaaaGh8
namespace Go.Proofs.Gh
open Go.RowKit
open Classical in
section
/-- The cells of rows, one behind another, each with its value. -/
def flat (us : Nat → Nat → Value) : Nat → List (List C) → List (Value × C)
  | _, [] => []
  | i, row :: rows => (row.mapIdx fun j c => (us i j, c)) ++ flat us (i + 1) rows
theorem flat_snd (us : Nat → Nat → Value) : ∀ (rows : List (List C)) (i : Nat), (flat us i rows).map (·.2) = rows.flatten
  | [], _ => rfl
  | row :: rows, i => by
    simp only [flat, List.map_append, List.flatten_cons, flat_snd us rows (i + 1)]
    congr 1
    apply List.ext_getElem?
    intro n
    rw [List.getElem?_map, List.getElem?_mapIdx]
    cases row[n]? <;> rfl
theorem flat_get (us : Nat → Nat → Value) {sz : Nat} : ∀ (rows : List (List C)) (i0 : Nat), (∀ (i : Nat) (row : List C), rows[i]? = some row → row.length = sz) → ∀ (i j : Nat) (row : List C) (c : C),
    rows[i]? = some row → row[j]? = some c → (flat us i0 rows)[i * sz + j]? = some (us (i0 + i) j, c)
  | [], _, _, i, _, _, _, h, _ => by simp at h
  | r :: rows, i0, hl, 0, j, row, c, h, hc => by
    simp only [List.getElem?_cons_zero, Option.some.injEq] at h
    subst h
    have hj := (List.getElem?_eq_some_iff.1 hc).1
    simp only [flat, Nat.zero_mul, Nat.zero_add]
    rw [List.getElem?_append_left (by simpa using hj), List.getElem?_mapIdx, hc]
    rfl
  | r :: rows, i0, hl, i + 1, j, row, c, h, hc => by
    have h0 := hl 0 r rfl
    simp only [List.getElem?_cons_succ] at h
    simp only [flat]
    rw [List.getElem?_append_right (by simp only [List.length_mapIdx, h0, Nat.succ_mul]; omega)]
    have := flat_get us rows (i0 + 1) (fun i row hi => hl (i + 1) row (by simpa using hi)) i j row c h hc
    rw [show i0 + (i + 1) = i0 + 1 + i by omega, ← this]
    congr 1
    simp only [List.length_mapIdx, h0, Nat.succ_mul]; omega
theorem flat_of_get (us : Nat → Nat → Value) {sz : Nat} : ∀ (rows : List (List C)) (i0 : Nat), (∀ (i : Nat) (row : List C), rows[i]? = some row → row.length = sz) → ∀ (k : Nat) (x : Value × C),
    (flat us i0 rows)[k]? = some x → ∃ i j row c, k = i * sz + j ∧ rows[i]? = some row ∧ row[j]? = some c ∧ x = (us (i0 + i) j, c)
  | [], _, _, k, x, h => by simp [flat] at h
  | r :: rows, i0, hl, k, x, h => by
    have h0 := hl 0 r rfl
    simp only [flat] at h
    rw [List.getElem?_append] at h
    split at h
    · rw [List.getElem?_mapIdx] at h
      cases hc : r[k]? with
      | none => rw [hc] at h; simp at h
      | some c =>
        rw [hc] at h
        exact ⟨0, k, r, c, by simp, rfl, hc, by simpa using h.symm⟩
    · rename_i hk
      simp only [List.length_mapIdx, h0] at h hk
      obtain ⟨i, j, row, c, h1, h2, h3, h4⟩ := flat_of_get us rows (i0 + 1) (fun i row hi => hl (i + 1) row (by simpa using hi)) _ x h
      exact ⟨i + 1, j, row, c, by rw [Nat.succ_mul]; omega, by simpa using h2, h3, by rw [h4]; congr 2; omega⟩
theorem flat_length (us : Nat → Nat → Value) (rows : List (List C)) (i : Nat) : (flat us i rows).length = rows.flatten.length := by
  rw [← flat_snd us rows i, List.length_map]

section
variable {B : Base} {γ : Nat → Bx} {st : Nat → Prop} {ow : Nat → Option Ow} {hand : List (Value × C)} {σ : St} {tmps : Array Value} {w : World}

/-- The hand is told anew. -/
theorem Rel.rehand (R : Rel B γ st ow hand σ tmps w) {hand' : List (Value × C)} {ow' : Nat → Option Ow} (h1 : ∀ b y, ow b = some y → (∀ i, y ≠ .hand i) → ow' b = some y)
    (h2 : ∀ b y, ow' b = some y → ∃ y', ow b = some y' ∧ (y' = y ∨ ∃ i j, y' = .hand i ∧ y = .hand j))
    (h3 : ∀ (i : Nat) (x : Value × C), hand'[i]? = some x → Rep st γ w σ.boxes.length x.1 x.2 (fun b => ow' b = some (.hand i))) : Rel B γ st ow' hand' σ tmps w := by
  constructor
  · exact R.tab
  · exact R.size
  · exact R.slots
  · intro r k c hc
    obtain ⟨u, hu, hr⟩ := R.cells r k c hc
    exact ⟨u, hu, hr.mono fun b hb => h1 b _ hb (by simp)⟩
  · intro r b g o hb hg
    obtain ⟨h4, h5, h6⟩ := R.mem r b g o hb hg
    exact ⟨h4, h1 g _ h5 (by simp), h6⟩
  · exact R.free
  · exact h3
  · intro b y hy
    obtain ⟨y', h, _⟩ := h2 b y hy
    exact R.lt b _ h
  · intro b hb
    refine ⟨(R.stlt b hb).1, ?_⟩
    cases ho : ow' b with
    | none => rfl
    | some y =>
      obtain ⟨y', h, _⟩ := h2 b y ho
      rw [(R.stlt b hb).2] at h; cases h
  · exact R.chg
  · intro b y hy hb hne
    obtain ⟨y', h, h'⟩ := h2 b y hy
    refine R.mine b _ h hb ?_
    rcases h' with rfl | ⟨i, j, rfl, _⟩
    · exact hne
    · simp
  · exact R.pin

/-- The hand's order. -/
theorem Rel.rotN {A D : List (Value × C)} (R : Rel B γ st ow (hand ++ A ++ D) σ tmps w) : ∃ ow', Rel B γ st ow' (hand ++ D ++ A) σ tmps w ∧ ∀ b, ow b = none → ow' b = none := by
  refine ⟨fun b => match ow b with
    | some (.hand i) => if i < hand.length then some (.hand i) else if i < hand.length + A.length then some (.hand (i + D.length)) else if i < hand.length + A.length + D.length then some (.hand (i - A.length)) else none
    | x => x, R.rehand ?_ ?_ ?_, fun b h => by simp [h]⟩
  · intro b y h hn
    rw [h]
    cases y with
    | hand i => exact absurd rfl (hn i)
    | _ => rfl
  · intro b y h
    cases ho : ow b with
    | none => rw [ho] at h; simp at h
    | some y' =>
      refine ⟨y', rfl, ?_⟩
      rw [ho] at h
      cases y' with
      | hand i =>
        right
        simp only at h
        split at h
        · exact ⟨i, i, rfl, (Option.some.inj h).symm⟩
        · split at h
          · exact ⟨i, _, rfl, (Option.some.inj h).symm⟩
          · split at h
            · exact ⟨i, _, rfl, (Option.some.inj h).symm⟩
            · cases h
      | box r => left; simpa using h
      | cell r k => left; simpa using h
  · intro i x hx
    have hlt : i < hand.length + D.length + A.length := by have := (List.getElem?_eq_some_iff.1 hx).1; simp at this; omega
    by_cases hl : i < hand.length
    · rw [List.append_assoc, List.getElem?_append_left hl] at hx
      refine (R.hands i x (by rw [List.append_assoc, List.getElem?_append_left hl]; exact hx)).mono fun b hb => ?_
      simp only [hb, hl, if_true]
    · by_cases h2 : i < hand.length + D.length
      · rw [List.getElem?_append_left (by simpa using h2), List.getElem?_append_right (by omega)] at hx
        refine (R.hands (i + A.length) x ?_).mono fun b hb => ?_
        · rw [List.getElem?_append_right (by simp; omega)]
          rw [← hx]; congr 1; simp; omega
        · simp only [hb]
          rw [if_neg (by omega), if_neg (by omega), if_pos (by omega)]
          simp
      · rw [List.getElem?_append_right (by simp; omega)] at hx
        simp only [List.length_append] at hx
        refine (R.hands (i - D.length) x ?_).mono fun b hb => ?_
        · rw [List.getElem?_append_left (by simp; omega), List.getElem?_append_right (by omega)]
          rw [← hx]; congr 1; omega
        · simp only [hb]
          rw [if_neg (by omega), if_pos (by omega), show i - D.length + D.length = i by omega]

theorem Rel.rot {A D : List (Value × C)} (R : Rel B γ st ow (hand ++ A ++ D) σ tmps w) : ∃ ow', Rel B γ st ow' (hand ++ D ++ A) σ tmps w :=
  let ⟨ow', h, _⟩ := R.rotN; ⟨ow', h⟩
/-- What owns nothing comes into the hand: many. -/
theorem Rel.takes0 {hs : List (Value × C)} (R : Rel B γ st ow hand σ tmps w) (h : ∀ x ∈ hs, Rep st γ w σ.boxes.length x.1 x.2 (fun _ => False)) : ∃ ow', Rel B γ st ow' (hand ++ hs) σ tmps w := by
  induction hs generalizing hand ow with
  | nil => exact ⟨ow, by simpa using R⟩
  | cons x hs ih =>
    obtain ⟨ow1, R1⟩ := R.take0 (h x (by simp))
    obtain ⟨ow2, R2⟩ := ih R1 (fun y hy => h y (by simp [hy]))
    exact ⟨ow2, by simpa using R2⟩

/-- A slice in the hand last comes apart into its elements' cells. -/
theorem Rel.explode {v : Value} {nl : Option Bool} {sz : Nat} {es : List (List C)} (R : Rel B γ st ow (hand ++ [(v, .sl true nl sz es)]) σ tmps w) :
    ∃ us ow', Rel B γ st ow' (hand ++ flat us 0 es) σ tmps w ∧ (∀ (i : Nat) (row : List C), es[i]? = some row → row.length = sz) ∧ (∀ (i : Nat) (x : Value × C), (flat us 0 es)[i]? = some x → Rep st γ w 0 x.1 x.2 (fun b => ow' b = some (.hand (hand.length + i)))) ∧
      ((v = .slice none 0 0 ∧ es = []) ∨ ∃ g o cap, v = .slice (some ⟨g, o, none⟩) es.length cap ∧ ∀ (k : Nat) (x : Value × C), (flat us 0 es)[k]? = some x → w.cell? ⟨g, o + k, none⟩ = some x.1) := by
  have h := R.hands hand.length (v, .sl true nl sz es) (getElem?_snoc_self _ _)
  simp only at h
  cases h with
  | nil _ o _ _ _ h1 =>
    obtain ⟨ow', R'⟩ := R.drop
    exact ⟨fun _ _ => .int .i64 0, ow', by simpa [flat] using R', fun i row hi => by simp at hi, fun i x hx => by simp [flat] at hx, .inl ⟨rfl, rfl⟩⟩
  | own _ g o cap sz _ _ us Xs e cur _ h1 h2 h3 h4 h5 h6 h7 h8 h9 h10 h11 h12 =>
    have how : ∃ ow' : Nat → Option Ow, (∀ b i j, j < sz → Xs i j b → ow' b = some (.hand (hand.length + (i * sz + j)))) ∧ (∀ b y, ow b = some y → y ≠ .hand hand.length → ow' b = some y) ∧
        (∀ b y, ow' b = some y → ∃ y', ow b = some y' ∧ (y' = y ∨ ∃ i j, y' = .hand i ∧ y = .hand j)) := by
      refine ⟨fun b => if hq : ∃ q : Nat × Nat, q.2 < sz ∧ Xs q.1 q.2 b then some (.hand (hand.length + ((Classical.choose hq).1 * sz + (Classical.choose hq).2))) else if ow b = some (.hand hand.length) then none else ow b, fun b i j hj hx => ?_, fun b y h hn => ?_, fun b y h => ?_⟩
      · have hq : ∃ q : Nat × Nat, q.2 < sz ∧ Xs q.1 q.2 b := ⟨(i, j), hj, hx⟩
        dsimp only
        rw [dif_pos hq]
        have := h12 _ _ _ _ b (Classical.choose_spec hq).2 hx
        rw [this.1, this.2]
      · have hno : ¬ ∃ q : Nat × Nat, q.2 < sz ∧ Xs q.1 q.2 b := fun ⟨q, hq⟩ => by
          have : ow b = some (.hand hand.length) := h10 _ _ _ hq.2
          rw [h] at this
          exact hn (Option.some.inj this)
        dsimp only
        rw [dif_neg hno, if_neg (by rw [h]; simp; exact hn), h]
      · dsimp only at h
        split at h
        · rename_i hq
          have : ow b = some (.hand hand.length) := h10 _ _ _ (Classical.choose_spec hq).2
          exact ⟨_, this, .inr ⟨_, _, rfl, (Option.some.inj h).symm⟩⟩
        · split at h
          · cases h
          · exact ⟨y, h, .inl rfl⟩
    obtain ⟨ow', hch, hkeep, hback⟩ := how
    have helem : ∀ (k : Nat) (x : Value × C), (flat us 0 es)[k]? = some x → Rep st γ w 0 x.1 x.2 (fun b => ow' b = some (.hand (hand.length + k))) := fun k x hx => by
      obtain ⟨i', j, row, c, rfl, hi, hj, rfl⟩ := flat_of_get us es 0 h7 _ x hx
      have hjl : j < sz := by rw [← h7 _ _ hi]; exact (List.getElem?_eq_some_iff.1 hj).1
      simp only [Nat.zero_add]
      exact (h9 _ _ _ _ hi hj).mono fun b hb => hch b i' j hjl hb
    refine ⟨us, ow', R.rehand (fun b y h hn => hkeep b y h (hn _)) hback ?_, h7, helem, ?_⟩
    · intro i x hx
      by_cases hl : i < hand.length
      · rw [List.getElem?_append_left hl] at hx
        refine (R.hands i x (by rw [List.getElem?_append_left hl]; exact hx)).mono fun b hb => hkeep b _ hb (by simp; omega)
      · rw [List.getElem?_append_right (by omega)] at hx
        refine (helem _ x hx).any.mono fun b hb => ?_
        rw [hb]
        congr 2
        omega
    · refine .inr ⟨g, o, cap, rfl, fun k x hk => ?_⟩
      obtain ⟨i', j, row, c, rfl, hi, hj, rfl⟩ := flat_of_get us es 0 h7 _ x hk
      simp only [Nat.zero_add]
      rw [cell_of_row w g _ cur e (0, 0) h3]
      exact h8 _ _ _ _ hi hj

/-- A content that names no box within. -/
def C.Inner (c : C) : Prop := ∃ st γ w u X, Rep st γ w 0 u c X
theorem Rep.inner {n : Nat} {u : Value} {c : C} {X : Nat → Prop} (hi : c.Inner) (h : Rep st γ w n u c X) : Rep st γ w 0 u c X := by
  obtain ⟨st', γ', w', u', X', h'⟩ := hi
  induction h generalizing u' X' with
  | unk _ _ _ h1 => exact .unk _ _ _ h1
  | v _ _ _ h1 => exact .v _ _ _ h1
  | nil _ o nl sz _ h1 => exact .nil _ _ _ _ _ h1
  | ro _ a cap sz nl es us _ h1 h2 h3 h4 h5 h6 h7 => exact .ro _ _ _ _ _ _ us _ h1 h2 h3 h4 h5 h6 h7
  | own _ g o cap sz nl es us Xs e cur _ h1 h2 h3 h4 h5 h6 h7 h8 h9 h10 h11 h12 => exact .own _ _ _ _ _ _ _ us Xs e cur _ h1 h2 h3 h4 h5 h6 h7 h8 h9 h10 h11 h12
  | fn _ f caps us _ h1 h2 ih =>
    cases h' with
    | fn _ _ _ us' _ h1' h2' =>
      refine .fn _ _ _ _ _ h1 fun i c u hc hu => ?_
      have hlt : i < us'.length := by rw [h1']; exact (List.getElem?_eq_some_iff.1 hc).1
      exact ih i c u hc hu _ _ (h2' i c _ hc (List.getElem?_eq_getElem hlt))
  | ifcNil => exact .ifcNil _ _
  | ifc _ t u => exact .ifc _ _ _ _
  | rp _ ad cs us _ h1 h2 h3 => exact .rp _ ad cs us _ h1 h2 h3
  | box _ r k g o _ h1 h2 =>
    cases h' with
    | box _ _ _ _ _ _ h1 _ => exact absurd h1 (Nat.not_lt_zero _)
  | mp _ g kvs ms clk _ h1 h2 h3 h4 => exact .mp _ g kvs ms clk _ h1 h2 h3 h4
theorem Rep.isInner {u : Value} {c : C} {X : Nat → Prop} (h : Rep st γ w 0 u c X) : c.Inner := ⟨_, _, _, _, _, h⟩

theorem run_firstCells_nil {P : Program} (w : World) (size n : Nat) : (Builtin.firstCells size n (.slice none 0 0)).run P w = .ok #[] w := run_firstCells_none w size n 0 0
/-- Append where there is room, wherever in its block the slice begins. -/
theorem run_append_room_at {P : Program} (w : World) (t ty e : TypeId) (i : TypeInfo) (ht : P.underlying t = some (.slice e)) (hi : P.info? e = some i)
    (g o sLen sCap : Nat) (cur : Array Value) (e0 : TypeId) (hg : w.heap[g]? = some (.cells cur e0 (0, 0))) (x : Value) (m : Nat) (news : List Value)
    (hx : (x = .slice none 0 0 ∧ m = 0 ∧ news = []) ∨ ∃ a c, x = .slice (some a) m c ∧ ∀ (j : Nat) (u : Value), news[j]? = some u → w.cell? (a.add j) = some u)
    (hl : news.length = m * i.size) (h1 : ∀ u ∈ news, u.oneCell' = true) (hroom : sLen + m ≤ sCap) (hfit : o + sLen * i.size + news.length ≤ cur.size) :
    (Builtin.append_ #[t, t] ty #[.slice (some ⟨g, o, none⟩) sLen sCap, x]).run P w =
      .ok (.slice (some ⟨g, o, none⟩) (sLen + m) sCap) (w.setRow g (cur.toList.take (o + sLen * i.size) ++ news ++ cur.toList.drop (o + sLen * i.size + news.length)).toArray) := by
  have hst := run_storeCells_at P g (o + sLen * i.size) e0 news 0 cur w hg (by simpa using hfit) h1
  simp only [Nat.add_zero] at hst
  rcases hx with ⟨rfl, rfl, rfl⟩ | ⟨a, c, rfl, hnews⟩
  · have hroom' : sLen ≤ sCap := by simpa using hroom
    simp [Builtin.append_, run_underlying ht, sizeOf, typeInfo, hi, Builtin.lenOf, hroom', run_firstCells_nil, Addr.add_lit, hst]
  · have hf := run_firstCells_some (P := P) w i.size m a m c news hl hnews
    simp [Builtin.append_, run_underlying ht, sizeOf, typeInfo, hi, Builtin.lenOf, hroom, hf, Addr.add_lit, hst]

/-- APPEND. -/
theorem Rel.append {P : Program} {hs : List (Value × C)} {v x : Value} {d : C} {nl : Option Bool} {es es' : List (List C)} (R : Rel B γ st ow (hand ++ [(v, d)] ++ hs) σ tmps w)
    (t ty e : TypeId) (i : TypeInfo) (z : Value) (ht : P.underlying t = some (.slice e)) (hi : P.info? e = some i) (hz : i.zero = some z) (hzs : z.cells.size = i.size) (hby : 0 < i.bytes)
    (hd : d.asBase i.size = some (nl, es)) (hsz : ∀ (k : Nat) (row : List C), es'[k]? = some row → row.length = i.size) (hfl : hs.map (·.2) = es'.flatten) (hin : ∀ y ∈ hs, y.2.Inner)
    (hx : (x = .slice none 0 0 ∧ es' = []) ∨ ∃ a c, x = .slice (some a) es'.length c ∧ ∀ (j : Nat) (y : Value × C), hs[j]? = some y → w.cell? (a.add j) = some y.1)
    (hbound : (es.length + es'.length) * i.bytes ≤ LIM) :
    ∃ v' w' ow', (Builtin.append_ #[t, t] ty #[v, x]).run P w = .ok v' w' ∧ Rel B γ st ow' (hand ++ [(v', .sl true (apNl nl es') i.size (es ++ es'))]) σ tmps w' := by
  obtain ⟨owr, R1⟩ := R.rot
  have hlen : hs.length = es'.length * i.size := by rw [← flatten_length es' hsz, ← hfl, List.length_map]
  have hbig : (es.length + es'.length) ≤ LIM := Nat.le_trans (Nat.le_mul_of_pos_right _ hby) hbound
  have hmax : es.length + es'.length ≤ maxLen := by unfold LIM at hbig; simp only [maxLen]; omega
  have hbd : (es.length + es'.length) * i.bytes ≤ 140737488355328 := hbound
  -- the base
  have hbase : d = .sl true nl i.size es ∨ (nl = some true ∧ es = [] ∧ ∃ sz, d = .sl true (some true) sz []) := by
    unfold C.asBase at hd
    split at hd
    · rename_i nl' sz es0
      split at hd
      · rename_i e0; subst e0; cases hd; exact .inl rfl
      · split at hd
        · cases hd; exact .inr ⟨rfl, rfl, _, rfl⟩
        · cases hd
    · cases hd
  have hrep := R1.hands (hand ++ hs).length (v, d) (getElem?_snoc_self _ _)
  simp only at hrep
  -- is it nil?
  have hcase : (v = .slice none 0 0 ∧ es = [] ∧ nl ≠ some false) ∨ d = .sl true nl i.size es ∧ v ≠ .slice none 0 0 := by
    rcases hbase with rfl | ⟨rfl, rfl, sz, rfl⟩
    · cases hrep with
      | nil _ o _ _ _ h1 => exact .inl ⟨rfl, rfl, h1⟩
      | own => exact .inr ⟨rfl, by simp⟩
    · cases hrep with
      | nil _ o _ _ _ h1 => exact .inl ⟨rfl, rfl, by simp⟩
      | own _ g o cap sz' _ _ us Xs e0 cur _ h1 => exact absurd rfl h1
  have hnews : (hs.map (·.1)).length = es'.length * i.size := by rw [List.length_map]; exact hlen
  rcases hcase with ⟨rfl, rfl, hnl⟩ | ⟨rfl, hvn⟩
  · by_cases hm : es' = []
    · subst hm
      have h0 : hs = [] := List.eq_nil_of_length_eq_zero (by simpa using hlen)
      subst h0
      have R0 : Rel B γ st ow (hand ++ [(.slice none 0 0, d)]) σ tmps w := by simpa using R
      obtain ⟨ow2, R2⟩ := R0.gather (hs := [(.slice none 0 0, d)]) (hand := hand) (w' := w) (v' := .slice none 0 0) (c' := .sl true (apNl nl []) i.size ([] ++ [])) rfl rfl rfl (fun _ _ _ => rfl) (Nat.le_refl _)
        (.nil _ _ _ _ _ (by cases nl with | none => simp [apNl] | some b => cases b <;> simp_all [apNl]))
      refine ⟨.slice none 0 0, w, ow2, ?_, R2⟩
      rcases hx with ⟨rfl, _⟩ | ⟨a, c, rfl, _⟩
      · simp [Builtin.append_, run_underlying ht, sizeOf, typeInfo, hi, Builtin.lenOf, Builtin.firstCells]
      · simp [Builtin.append_, run_underlying ht, sizeOf, typeInfo, hi, Builtin.lenOf, Builtin.firstCells, loadCells, loadCellsFrom]
    · have hm0 : 0 < es'.length := List.length_pos_iff.2 hm
      obtain ⟨a, c, rfl, hcell⟩ := hx.resolve_left (fun h => hm h.2)
      obtain ⟨ow2, R2⟩ := R1.drop
      have hr := run_append_nil (P := P) w t ty e i z ht hi hz a es'.length c (hs.map (·.1)) hnews (fun j u hu => by
        rw [List.getElem?_map] at hu
        cases hj : hs[j]? with
        | none => rw [hj] at hu; simp at hu
        | some y => rw [hj] at hu; simp at hu; subst hu; exact hcell j y hj) hm0 (by simp only [maxLen, List.length_nil, Nat.zero_add] at hmax; omega) (by simp only [List.length_nil, Nat.zero_add] at hbd; omega)
      have hge := grownCap_ge w es'.length 0 e
      have hcm : grownCap w es'.length 0 e ≤ maxLen := grownCap_le_maxLen w es'.length 0 e (by simpa using hmax)
      obtain ⟨ow3, R3⟩ := R2.newOwn hsz hfl (fun k y hk => (R2.hands (hand.length + k) y (by rw [List.getElem?_append_right (by omega)]; simpa using hk)).inner (hin y (List.mem_of_getElem? hk)))
        (grownCap w es'.length 0 e) hge hcm ((hs.map (·.1)).toArray ++ Builtin.zeroCells z.cells (grownCap w es'.length 0 e - es'.length)) (fun k y hk => by
          have hlt : k < hs.length := (List.getElem?_eq_some_iff.1 hk).1
          rw [Array.getElem?_append_left (by simpa using hlt)]
          simp [hk]) (by
          simp only [Array.size_append, List.size_toArray, hnews, size_zeroCells, hzs, ← Nat.add_mul]
          exact Nat.mul_le_mul_right _ (by omega)) e (.inr rfl)
      refine ⟨_, _, ow3, hr, ?_⟩
      have hap : apNl nl es' = some false := by
        cases es' with
        | nil => exact absurd rfl hm
        | cons r rs => cases nl with
          | none => rfl
          | some b => cases b <;> rfl
      rw [hap]
      simpa using R3
  · cases hrep with
    | nil => exact absurd rfl hvn
    | own _ g o cap _ _ _ us Xs e0 cur _ h1 h2 h3 h4 h5 h6 h7 h8 h9 h10 h11 h12 =>
      have hap : apNl nl es' = nl ∨ apNl nl es' = some false := by
        cases nl with
        | none => cases es' <;> simp [apNl]
        | some b => cases b <;> cases es' <;> simp [apNl]
      have hap1 : apNl nl es' ≠ some true := by
        rcases hap with h | h <;> rw [h]
        · exact h1
        · simp
      by_cases hroom : es.length + es'.length ≤ cap
      · -- there is room
        have hfit : o + es.length * i.size + (hs.map (·.1)).length ≤ cur.size := by
          rw [hnews]
          have := Nat.mul_le_mul_right i.size hroom
          rw [Nat.add_mul] at this
          omega
        have hone : ∀ u ∈ hs.map (·.1), u.oneCell' = true := fun u hu => by
          obtain ⟨y, hy, rfl⟩ := List.mem_map.1 hu
          obtain ⟨k, hk⟩ := List.getElem?_of_mem hy
          exact (R1.hands (hand.length + k) y (by rw [List.append_assoc, List.getElem?_append_right (by omega), List.getElem?_append_left (by have := (List.getElem?_eq_some_iff.1 hk).1; omega)]; simpa using hk)).one
        have hr := run_append_room_at (P := P) w t ty e i ht hi g o es.length cap cur e0 h3 x es'.length (hs.map (·.1)) (hx.imp (fun h => by
            obtain ⟨h1, h2⟩ := h
            subst h2
            have : hs = [] := List.eq_nil_of_length_eq_zero (by simpa using hlen)
            subst this
            exact ⟨h1, rfl, rfl⟩) (fun ⟨a, c, h, hc⟩ => ⟨a, c, h, fun j u hu => by
              rw [List.getElem?_map] at hu
              cases hj : hs[j]? with
              | none => rw [hj] at hu; simp at hu
              | some y => rw [hj] at hu; simp at hu; subst hu; exact hc j y hj⟩)) hnews hone hroom hfit
        have hnew := setRow_heap w g cur (cur.toList.take (o + es.length * i.size) ++ hs.map (·.1) ++ cur.toList.drop (o + es.length * i.size + (hs.map (·.1)).length)).toArray e0 _ h3
        have hfr : ∀ b, b ≠ g → (w.setRow g (cur.toList.take (o + es.length * i.size) ++ hs.map (·.1) ++ cur.toList.drop (o + es.length * i.size + (hs.map (·.1)).length)).toArray).heap[b]? = w.heap[b]? := fun b hb => setRow_other w g b _ hb
        have hcursz : cur.toList.length = cur.size := Array.length_toList
        -- the new row's cells
        have hcell : ∀ k, (cur.toList.take (o + es.length * i.size) ++ hs.map (·.1) ++ cur.toList.drop (o + es.length * i.size + (hs.map (·.1)).length)).toArray[k]? =
            if k < o + es.length * i.size then cur[k]? else if k < o + es.length * i.size + hs.length then (hs[k - (o + es.length * i.size)]?).map (·.1) else cur[k]? := fun k => by
          simp only [List.length_map] at hfit ⊢
          simp only [List.getElem?_toArray]
          by_cases hk1 : k < o + es.length * i.size
          · rw [if_pos hk1, List.getElem?_append_left (by simp; omega), List.getElem?_append_left (by simp; omega), List.getElem?_take_of_lt hk1, Array.getElem?_toList]
          · rw [if_neg hk1]
            by_cases hk2 : k < o + es.length * i.size + hs.length
            · rw [if_pos hk2, List.getElem?_append_left (by simp; omega), List.getElem?_append_right (by simp; omega), List.getElem?_map]
              congr 2
              simp; omega
            · rw [if_neg hk2, List.getElem?_append_right (by simp; omega), List.getElem?_drop, Array.getElem?_toList]
              congr 1
              simp; omega
        have hsz2 : ∀ (k : Nat) (row : List C), (es ++ es')[k]? = some row → row.length = i.size := fun k row hk => by
          rw [List.getElem?_append] at hk
          split at hk
          · exact h7 _ _ hk
          · exact hsz _ _ hk
        have helem : ∀ k j row c, es'[k]? = some row → row[j]? = some c → ∃ y, hs[k * i.size + j]? = some y ∧ y.2 = c ∧ j < i.size := fun k j row c hk hj => by
          have h1 := flatten_get es' hsz k j row c hk hj
          rw [← hfl, List.getElem?_map] at h1
          cases hy : hs[k * i.size + j]? with
          | none => rw [hy] at h1; simp at h1
          | some y => rw [hy] at h1; exact ⟨y, rfl, by simpa using h1, by rw [← hsz k row hk]; exact (List.getElem?_eq_some_iff.1 hj).1⟩
        have R1' : Rel B γ st owr (hand ++ (hs ++ [(.slice (some ⟨g, o, none⟩) es.length cap, .sl true nl i.size es)])) σ tmps w := by rw [← List.append_assoc]; exact R1
        have hlo : owr g = some (.hand (hand.length + hs.length)) := by have : owr g = some (.hand (hand ++ hs).length) := h2; rw [this]; simp
        obtain ⟨ow2, R2⟩ := R1'.gather (w' := w.setRow g (cur.toList.take (o + es.length * i.size) ++ hs.map (·.1) ++ cur.toList.drop (o + es.length * i.size + (hs.map (·.1)).length)).toArray)
          (v' := .slice (some ⟨g, o, none⟩) (es.length + es'.length) cap) (c' := .sl true (apNl nl es') i.size (es ++ es')) rfl rfl rfl (fun b hb hk => hfr b (fun e => hk hs.length (by rw [e]; exact hlo))) (by simp) (by
            rw [← List.length_append]
            refine Rep.own _ g o cap i.size _ (es ++ es') (fun k j => if k < es.length then us k j else ((hs[(k - es.length) * i.size + j]?).map (·.1)).getD (.int .i64 0))
              (fun k j b => if k < es.length then Xs k j b else j < i.size ∧ owr b = some (.hand (hand.length + ((k - es.length) * i.size + j))) ∧ (k - es.length) * i.size + j < hs.length) e0 _ _ hap1 (.inl ⟨_, hlo⟩) hnew (by simp only [List.size_toArray, List.length_append, List.length_take, List.length_drop]; simp only [List.length_map] at hfit ⊢; omega) (by simpa using hroom) h6 hsz2 ?_ ?_ ?_ ?_ ?_
            · intro k row j c hk hj
              rw [hcell]
              by_cases hkl : k < es.length
              · rw [List.getElem?_append_left hkl] at hk
                have hjl : j < i.size := by rw [← h7 _ _ hk]; exact (List.getElem?_eq_some_iff.1 hj).1
                have : k * i.size + j < es.length * i.size := by
                  have := Nat.mul_le_mul_right i.size (show k + 1 ≤ es.length by omega)
                  rw [Nat.succ_mul] at this; omega
                rw [if_pos (by omega), if_pos hkl]
                exact h8 _ _ _ _ hk hj
              · rw [List.getElem?_append_right (by omega)] at hk
                obtain ⟨y, hy, rfl, hjl⟩ := helem _ _ _ _ hk hj
                have hlt := (List.getElem?_eq_some_iff.1 hy).1
                have hke : k * i.size = es.length * i.size + (k - es.length) * i.size := by rw [← Nat.add_mul]; congr 1; omega
                rw [if_neg (by omega), if_pos (by omega), if_neg hkl, hy]
                rw [show o + (k * i.size + j) - (o + es.length * i.size) = (k - es.length) * i.size + j by omega, hy]
                rfl
            · intro k row j c hk hj
              by_cases hkl : k < es.length
              · rw [List.getElem?_append_left hkl] at hk
                simp only [if_pos hkl]
                refine (h9 _ _ _ _ hk hj).same fun b hb => hfr b ?_
                rcases hb with hb | hb
                · intro e; subst e; have := (R1.stlt _ hb).2; rw [hlo] at this; cases this
                · intro e; subst e; exact h11 _ _ hb
              · rw [List.getElem?_append_right (by omega)] at hk
                obtain ⟨y, hy, rfl, hjl⟩ := helem _ _ _ _ hk hj
                have hlt := (List.getElem?_eq_some_iff.1 hy).1
                simp only [if_neg hkl, hy, Option.map_some, Option.getD_some]
                have := R1.hands (hand.length + ((k - es.length) * i.size + j)) y (by rw [List.append_assoc, List.getElem?_append_right (by omega), List.getElem?_append_left (by omega)]; simpa using hy)
                refine ((this.inner (hin y (List.mem_of_getElem? hy))).same fun b hb => hfr b ?_).mono fun b hb => ⟨hjl, hb, hlt⟩
                rcases hb with hb | hb
                · intro e; subst e; have := (R1.stlt _ hb).2; rw [hlo] at this; cases this
                · intro e; subst e
                  replace hb : owr b = some (.hand (hand.length + ((k - es.length) * i.size + j))) := hb
                  rw [hlo] at hb
                  simp only [Option.some.injEq, Ow.hand.injEq] at hb
                  omega
            · intro k j b hb
              by_cases hkl : k < es.length
              · rw [if_pos hkl] at hb
                have : owr b = some (.hand (hand ++ hs).length) := h10 _ _ _ hb
                exact .inl ⟨hs.length, by rw [this]; simp⟩
              · rw [if_neg hkl] at hb
                exact .inl ⟨_, hb.2.1⟩
            · intro k j hb
              by_cases hkl : k < es.length
              · rw [if_pos hkl] at hb
                exact h11 _ _ hb
              · rw [if_neg hkl, hlo] at hb
                have := hb.2.1
                simp only [Option.some.injEq, Ow.hand.injEq] at this
                omega
            · intro k j k' j' b hb hb'
              by_cases hkl : k < es.length <;> by_cases hkl' : k' < es.length
              · rw [if_pos hkl] at hb; rw [if_pos hkl'] at hb'
                exact h12 _ _ _ _ b hb hb'
              · rw [if_pos hkl] at hb; rw [if_neg hkl'] at hb'
                have : owr b = some (.hand (hand ++ hs).length) := h10 _ _ _ hb
                rw [this] at hb'
                have := hb'.2.1
                simp only [Option.some.injEq, Ow.hand.injEq, List.length_append] at this
                omega
              · rw [if_neg hkl] at hb; rw [if_pos hkl'] at hb'
                have : owr b = some (.hand (hand ++ hs).length) := h10 _ _ _ hb'
                rw [this] at hb
                have := hb.2.1
                simp only [Option.some.injEq, Ow.hand.injEq, List.length_append] at this
                omega
              · rw [if_neg hkl] at hb; rw [if_neg hkl'] at hb'
                have := hb.2.1
                rw [hb'.2.1] at this
                simp only [Option.some.injEq, Ow.hand.injEq] at this
                have := cellIndex hb.1 hb'.1 (by omega : (k - es.length) * i.size + j = (k' - es.length) * i.size + j')
                omega)
        exact ⟨_, _, ow2, hr, R2⟩
      · -- a new row
        have hm : es' ≠ [] := fun e => by subst e; simp at hroom; omega
        obtain ⟨a, c, rfl, hcell⟩ := hx.resolve_left (fun h => hm h.2)
        obtain ⟨us', ow2, R2, _, hin2, hv2⟩ := R1.explode
        obtain ⟨g', o', cap', hv, hc2⟩ := hv2.resolve_left (fun h => hvn h.1)
        simp only [Value.slice.injEq, Option.some.injEq, Addr.mk.injEq, and_true, true_and] at hv
        obtain ⟨⟨rfl, rfl⟩, rfl⟩ := hv
        obtain ⟨ow3, R3⟩ := R2.rot
        rw [List.append_assoc] at R3
        have hlo : (flat us' 0 es).length = es.length * i.size := by rw [flat_length, flatten_length es h7]
        have holds : ∀ (j : Nat) (u : Value), ((flat us' 0 es).map (·.1))[j]? = some u → w.cell? ((⟨g, o, none⟩ : Addr).add j) = some u := fun j u hu => by
          rw [List.getElem?_map] at hu
          cases hj : (flat us' 0 es)[j]? with
          | none => rw [hj] at hu; simp at hu
          | some y => rw [hj] at hu; simp at hu; subst hu; rw [add_lit]; exact hc2 j y hj
        have hr := run_append_grow (P := P) w t ty e i z ht hi hz ⟨g, o, none⟩ es.length cap ((flat us' 0 es).map (·.1)) (by rw [List.length_map]; exact hlo) holds a es'.length c (hs.map (·.1)) hnews (fun j u hu => by
          rw [List.getElem?_map] at hu
          cases hj : hs[j]? with
          | none => rw [hj] at hu; simp at hu
          | some y => rw [hj] at hu; simp at hu; subst hu; exact hcell j y hj) (by omega) (by simp only [maxLen] at hmax; omega) (growslice_fits (by omega) hbd)
        have hge := grownCap_ge w (es.length + es'.length) cap e
        have hcm : grownCap w (es.length + es'.length) cap e ≤ maxLen := grownCap_le_maxLen w _ cap e hmax
        have hall : ∀ y ∈ flat us' 0 es ++ hs, y.2.Inner := fun y hy => by
          rcases List.mem_append.1 hy with hy | hy
          · obtain ⟨k, hk⟩ := List.getElem?_of_mem hy
            exact (hin2 k y hk).isInner
          · exact hin y hy
        obtain ⟨ow4, R4⟩ := R3.newOwn (rows := es ++ es') (sz := i.size) (fun k row hk => by
            rw [List.getElem?_append] at hk
            split at hk
            · exact h7 _ _ hk
            · exact hsz _ _ hk) (by rw [List.map_append, flat_snd, hfl, List.flatten_append]) (fun k y hk => (R3.hands (hand.length + k) y (by rw [List.getElem?_append_right (by omega)]; simpa using hk)).inner (hall y (List.mem_of_getElem? hk)))
          (grownCap w (es.length + es'.length) cap e) (by simpa using hge) hcm (((flat us' 0 es).map (·.1)).toArray ++ (hs.map (·.1)).toArray ++ Builtin.zeroCells z.cells (grownCap w (es.length + es'.length) cap e - (es.length + es'.length))) (fun k y hk => by
            have hlt : k < (flat us' 0 es ++ hs).length := (List.getElem?_eq_some_iff.1 hk).1
            rw [Array.getElem?_append_left (by simpa using hlt)]
            have : ((flat us' 0 es).map (·.1)).toArray ++ (hs.map (·.1)).toArray = ((flat us' 0 es ++ hs).map (·.1)).toArray := by simp
            rw [this]
            simp only [List.getElem?_toArray, List.getElem?_map, hk, Option.map_some]) (by
            simp only [Array.size_append, List.size_toArray, List.length_map, hlo, hlen, size_zeroCells, hzs, ← Nat.add_mul]
            exact Nat.mul_le_mul_right _ (by omega)) e (.inr rfl)
        refine ⟨_, _, ow4, hr, ?_⟩
        have hap2 : apNl nl es' = some false := by
          cases es' with
          | nil => exact absurd rfl hm
          | cons r rs => cases nl with
            | none => rfl
            | some b => cases b <;> rfl
        rw [hap2]
        simpa using R4
end
end
end Go.Proofs.Gh
