/- A part of the evaluator and its soundness: Draw. No condition beside those that each theorem states. -/
import Derived.Test.YtjokcjlpciecoaaRxExec2
set_option linter.unusedSimpArgs false
set_option linter.unusedVariables false
namespace Go.Proofs.Ytjokcjlpciecoaa.Rx

section
variable {E : Env} {st : St} {key : Nat} {o : Oper} {R : Type} {r : R}

theorem binI_bind {op : BinOp} {k : IntKind} {a b : Int} (K : AV → Option R) : binI op k a b K = (binI op k a b some).bind K := by
  unfold binI; cases op <;> simp <;> split <;> simp
theorem shiftI_bind {op : BinOp} {k : IntKind} {a b : Int} (K : AV → Option R) : shiftI op k a b K = (shiftI op k a b some).bind K := by
  unfold shiftI; cases op <;> simp <;> split <;> simp
theorem binS_bind {op : BinOp} {a b : ByteArray} (K : AV → Option R) : binS op a b K = (binS op a b some).bind K := by
  unfold binS; cases op <;> simp [Option.bind_assoc]
theorem callQ_bind {g : FuncId} {args : List AV} (K : AV → Option R) : callQ E key st g args K = (callQ E key st g args some).bind K := by
  unfold callQ
  cases E.fns g with
  | none => rfl
  | some f =>
    simp only
    split
    · cases argParts st f.sig.params args with
      | none => rfl
      | some ls =>
        simp only
        split
        · cases ofParts f.sig.ins ls with
          | none => rfl
          | some x => simp [Option.bind_assoc]
        · rfl
    · rfl

theorem evalQ_bind (K : AV → Option R) : evalQ E key o st K = (evalQ E key o st some).bind K := by
  unfold evalQ
  generalize o.op = op
  cases op with
  | move => rfl
  | assign => rfl
  | pick c a b =>
    simp only
    split
    · rename_i p _; cases p <;> rfl
    · rfl
  | nilCheck x => simp only; split <;> rfl
  | load t x =>
    simp only
    split
    · split
      · split
        · split <;> rfl
        · rfl
        · rfl
      · rfl
    · split
      · rfl
      · rw [Option.bind_assoc]
        congr 1; funext y
        split
        · split <;> rfl
        · rfl
        · rfl
    · split
      · split <;> rfl
      · rfl
    · rfl
  | fieldAddr s x f =>
    simp only
    split
    · split
      · rfl
      · split <;> rfl
    · rfl
  | field s x f =>
    simp only
    split
    · split <;> rfl
    · rfl
  | indexAddr t x i =>
    simp only
    split
    · split
      · rw [Option.bind_assoc]; rfl
      · rfl
    · split
      · rw [Option.bind_assoc]; rfl
      · rfl
    · split
      · split
        · rw [Option.bind_assoc]; rfl
        · rfl
      · rfl
    · rfl
  | index t x i =>
    simp only
    split
    · split
      · rw [Option.bind_assoc]; rfl
      · rfl
    · split
      · split
        · rw [Option.bind_assoc]; rfl
        · rfl
      · rfl
    · rfl
  | slice t x lo hi mx =>
    cases mx with
    | some _ => rfl
    | none =>
      simp only
      split
      · split
        · split
          · rw [Option.bind_assoc]; rfl
          · rfl
        · rfl
      · split
        · split
          · rw [Option.bind_assoc]; rfl
          · rfl
        · rfl
      · rfl
  | binOp op t x y _ =>
    simp only
    split
    · split
      · exact shiftI_bind K
      · split
        · exact binI_bind K
        · rfl
    · exact binS_bind K
    · split
      · cases op <;> rfl
      · rfl
    · split
      · split <;> rfl
      · rfl
    · rfl
  | unOp op t x => simp only; split <;> rfl
  | convert s d x =>
    simp only
    split
    · rfl
    · rfl
    · split
      · split
        · rfl
        · split
          · split <;> rfl
          · rfl
      · rfl
    · split <;> rfl
    · rfl
  | build t ps =>
    simp only
    split
    · split
      · split <;> rfl
      · rfl
    · split
      · split <;> rfl
      · rfl
    · rfl
  | buildSlice t n ps =>
    simp only
    split
    · split
      · split
        · split <;> rfl
        · rfl
      · rfl
    · rfl
  | makeSlice t l c =>
    simp only
    split
    · split
      · split
        · rw [Option.bind_assoc]; rfl
        · rfl
      · rfl
    · rfl
  | extract x i =>
    simp only
    split
    · split <;> rfl
    · rfl
  | call c =>
    simp only
    split
    · split
      · split
        · split <;> rfl
        · split <;> rfl
        · split <;> rfl
        · rfl
      · rfl
    · split
      · split <;> rfl
      · rfl
    · split
      · split <;> rfl
      · rfl
    · exact callQ_bind K
    · split
      · exact callQ_bind K
      · rfl
    · rfl
  | makeFunc fn first caps =>
    cases fn <;> simp only <;> first | rfl | (split <;> split <;> first | rfl | (split <;> rfl))
  | _ => rfl

/-- another state, alike but for the slots, what is used, and boxes -/
def St.with (st : St) (s : Nat → AV) (u : Nat → Bool) (bx : Nat → Option (TypeId × List AC)) (dd : Id → Bool) : St := { st with slot := s, used := u, box := bx, dead := dd }

theorem argParts_with (st : St) (s : Nat → AV) (u : Nat → Bool) (bx : Nat → Option (TypeId × List AC)) (dd : Id → Bool) : ∀ (ps : List PK) (avs : List AV), (∀ v ∈ avs, ∀ b ∈ ptrsOf v, bx b = st.box b) → argParts (st.with s u bx dd) ps avs = argParts st ps avs
  | [], [], _ => rfl
  | p :: ps, v :: vs, h => by
    simp only [argParts, argParts_with st s u bx dd ps vs (fun v hv => h v (List.mem_cons_of_mem _ hv))]
    have : argCells (st.with s u bx dd) p v = argCells st p v := by
      unfold argCells
      cases p with
      | val agg c => cases agg <;> cases v <;> rfl
      | lent agg c => cases agg <;> cases v <;> rfl
      | give agg c => cases agg <;> cases v <;> rfl
      | clo f fst t c =>
        cases v with
        | one x =>
          cases x with
          | fn g fst' caps =>
            match caps, h with
            | [(b, 0)], h => simp only [show (st.with s u bx dd).box b = st.box b from h (.one (.fn g fst' [(b, 0)])) (by simp) b (by simp [ptrsOf])]
            | [], _ => rfl
            | [(b, n + 1)], _ => rfl
            | (b, off) :: _ :: _, _ => cases off <;> rfl
          | _ => rfl
        | _ => rfl
      | box t c own rw =>
        cases v with
        | one x =>
          cases x with
          | ptr b off =>
            cases off with
            | zero => simp only [show (st.with s u bx dd).box b = st.box b from h (.one (.ptr b 0)) (by simp) b (by simp [ptrsOf])]; rfl
            | succ n => rfl
          | _ => rfl
        | _ => rfl
    rw [this]
  | [], _ :: _, _ => rfl
  | _ :: _, [], _ => rfl

theorem ids_one {st : St} {x : AC} {id : Id} (hi : id ∈ AC.ids [x]) : id ∈ idsOf st (.one x) := by
  cases x with
  | ptr b off => simp [AC.ids] at hi
  | fn f fst caps => simp [AC.ids] at hi
  | _ => exact hi

theorem mask_ids2 : ∀ (c : CK) (l : List AC), (∀ id ∈ AC.ids (c.mask l).1, id ∈ AC.ids l) ∧ ∀ id ∈ AC.ids (c.mask l).2, id ∈ AC.ids l
  | .unit, l => ⟨fun id h => by simp [CK.mask, AC.ids] at h, fun id h => h⟩
  | .pair a b, l => by
    obtain ⟨h1, h2⟩ := mask_ids2 a l
    obtain ⟨h3, h4⟩ := mask_ids2 b (a.mask l).2
    refine ⟨fun id h => ?_, fun id h => h2 id (h4 id h)⟩
    simp only [CK.mask, AC.ids_append, List.mem_append] at h
    exact h.elim (h1 id) fun h => h2 id (h3 id h)
  | .arr _ n, l => by
    have e : AC.ids l = AC.ids (l.take n) ++ AC.ids (l.drop n) := by rw [← AC.ids_append, List.take_append_drop]
    exact ⟨fun id h => by rw [e]; exact List.mem_append_left _ h, fun id h => by rw [e]; exact List.mem_append_right _ h⟩
  | .any, [] | .int _, [] | .bool, [] | .str, [] | .sl _ _, [] => ⟨fun id h => h, fun id h => h⟩
  | .any, x :: l => ⟨fun id h => by simp [CK.mask, AC.ids] at h, fun id h => by
      have : x :: l = [x] ++ l := rfl
      rw [this, AC.ids_append]; exact List.mem_append_right _ h⟩
  | .int _, x :: l | .bool, x :: l | .str, x :: l | .sl _ _, x :: l => by
    have : x :: l = [x] ++ l := rfl
    refine ⟨fun id h => ?_, fun id h => ?_⟩ <;> rw [this, AC.ids_append]
    · exact List.mem_append_left _ h
    · exact List.mem_append_right _ h

theorem mask_ids {c : CK} (l : List AC) {id : Id} (h : id ∈ AC.ids (c.mask l).1) : id ∈ AC.ids l := (mask_ids2 c l).1 id h

theorem argParts_ids (st : St) : ∀ {ps : List PK} {avs : List AV} {ls : List (List AC)}, argParts st ps avs = some ls → ∀ l ∈ ls, ∀ id ∈ AC.ids l, ∃ v ∈ avs, id ∈ idsOf st v
  | [], [], ls, h, l, hl, _, _ => by simp only [argParts, Option.some.injEq] at h; subst h; simp at hl
  | p :: ps, v :: vs, ls, h, l, hl, id, hi => by
    simp only [argParts] at h
    split at h <;> try cases h
    rename_i l1 lm h1 h2
    rcases List.mem_cons.1 hl with rfl | hl
    · refine ⟨v, by simp, ?_⟩
      unfold argCells at h1
      split at h1 <;> try cases h1
      · exact hi
      · exact ids_one hi
      · exact hi
      · exact ids_one hi
      · exact hi
      · exact ids_one hi
      · split at h1
        · rename_i t' l' hb
          split at h1
          · simp only [Option.some.injEq] at h1; subst h1
            simp only [idsOf, List.flatMap_cons, List.flatMap_nil, List.append_nil, hb]; exact mask_ids _ hi
          · cases h1
        · cases h1
      · split at h1
        · rename_i t' l' hb
          split at h1
          · simp only [Option.some.injEq] at h1; subst h1
            simp only [idsOf, hb]; exact hi
          · cases h1
        · cases h1
    · obtain ⟨w, hw, hh⟩ := argParts_ids st h2 l hl id hi
      exact ⟨w, List.mem_cons_of_mem _ hw, hh⟩
  | [], _ :: _, _, h, _, _, _, _ => by simp [argParts] at h
  | _ :: _, [], _, h, _, _, _, _ => by simp [argParts] at h

theorem mem_ownIds : ∀ {rs : List (CK × Bool)} {ls : List (List AC)} {id : Id}, id ∈ ownIds rs ls → ∃ l ∈ ls, id ∈ AC.ids l
  | r :: rs, l :: ls, id, h => by
    simp only [ownIds, List.mem_append] at h
    rcases h with h | h
    · split at h
      · exact ⟨l, by simp, h⟩
      · simp at h
    · obtain ⟨l', h1, h2⟩ := mem_ownIds h
      exact ⟨l', List.mem_cons_of_mem _ h1, h2⟩
  | [], _, _, h => by simp [ownIds] at h
  | _ :: _, [], _, h => by simp [ownIds] at h
theorem mem_roIds : ∀ {rs : List (CK × Bool)} {ls : List (List AC)} {id : Id}, id ∈ roIds rs ls → ∃ l ∈ ls, id ∈ AC.ids l
  | r :: rs, l :: ls, id, h => by
    simp only [roIds, List.mem_append] at h
    rcases h with h | h
    · split at h
      · simp at h
      · exact ⟨l, by simp, h⟩
    · obtain ⟨l', h1, h2⟩ := mem_roIds h
      exact ⟨l', List.mem_cons_of_mem _ h1, h2⟩
  | [], _, _, h => by simp [roIds] at h
  | _ :: _, [], _, h => by simp [roIds] at h

theorem all_congr2 {α : Type} {p q : α → Bool} : ∀ {l : List α}, (∀ x ∈ l, p x = q x) → l.all p = l.all q
  | [], _ => rfl
  | x :: l, h => by simp only [List.all_cons, h x (by simp), all_congr2 fun y hy => h y (List.mem_cons_of_mem _ hy)]

theorem partsOk_with {s : Nat → AV} {u : Nat → Bool} {bx : Nat → Option (TypeId × List AC)} {dd : Id → Bool} {rs : List (CK × Bool)} {ls : List (List AC)} (h : ∀ l ∈ ls, ∀ id ∈ AC.ids l, dd id = st.dead id) : partsOk (st.with s u bx dd) rs ls = partsOk st rs ls := by
  unfold partsOk
  have h1 : ls.all (st.with s u bx dd).fresh = ls.all st.fresh := all_congr2 fun l hl => all_congr2 fun id hi => by show (!dd id) = _; rw [h l hl id hi]
  have h2 : (ownIds rs ls).all (fun i => (st.with s u bx dd).rights i && !(roIds rs ls).contains i) = (ownIds rs ls).all (fun i => st.rights i && !(roIds rs ls).contains i) := all_congr2 fun id hi => by
    obtain ⟨l, hl, hi⟩ := mem_ownIds hi
    show ((!dd id && !st.ice id) && _) = ((!st.dead id && !st.ice id) && _)
    rw [h l hl id hi]
  rw [h1, h2]

theorem callQ_with {K : AV → Option R} {g : FuncId} {args : List AV} (s : Nat → AV) (u : Nat → Bool) (bx : Nat → Option (TypeId × List AC)) (dd : Id → Bool) (h : ∀ v ∈ args, ∀ b ∈ ptrsOf v, bx b = st.box b) (hd : ∀ v ∈ args, ∀ id ∈ idsOf st v, dd id = st.dead id) :
    callQ E key (st.with s u bx dd) g args K = callQ E key st g args K := by
  unfold callQ
  simp only [argParts_with st s u bx dd _ args h]
  cases hf : E.fns g with
  | none => rfl
  | some f =>
    simp only
    cases hls : argParts st f.sig.params args with
    | none => rfl
    | some ls =>
      simp only
      rw [partsOk_with fun l hl id hi => by
        obtain ⟨v, hv, hh⟩ := argParts_ids st hls l hl id hi
        exact hd v hv id hh]

theorem evalQ_with {K : AV → Option R} {s : Nat → AV} {u : Nat → Bool} {bx : Nat → Option (TypeId × List AC)} {dd : Id → Bool} (h : ∀ x ∈ o.op.operands, opnd (st.with s u bx dd) x = opnd st x)
    (hb : ∀ x ∈ o.op.operands, ∀ b ∈ ptrsOf (opnd st x), bx b = st.box b) (hd : ∀ x ∈ o.op.operands, ∀ id ∈ idsOf st (opnd st x), dd id = st.dead id) : evalQ E key o (st.with s u bx dd) K = evalQ E key o st K := by
  unfold evalQ
  generalize o.op = op at h hb hd
  cases op with
  | move x => simp only; rw [h x (by simp [Op.operands])]
  | assign x => simp only; rw [h x (by simp [Op.operands])]
  | pick c a b => simp only; rw [h c (by simp [Op.operands]), h a (by simp [Op.operands]), h b (by simp [Op.operands])]
  | nilCheck x => simp only; rw [h x (by simp [Op.operands])]
  | load t x =>
    simp only
    rw [h x (by simp [Op.operands])]
    cases hx : opnd st x with
    | one y =>
      cases y with
      | ptr b off => simp only [show (st.with s u bx dd).box b = st.box b from hb x (by simp [Op.operands]) b (by rw [hx]; simp [ptrsOf])]
      | _ => rfl
    | ep id e c xs i off src own =>
      cases own with
      | false => rfl
      | true => simp only [show (st.with s u bx dd).dead id = st.dead id from hd x (by simp [Op.operands]) id (by rw [hx]; simp [idsOf])]
    | pi b off n k j => simp only [show (st.with s u bx dd).box b = st.box b from hb x (by simp [Op.operands]) b (by rw [hx]; simp [ptrsOf])]
    | _ => rfl
  | fieldAddr s x f => simp only; rw [h x (by simp [Op.operands])]
  | field s x f => simp only; rw [h x (by simp [Op.operands])]
  | indexAddr t x i => simp only; rw [h x (by simp [Op.operands]), h i (by simp [Op.operands])]
  | index t x i => simp only; rw [h x (by simp [Op.operands]), h i (by simp [Op.operands])]
  | slice t x lo hi mx =>
    cases mx with
    | some _ => rfl
    | none =>
      have hb : ∀ d, boundOf (st.with s u bx dd) d lo = boundOf st d lo := fun d => by
        cases lo with
        | none => rfl
        | some y => simp only [boundOf]; rw [h y (by simp [Op.operands])]
      have hb' : ∀ d, boundOf (st.with s u bx dd) d hi = boundOf st d hi := fun d => by
        cases hi with
        | none => rfl
        | some y => simp only [boundOf]; rw [h y (by simp [Op.operands])]
      simp only [hb, hb']; rw [h x (by simp [Op.operands])]
  | binOp op t x y _ => simp only; rw [h x (by simp [Op.operands]), h y (by simp [Op.operands])]
  | unOp op t x => simp only; rw [h x (by simp [Op.operands])]
  | convert a d x =>
    simp only
    rw [h x (by simp [Op.operands])]
    have hd' := hd x (by simp [Op.operands])
    generalize opnd st x = y at hd'
    generalize E.P.underlying a = A
    generalize E.P.underlying d = D
    cases A with
    | none => rfl
    | some A =>
      cases D with
      | none => cases A <;> rfl
      | some D =>
        cases A with
        | slice e =>
          cases D with
          | string =>
            cases y with
            | one y =>
              cases y with
              | sl id own vw e c xs src =>
                have hb : (own && dd id) = (own && st.dead id) := by
                  cases own with
                  | false => rfl
                  | true => rw [hd' id (by simp [idsOf, AC.ids])]
                show (match E.P.underlying _ with | some (.int .u8) => (if (own && dd id) = true then none else _) | _ => none) = (match E.P.underlying _ with | some (.int .u8) => (if (own && st.dead id) = true then none else _) | _ => none)
                rw [hb]
              | _ => rfl
            | _ => rfl
          | _ => first | rfl | (cases y <;> first | rfl | (rename_i y; cases y <;> rfl))
        | _ => cases D <;> first | rfl | (cases y <;> first | rfl | (rename_i y; cases y <;> rfl))
  | build t ps =>
    have h1 : ps.all (fun p => (opnd (st.with s u bx dd) p.2).plain) = ps.all (fun p => (opnd st p.2).plain) := by
      rw [← Array.all_toList, ← Array.all_toList]
      exact all_congr' fun p hp => by rw [h p.2 (by simp [Op.operands]; exact ⟨p.1, by simpa using hp⟩)]
    have h2 : ps.toList.map (fun p => (p.1, (opnd (st.with s u bx dd) p.2).cells)) = ps.toList.map (fun p => (p.1, (opnd st p.2).cells)) :=
      List.map_congr_left fun p hp => by rw [h p.2 (by simp [Op.operands]; exact ⟨p.1, by simpa using hp⟩)]
    simp only [h1, h2]
  | buildSlice t n ps =>
    have h1 : ps.all (fun p => (opnd (st.with s u bx dd) p.2).plain) = ps.all (fun p => (opnd st p.2).plain) := by
      rw [← Array.all_toList, ← Array.all_toList]
      exact all_congr' fun p hp => by rw [h p.2 (by simp [Op.operands]; exact ⟨p.1, by simpa using hp⟩)]
    have h2 : ps.toList.map (fun p => (opnd (st.with s u bx dd) p.2).cells) = ps.toList.map (fun p => (opnd st p.2).cells) :=
      List.map_congr_left fun p hp => by rw [h p.2 (by simp [Op.operands]; exact ⟨p.1, by simpa using hp⟩)]
    simp only [h1, h2]
  | makeSlice t l c => simp only; rw [h l (by simp [Op.operands])]
  | extract x i => simp only; rw [h x (by simp [Op.operands])]
  | call c =>
    have h1 : c.args.toList.map (opnd (st.with s u bx dd)) = c.args.toList.map (opnd st) := List.map_congr_left fun x hx => h x (by simp [Op.operands, Call.operands]; right; simpa using hx)
    have h2 : ∀ x ∈ c.args.toList, opnd (st.with s u bx dd) x = opnd st x := fun x hx => h x (by simp [Op.operands, Call.operands]; right; simpa using hx)
    have h3 : ∀ v ∈ c.args.toList.map (opnd st), ∀ b ∈ ptrsOf v, bx b = st.box b := fun v hv b he => by
      obtain ⟨x, hx, rfl⟩ := List.mem_map.1 hv
      exact hb x (by simp [Op.operands, Call.operands]; right; simpa using hx) b he
    have h4 : ∀ v ∈ c.args.toList.map (opnd st), ∀ id ∈ idsOf st v, dd id = st.dead id := fun v hv id hi => by
      obtain ⟨x, hx, rfl⟩ := List.mem_map.1 hv
      exact hd x (by simp [Op.operands, Call.operands]; right; simpa using hx) id hi
    simp only [h1, callQ_with s u bx dd h3 h4]
    split
    · split
      · rename_i x t hx ht
        rw [h2 x (by rw [hx]; simp)]
      · rfl
    · split
      · rename_i x y hx
        rw [h2 x (by rw [hx]; simp), h2 y (by rw [hx]; simp)]
      · rfl
    · split
      · rename_i x y hx
        rw [h2 x (by rw [hx]; simp), h2 y (by rw [hx]; simp)]
      · rfl
    · rfl
    · rename_i t hc
      have ht : (st.with s u bx dd).slot t = st.slot t := h (.tmp t) (by simp [Op.operands, Call.operands, hc])
      rw [ht]
      split
      · rename_i g fst caps hs
        have hb5 := hb (.tmp t) (by simp [Op.operands, Call.operands, hc])
        have hd5 := hd (.tmp t) (by simp [Op.operands, Call.operands, hc])
        rw [show opnd st (.tmp t) = st.slot t from rfl, hs] at hb5 hd5
        have k3 : ∀ v ∈ caps.map (fun p => AV.one (.ptr p.1 p.2)), ∀ b ∈ ptrsOf v, bx b = st.box b := fun v hv b he => by
          obtain ⟨p, hp, rfl⟩ := List.mem_map.1 hv
          simp only [ptrsOf, List.mem_singleton] at he
          subst he
          exact hb5 p.1 (List.mem_map.2 ⟨p, hp, rfl⟩)
        have k4 : ∀ v ∈ caps.map (fun p => AV.one (.ptr p.1 p.2)), ∀ id ∈ idsOf st v, dd id = st.dead id := fun v hv id hi => by
          obtain ⟨p, hp, rfl⟩ := List.mem_map.1 hv
          exact hd5 id (by simp only [idsOf, List.mem_flatMap]; exact ⟨p, hp, hi⟩)
        refine callQ_with s u bx dd (fun v hv => ?_) (fun v hv => ?_)
        · cases fst <;> simp only [cond_true, cond_false, List.mem_append] at hv
          · exact hv.elim (h3 v) (k3 v)
          · exact hv.elim (k3 v) (h3 v)
        · cases fst <;> simp only [cond_true, cond_false, List.mem_append] at hv
          · exact hv.elim (h4 v) (k4 v)
          · exact hv.elim (k4 v) (h4 v)
      · rfl
    · rfl
  | makeFunc fn first caps =>
    have h1 : caps.toList.map (opnd (st.with s u bx dd)) = caps.toList.map (opnd st) := List.map_congr_left fun x hx => h x (by simp [Op.operands]; right; simpa using hx)
    have h2 : first.toList.map (opnd (st.with s u bx dd)) = first.toList.map (opnd st) := List.map_congr_left fun x hx => h x (by simp [Op.operands]; left; simpa using hx)
    cases fn <;> simp only [h1, h2]
  | _ => rfl
where
  all_congr' {α : Type} {p q : α → Bool} : ∀ {l : List α}, (∀ x ∈ l, p x = q x) → l.all p = l.all q
  | [], _ => rfl
  | x :: l, h => by simp only [List.all_cons, h x (by simp), all_congr' fun y hy => h y (List.mem_cons_of_mem _ hy)]
end
end Go.Proofs.Ytjokcjlpciecoaa.Rx
