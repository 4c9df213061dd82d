/- A part of the evaluator and its soundness: Draw. No condition beside those that each theorem states. -/
import Derived.Test.YtkjiojhkjpbokaaRxExec2
set_option linter.unusedSimpArgs false
set_option linter.unusedVariables false
namespace Go.Proofs.Ytkjiojhkjpbokaa.Rx

section
variable {E : Env} {st : St} {key : Nat} {o : Oper} {R : Type} {r : R}

theorem binI_bind {op : BinOp} {k : IntKind} {a b : Int} (K : AV → Option R) : binI op k a b K = (binI op k a b some).bind K := by
  unfold binI; cases op <;> simp <;> split <;> simp
theorem shiftI_bind {op : BinOp} {k : IntKind} {a b : Int} (K : AV → Option R) : shiftI op k a b K = (shiftI op k a b some).bind K := by
  unfold shiftI; cases op <;> simp <;> split <;> simp
theorem binS_bind {op : BinOp} {a b : ByteArray} (K : AV → Option R) : binS op a b K = (binS op a b some).bind K := by
  unfold binS; cases op <;> simp [Option.bind_assoc]
theorem callQ_bind {g : FuncId} {args : List AV} (K : AV → Option R) : callQ E key st g args K = (callQ E key st g args some).bind K := by
  unfold callQ
  cases E.fns g with
  | none => rfl
  | some f =>
    simp only
    split
    · cases argParts st f.sig.params args with
      | none => rfl
      | some ls =>
        simp only
        split
        · cases ofParts f.sig.ins ls with
          | none => rfl
          | some x => simp [Option.bind_assoc]
        · rfl
    · rfl

theorem evalQ_bind (K : AV → Option R) : evalQ E key o st K = (evalQ E key o st some).bind K := by
  unfold evalQ
  generalize o.op = op
  cases op with
  | move => rfl
  | assign => rfl
  | pick c a b =>
    simp only
    split
    · rename_i p _; cases p <;> rfl
    · rfl
  | nilCheck x => simp only; split <;> rfl
  | load t x =>
    simp only
    split
    · split
      · split
        · split <;> rfl
        · rfl
        · rfl
      · rfl
    · split
      · rfl
      · rw [Option.bind_assoc]
        congr 1; funext y
        split
        · split <;> rfl
        · rfl
        · rfl
    · rfl
  | fieldAddr s x f =>
    simp only
    split
    · split
      · rfl
      · split <;> rfl
    · rfl
  | field s x f =>
    simp only
    split
    · split <;> rfl
    · rfl
  | indexAddr t x i =>
    simp only
    split
    · split
      · rw [Option.bind_assoc]; rfl
      · rfl
    · rfl
  | index t x i =>
    simp only
    split
    · split
      · rw [Option.bind_assoc]; rfl
      · rfl
    · rfl
  | slice t x lo hi mx =>
    cases mx with
    | some _ => rfl
    | none =>
      simp only
      split
      · split
        · split
          · rw [Option.bind_assoc]; rfl
          · rfl
        · rfl
      · split
        · split
          · rw [Option.bind_assoc]; rfl
          · rfl
        · rfl
      · rfl
  | binOp op t x y _ =>
    simp only
    split
    · split
      · exact shiftI_bind K
      · split
        · exact binI_bind K
        · rfl
    · exact binS_bind K
    · split
      · cases op <;> rfl
      · rfl
    · split
      · split <;> rfl
      · rfl
    · rfl
  | unOp op t x => simp only; split <;> rfl
  | convert s d x =>
    simp only
    split
    · rfl
    · rfl
    · split
      · split
        · rfl
        · split
          · split <;> rfl
          · rfl
      · rfl
    · split <;> rfl
    · rfl
  | build t ps =>
    simp only
    split
    · split
      · split <;> rfl
      · rfl
    · rfl
  | buildSlice t n ps =>
    simp only
    split
    · split
      · split
        · split <;> rfl
        · rfl
      · rfl
    · rfl
  | makeSlice t l c =>
    simp only
    split
    · split
      · split
        · rw [Option.bind_assoc]; rfl
        · rfl
      · rfl
    · rfl
  | extract x i =>
    simp only
    split
    · split <;> rfl
    · rfl
  | call c =>
    simp only
    split
    · split
      · split
        · split <;> rfl
        · split <;> rfl
        · split <;> rfl
        · rfl
      · rfl
    · split
      · split <;> rfl
      · rfl
    · split
      · split <;> rfl
      · rfl
    · exact callQ_bind K
    · rfl
  | _ => rfl

/-- another state, alike but for the slots, what is used, and boxes -/
def St.with (st : St) (s : Nat → AV) (u : Nat → Bool) (bx : Nat → Option (TypeId × List AC)) : St := { st with slot := s, used := u, box := bx }

theorem argParts_with (st : St) (s : Nat → AV) (u : Nat → Bool) (bx : Nat → Option (TypeId × List AC)) : ∀ (ps : List PK) (avs : List AV), (∀ v ∈ avs, ∀ b off, v = .one (.ptr b off) → bx b = st.box b) → argParts (st.with s u bx) ps avs = argParts st ps avs
  | [], [], _ => rfl
  | p :: ps, v :: vs, h => by
    simp only [argParts, argParts_with st s u bx ps vs fun v hv => h v (List.mem_cons_of_mem _ hv)]
    have : argCells (st.with s u bx) p v = argCells st p v := by
      unfold argCells
      cases p with
      | val agg c => cases agg <;> cases v <;> rfl
      | lent agg c => cases agg <;> cases v <;> rfl
      | box t c own rw =>
        cases v with
        | one x =>
          cases x with
          | ptr b off =>
            cases off with
            | zero => simp only [show (st.with s u bx).box b = st.box b from h _ (by simp) b 0 rfl]; rfl
            | succ n => rfl
          | _ => rfl
        | _ => rfl
    rw [this]
  | [], _ :: _, _ => rfl
  | _ :: _, [], _ => rfl

theorem callQ_with {K : AV → Option R} {g : FuncId} {args : List AV} (s : Nat → AV) (u : Nat → Bool) (bx : Nat → Option (TypeId × List AC)) (h : ∀ v ∈ args, ∀ b off, v = .one (.ptr b off) → bx b = st.box b) :
    callQ E key (st.with s u bx) g args K = callQ E key st g args K := by
  unfold callQ
  simp only [argParts_with st s u bx _ args h]
  rfl

theorem evalQ_with {K : AV → Option R} {s : Nat → AV} {u : Nat → Bool} {bx : Nat → Option (TypeId × List AC)} (h : ∀ x ∈ o.op.operands, opnd (st.with s u bx) x = opnd st x)
    (hb : ∀ x ∈ o.op.operands, ∀ b off, opnd st x = .one (.ptr b off) → bx b = st.box b) : evalQ E key o (st.with s u bx) K = evalQ E key o st K := by
  unfold evalQ
  generalize o.op = op at h hb
  cases op with
  | move x => simp only; rw [h x (by simp [Op.operands])]
  | assign x => simp only; rw [h x (by simp [Op.operands])]
  | pick c a b => simp only; rw [h c (by simp [Op.operands]), h a (by simp [Op.operands]), h b (by simp [Op.operands])]
  | nilCheck x => simp only; rw [h x (by simp [Op.operands])]
  | load t x =>
    simp only
    rw [h x (by simp [Op.operands])]
    cases hx : opnd st x with
    | one y =>
      cases y with
      | ptr b off => simp only [show (st.with s u bx).box b = st.box b from hb x (by simp [Op.operands]) b off hx]
      | _ => rfl
    | _ => rfl
  | fieldAddr s x f => simp only; rw [h x (by simp [Op.operands])]
  | field s x f => simp only; rw [h x (by simp [Op.operands])]
  | indexAddr t x i => simp only; rw [h x (by simp [Op.operands]), h i (by simp [Op.operands])]
  | index t x i => simp only; rw [h x (by simp [Op.operands]), h i (by simp [Op.operands])]
  | slice t x lo hi mx =>
    cases mx with
    | some _ => rfl
    | none =>
      have hb : ∀ d, boundOf (st.with s u bx) d lo = boundOf st d lo := fun d => by
        cases lo with
        | none => rfl
        | some y => simp only [boundOf]; rw [h y (by simp [Op.operands])]
      have hb' : ∀ d, boundOf (st.with s u bx) d hi = boundOf st d hi := fun d => by
        cases hi with
        | none => rfl
        | some y => simp only [boundOf]; rw [h y (by simp [Op.operands])]
      simp only [hb, hb']; rw [h x (by simp [Op.operands])]
  | binOp op t x y _ => simp only; rw [h x (by simp [Op.operands]), h y (by simp [Op.operands])]
  | unOp op t x => simp only; rw [h x (by simp [Op.operands])]
  | convert a d x => simp only; rw [h x (by simp [Op.operands])]; rfl
  | build t ps =>
    have h1 : ps.all (fun p => (opnd (st.with s u bx) p.2).plain) = ps.all (fun p => (opnd st p.2).plain) := by
      rw [← Array.all_toList, ← Array.all_toList]
      exact all_congr' fun p hp => by rw [h p.2 (by simp [Op.operands]; exact ⟨p.1, by simpa using hp⟩)]
    have h2 : ps.toList.map (fun p => (p.1, (opnd (st.with s u bx) p.2).cells)) = ps.toList.map (fun p => (p.1, (opnd st p.2).cells)) :=
      List.map_congr_left fun p hp => by rw [h p.2 (by simp [Op.operands]; exact ⟨p.1, by simpa using hp⟩)]
    simp only [h1, h2]
  | buildSlice t n ps =>
    have h1 : ps.all (fun p => (opnd (st.with s u bx) p.2).plain) = ps.all (fun p => (opnd st p.2).plain) := by
      rw [← Array.all_toList, ← Array.all_toList]
      exact all_congr' fun p hp => by rw [h p.2 (by simp [Op.operands]; exact ⟨p.1, by simpa using hp⟩)]
    have h2 : ps.toList.map (fun p => (opnd (st.with s u bx) p.2).cells) = ps.toList.map (fun p => (opnd st p.2).cells) :=
      List.map_congr_left fun p hp => by rw [h p.2 (by simp [Op.operands]; exact ⟨p.1, by simpa using hp⟩)]
    simp only [h1, h2]
  | makeSlice t l c => simp only; rw [h l (by simp [Op.operands])]
  | extract x i => simp only; rw [h x (by simp [Op.operands])]
  | call c =>
    have h1 : c.args.toList.map (opnd (st.with s u bx)) = c.args.toList.map (opnd st) := List.map_congr_left fun x hx => h x (by simp [Op.operands, Call.operands]; right; simpa using hx)
    have h2 : ∀ x ∈ c.args.toList, opnd (st.with s u bx) x = opnd st x := fun x hx => h x (by simp [Op.operands, Call.operands]; right; simpa using hx)
    have h3 : ∀ v ∈ c.args.toList.map (opnd st), ∀ b off, v = .one (.ptr b off) → bx b = st.box b := fun v hv b off he => by
      obtain ⟨x, hx, rfl⟩ := List.mem_map.1 hv
      exact hb x (by simp [Op.operands, Call.operands]; right; simpa using hx) b off he
    simp only [h1, callQ_with s u bx h3]
    split
    · split
      · rename_i x t hx ht
        rw [h2 x (by rw [hx]; simp)]
      · rfl
    · split
      · rename_i x y hx
        rw [h2 x (by rw [hx]; simp), h2 y (by rw [hx]; simp)]
      · rfl
    · split
      · rename_i x y hx
        rw [h2 x (by rw [hx]; simp), h2 y (by rw [hx]; simp)]
      · rfl
    · rfl
    · rfl
  | _ => rfl
where
  all_congr' {α : Type} {p q : α → Bool} : ∀ {l : List α}, (∀ x ∈ l, p x = q x) → l.all p = l.all q
  | [], _ => rfl
  | x :: l, h => by simp only [List.all_cons, h x (by simp), all_congr' fun y hy => h y (List.mem_cons_of_mem _ hy)]
end
end Go.Proofs.Ytkjiojhkjpbokaa.Rx
