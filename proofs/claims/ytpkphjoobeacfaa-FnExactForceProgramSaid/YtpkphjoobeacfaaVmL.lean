/- Regions that draw their order: quiet operations are taken first, the others in every order that is left. -/
import Derived.Test.YtpkphjoobeacfaaVmK
import Derived.Still
namespace Go.Proofs.Ytpkphjoobeacfaa.Vm
open Go Go.RowKit
set_option linter.unusedSimpArgs false
set_option linter.unusedVariables false

section
variable {P : Program} {ops : Array Oper} {w0 : World} {M F : Nat → Prop} {a : Act} {w : World}

def St.withBl (σ : St) (bl : Int → Option Blk) : St := { σ with bl := bl }
/-- The blocks that quiet operations may read: nothing in the region writes them. -/
def kept (keep : List Int) (bl : Int → Option Blk) : Int → Option Blk := fun g => if keep.contains g then bl g else none
def Agree (keep : List Int) (bl bl' : Int → Option Blk) : Prop := ∀ g, keep.contains g = true → bl' g = bl g

def quietOp : Op → Bool
  | .move _ | .assign _ | .pick .. | .load .. | .nilCheck _ | .binOp .. | .unOp .. | .convert .. | .makeFunc .. | .slice .. | .fieldAddr .. | .field .. | .indexAddr .. | .index .. | .extract .. | .build .. => true
  | .call { callee := .builtin .len, .. } => true
  | _ => false

/-- An operation yields this value, whatever the blocks that it may not read. -/
def SV (P : Program) (blK : Int → Option Blk) (o : Oper) (σ : St) (v : V) : Prop :=
  (quietOp o.op = true ∧ T P o (fun σ' => σ' = (σ.withBl blK).put o.dst v) (σ.withBl blK)) ∨
  (∃ c f p n ys, o.op = .call c ∧ c.callee = .value f ∧ callV σ f c.args.toList = some p ∧ ((frzL blK n p.2 = some ys ∧ RO P p.1 ys v ∧ v.sc = true) ∨ RO P p.1 p.2 v))

theorem withBl_ev (σ : St) (bl : Int → Option Blk) (x : Operand) : (σ.withBl bl).ev x = σ.ev x := by cases x <;> rfl

theorem rdP_mono {bl bl' : Int → Option Blk} (h : Sub bl bl') {x : V} {cs : List V} (hx : rdP bl x = some cs) : rdP bl' x = some cs := by
  cases x <;> simp only [rdP] at hx ⊢ <;> try exact hx
  split at hx
  · rename_i b hb; rw [h _ b hb]; exact hx
  · cases hx

theorem elsV_mono {bl bl' : Int → Option Blk} (h : Sub bl bl') {sz : Nat} {x : V} {els : List (List V)} (hx : elsV bl sz x = some els) : elsV bl' sz x = some els := by
  cases x <;> simp only [elsV] at hx ⊢ <;> try exact hx
  split at hx
  · rename_i hg; rw [if_pos hg]; exact hx
  · rename_i hg
    rw [if_neg hg]
    split at hx
    · rename_i b hb; rw [h _ b hb]; exact hx
    · cases hx
theorem cvtV_mono {bl bl' : Int → Option Blk} (h : Sub bl bl') {P : Program} {s d : TypeId} {x v : V} (hx : cvtV P bl s d x = some v) : cvtV P bl' s d x = some v := by
  have key : cvtS P bl s d x = some v → cvtS P bl' s d x = some v := by
    intro hx
    unfold cvtS at hx ⊢
    split at hx
    · split at hx
      · rename_i e he hd els hu hels
        rw [hu, elsV_mono h hels]; exact hx
      · cases hx
    · cases hx
  cases x <;> first | exact key hx | exact hx

theorem frz_mono {bl bl' : Int → Option Blk} (h : Sub bl bl') (n : Nat) : ∀ {x y : V}, frz bl n x = some y → frz bl' n x = some y := by
  induction n with
  | zero => intro x y hx; cases x <;> simp only [frz] at hx ⊢ <;> exact hx
  | succ n ih =>
    have hm : ∀ {cs ds : List V}, cs.mapM (frz bl n) = some ds → cs.mapM (frz bl' n) = some ds := by
      intro cs
      induction cs with
      | nil => intro ds h; exact h
      | cons c cs ihc =>
        intro ds h
        rw [List.mapM_cons] at h ⊢
        cases hc : frz bl n c with
        | none => rw [hc] at h; cases h
        | some d =>
          rw [hc] at h; rw [ih hc]
          cases hcs : cs.mapM (frz bl n) with
          | none => rw [hcs] at h; cases h
          | some ds' => rw [hcs] at h; rw [ihc hcs]; exact h
    have hmm : ∀ {cs ds : List (List V)}, cs.mapM (fun e : List V => e.mapM (frz bl n)) = some ds → cs.mapM (fun e : List V => e.mapM (frz bl' n)) = some ds := by
      intro cs
      induction cs with
      | nil => intro ds h; exact h
      | cons c cs ihc =>
        intro ds h
        rw [List.mapM_cons] at h ⊢
        cases hc : c.mapM (frz bl n) with
        | none => rw [hc] at h; cases h
        | some d =>
          rw [hc] at h; rw [hm hc]
          cases hcs : cs.mapM (fun e : List V => e.mapM (frz bl n)) with
          | none => rw [hcs] at h; cases h
          | some ds' => rw [hcs] at h; rw [ihc hcs]; exact h
    have wrap : ∀ (cs : List V) (k : List V → V) (y : V), (if cs.all V.cl then some (k cs) else (cs.mapM (frz bl n)).map k) = some y → (if cs.all V.cl then some (k cs) else (cs.mapM (frz bl' n)).map k) = some y := by
      intro cs k y h
      split at h
      · rename_i hc; rw [if_pos hc]; exact h
      · rename_i hc
        rw [if_neg hc]
        cases hcs : cs.mapM (frz bl n) with
        | none => rw [hcs] at h; cases h
        | some ds => rw [hcs] at h; rw [hm hcs]; exact h
    intro x y hx
    cases x <;> simp only [frz] at hx ⊢ <;> try exact hx
    case loc g sz k j =>
      split at hx
      · rename_i b hb
        rw [h _ b hb]
        simp only
        split at hx
        · rename_i hsz
          rw [if_pos hsz]
          split at hx
          · rename_i e he
            exact wrap _ V.ptr y hx
          · cases hx
        · cases hx
      · cases hx
    case lsl g sz o m =>
      split at hx
      · rename_i hg; rw [if_pos hg]; exact hx
      · rename_i hg
        rw [if_neg hg]
        split at hx
        · rename_i b hb
          rw [h _ b hb]
          simp only
          split at hx
          · rename_i hc
            rw [if_pos hc]
            split at hx
            · rename_i hc2; rw [if_pos hc2]; exact hx
            · rename_i hc2
              rw [if_neg hc2]
              cases hcs : ((b.els.drop o).take m).mapM (fun e : List V => e.mapM (frz bl n)) with
              | none => rw [hcs] at hx; cases hx
              | some ds => rw [hcs] at hx; rw [hmm hcs]; exact hx
          · cases hx
        · cases hx
    case agg cs => exact wrap _ V.agg y hx
    case tup cs => exact wrap _ V.tup y hx
    case fn f cs => exact wrap _ (V.fn f) y hx

theorem frzL_mono {bl bl' : Int → Option Blk} (h : Sub bl bl') {n : Nat} : ∀ {xs ys : List V}, frzL bl n xs = some ys → frzL bl' n xs = some ys
  | [], ys, hx => hx
  | x :: xs, ys, hx => by
    simp only [frzL] at hx ⊢
    split at hx
    · rename_i y' ys' h1 h2
      rw [frz_mono h n h1, frzL_mono h h2]; exact hx
    · cases hx

theorem callP_eq {f : FuncId} {xs ys : List V} {bl : Int → Option Blk} {r : V} {k : V → (Int → Option Blk) → Prop} {n : Nat} (hx : frzL bl n xs = some ys) (h : RO P f ys r) (hr : r.sc = true) (hk : k r bl) : CallP P f xs bl k := callP_borrow n hx h hr hk

/-- A quiet operation in a state that has the blocks. -/
theorem SV.T {blK : Int → Option Blk} {o : Oper} {σ : St} {v : V} (h : SV P blK o σ v) (hs : Sub blK σ.bl) {K : St → Prop} (hK : K (σ.put o.dst v)) : T P o K σ := by
  have fin : ∀ {v' : V}, (σ.withBl blK).put o.dst v' = (σ.withBl blK).put o.dst v → K (σ.put o.dst v') := by
    intro v' h
    have : σ.put o.dst v' = σ.put o.dst v := by
      cases hd : o.dst with
      | none => rfl
      | some d =>
        rw [hd] at h
        have h2 : upd σ.sl d v' = upd σ.sl d v := congrArg St.sl h
        show ({ σ with sl := upd σ.sl d v' } : St) = { σ with sl := upd σ.sl d v }
        rw [h2]
    rw [this]; exact hK
  rcases h with ⟨hq, hT⟩ | ⟨c, f, p, n, ys, ho, hc, hp, hro⟩
  · unfold Vm.T at hT ⊢
    cases ho : o.op <;> rw [ho] at hT hq <;> simp only [withBl_ev] at hT ⊢ <;> try (simp [quietOp] at hq; done)
    case move x => exact fin hT
    case assign x => exact fin hT
    case pick c x y => obtain ⟨q, hq, h1⟩ := onB_some hT; rw [hq]; simp only [onB_bool]; exact fin h1
    case build t ps => obtain ⟨cs, h1, h2, r, h3, h4⟩ := hT; exact ⟨cs, h1, h2, r, h3, fin h4⟩
    case load t x => obtain ⟨cs, h1, u, h2, h3⟩ := hT; exact ⟨cs, rdP_mono hs h1, u, h2, fin h3⟩
    case nilCheck x => obtain ⟨u, h1, h2⟩ := hT; exact ⟨u, h1, fin h2⟩
    case binOp => obtain ⟨u, h1, h2⟩ := hT; exact ⟨u, h1, fin h2⟩
    case unOp => obtain ⟨u, h1, h2⟩ := hT; exact ⟨u, h1, fin h2⟩
    case convert => obtain ⟨u, h1, h2⟩ := hT; exact ⟨u, cvtV_mono hs h1, fin h2⟩
    case makeFunc f first cap =>
      cases f <;> simp only at hT ⊢ <;> try exact hT.elim
      obtain ⟨h1, h2⟩ := hT
      have : (cap.toList.map (σ.withBl blK).ev) = cap.toList.map σ.ev := List.map_congr_left fun x _ => withBl_ev _ _ x
      rw [this] at h2
      exact ⟨h1, fin h2⟩
    case slice t x lo hi mx =>
      cases mx <;> simp only at hT ⊢
      obtain ⟨u, h1, h2⟩ := hT
      have e1 : lo.map (σ.withBl blK).ev = lo.map σ.ev := by cases lo <;> simp [withBl_ev]
      have e2 : hi.map (σ.withBl blK).ev = hi.map σ.ev := by cases hi <;> simp [withBl_ev]
      rw [e1, e2] at h1
      exact ⟨u, h1, fin h2⟩
    case fieldAddr => obtain ⟨u, h1, h2⟩ := hT; exact ⟨u, h1, fin h2⟩
    case field => obtain ⟨u, h1, h2⟩ := hT; exact ⟨u, h1, fin h2⟩
    case indexAddr => obtain ⟨u, h1, h2⟩ := hT; exact ⟨u, h1, fin h2⟩
    case index => obtain ⟨u, h1, h2⟩ := hT; exact ⟨u, h1, fin h2⟩
    case extract => obtain ⟨u, h1, h2⟩ := hT; exact ⟨u, h1, fin h2⟩
    case call c =>
      obtain ⟨cal, args, ats⟩ := c
      cases cal with
      | value f => simp [quietOp] at hq
      | invoke r m => simp [quietOp] at hq
      | builtin b =>
        cases b <;> try (simp [quietOp] at hq; done)
        simp only at hT ⊢
        obtain ⟨u, h1, h2, h3, h4⟩ := hT
        exact ⟨u, h1, h2, h3, fin h4⟩
  · unfold Vm.T
    rw [ho]
    simp only [hc]
    rcases hro with ⟨hf, hr, hsc⟩ | hr
    · exact ⟨p, hp, callP_borrow n (frzL_mono hs hf) hr hsc hK⟩
    · exact ⟨p, hp, callP_ro hr hK⟩

/-- The transformer looks at its operands and the blocks alone. -/
theorem T_via {o : Oper} {K K' : St → Prop} {σ σ' : St} (h : T P o K σ) (hev : ∀ x ∈ o.op.operands, σ'.ev x = σ.ev x) (hbl : σ'.bl = σ.bl)
    (hk : ∀ bl' u, K (({ σ with bl := bl' } : St).put o.dst u) → K' (({ σ' with bl := bl' } : St).put o.dst u)) : T P o K' σ' := by
  have hk0 : ∀ u, K (σ.put o.dst u) → K' (σ'.put o.dst u) := fun u hu => by
    have := hk σ.bl u hu
    rw [← hbl] at this
    exact this
  unfold T at h ⊢
  cases ho : o.op <;> rw [ho] at h hev <;> simp only [Op.operands] at h hev ⊢ <;> try exact h.elim
  case move x => rw [hev x (by simp)]; exact hk0 _ h
  case assign x => rw [hev x (by simp)]; exact hk0 _ h
  case pick c x y =>
    obtain ⟨q, hq, hK⟩ := onB_some h
    rw [hev c (by simp), hev x (by simp), hev y (by simp), hq]; exact hk0 _ hK
  case alloc t => obtain ⟨cs, h1, h2⟩ := h; exact ⟨cs, h1, fun g h0 hg => by rw [hbl] at hg ⊢; exact hk _ _ (h2 g h0 hg)⟩
  case box t x => rw [hev x (by simp)]; exact ⟨h.1, fun g h0 hg => by rw [hbl] at hg ⊢; exact hk _ _ (h.2 g h0 hg)⟩
  case build t ps =>
    obtain ⟨cs, h1, h2, r, h3, h4⟩ := h
    have : (ps.toList.map fun p => (p.1, σ'.ev p.2)) = ps.toList.map fun p => (p.1, σ.ev p.2) := List.map_congr_left fun p hp => by rw [hev p.2 (by simp; exact ⟨p.1, by simpa using hp⟩)]
    rw [this]
    exact ⟨cs, h1, h2, r, h3, hk0 _ h4⟩
  case buildSlice t n ps =>
    obtain ⟨e, h1, cs, h2, h3, h4, r, h5, h6⟩ := h
    have : (ps.toList.map fun p => (p.1, σ'.ev p.2)) = ps.toList.map fun p => (p.1, σ.ev p.2) := List.map_congr_left fun p hp => by rw [hev p.2 (by simp; exact ⟨p.1, by simpa using hp⟩)]
    rw [this]
    exact ⟨e, h1, cs, h2, h3, h4, r, h5, fun g h0 hg => by rw [hbl] at hg ⊢; exact hk _ _ (h6 g h0 hg)⟩
  case load t x => obtain ⟨cs, h1, v, h2, h3⟩ := h; rw [hev x (by simp), hbl]; exact ⟨cs, h1, v, h2, hk0 _ h3⟩
  case store t x y =>
    rw [hev x (by simp), hev y (by simp), hbl]
    split at h
    · obtain ⟨b, h1, e, h2, h3, h4, h5, h6, h7⟩ := h
      exact ⟨b, h1, e, h2, h3, h4, h5, h6, hk _ _ h7⟩
    · exact h.elim
  case nilCheck x => obtain ⟨v, h1, h2⟩ := h; rw [hev x (by simp)]; exact ⟨v, h1, hk0 _ h2⟩
  case binOp op t x y t' => obtain ⟨v, h1, h2⟩ := h; rw [hev x (by simp), hev y (by simp)]; exact ⟨v, h1, hk0 _ h2⟩
  case unOp u t x => obtain ⟨v, h1, h2⟩ := h; rw [hev x (by simp)]; exact ⟨v, h1, hk0 _ h2⟩
  case convert s d x => obtain ⟨v, h1, h2⟩ := h; rw [hev x (by simp), hbl]; exact ⟨v, h1, hk0 _ h2⟩
  case makeFunc f first cap =>
    cases f <;> simp only at h ⊢ <;> try exact h.elim
    have : cap.toList.map σ'.ev = cap.toList.map σ.ev := List.map_congr_left fun x hx => hev x (by simp at hx ⊢; exact .inr hx)
    rw [this]
    exact ⟨h.1, hk0 _ h.2⟩
  case makeSlice t l c =>
    obtain ⟨e, h1, cs, h2, n, h3, h4, h5, h6, h7⟩ := h
    rw [hev l (by simp), hev c (by simp)]
    exact ⟨e, h1, cs, h2, n, h3, h4, h5, h6, fun g h0 hg => by rw [hbl] at hg ⊢; exact hk _ _ (h7 g h0 hg)⟩
  case slice t x lo hi mx =>
    cases mx <;> simp only at h ⊢
    obtain ⟨v, h1, h2⟩ := h
    have e1 : lo.map σ'.ev = lo.map σ.ev := by
      cases lo with
      | none => rfl
      | some l => simp only [Option.map_some]; rw [hev l (by simp)]
    have e2 : hi.map σ'.ev = hi.map σ.ev := by
      cases hi with
      | none => rfl
      | some l => simp only [Option.map_some]; rw [hev l (by cases lo <;> simp)]
    rw [hev x (by simp), e1, e2]
    exact ⟨v, h1, hk0 _ h2⟩
  case fieldAddr t x i => obtain ⟨v, h1, h2⟩ := h; rw [hev x (by simp)]; exact ⟨v, h1, hk0 _ h2⟩
  case field t x i => obtain ⟨v, h1, h2⟩ := h; rw [hev x (by simp)]; exact ⟨v, h1, hk0 _ h2⟩
  case indexAddr t x i => obtain ⟨v, h1, h2⟩ := h; rw [hev x (by simp), hev i (by simp)]; exact ⟨v, h1, hk0 _ h2⟩
  case index t x i => obtain ⟨v, h1, h2⟩ := h; rw [hev x (by simp), hev i (by simp)]; exact ⟨v, h1, hk0 _ h2⟩
  case extract x i => obtain ⟨v, h1, h2⟩ := h; rw [hev x (by simp)]; exact ⟨v, h1, hk0 _ h2⟩
  case call c =>
    obtain ⟨cal, args, ats⟩ := c
    have harg : ∀ i, σ'.ev (args.getD i (.const undef)) = σ.ev (args.getD i (.const undef)) := by
      intro i
      rcases Nat.lt_or_ge i args.size with hi | hi
      · exact hev _ (by
          have hmem : args.getD i (.const undef) ∈ args := by simp [Array.getD_eq_getD_getElem?, hi]
          unfold Call.operands
          cases cal <;> simp only [Array.mem_append, Array.mem_push] <;> first | exact hmem | exact .inr hmem | exact .inl hmem)
      · have : args.getD i (.const undef) = .const undef := by simp [Array.getD_eq_getD_getElem?, hi]
        rw [this]; rfl
    cases cal with
    | value f =>
      simp only [Call.operands] at h hev ⊢
      obtain ⟨p, h1, h2⟩ := h
      have e1 : callV σ' f args.toList = callV σ f args.toList := by
        unfold callV
        rw [hev f (by simp)]
        have : args.toList.map σ'.ev = args.toList.map σ.ev := List.map_congr_left fun x hx => hev x (by simp at hx ⊢; simp [hx])
        rw [this]
      rw [e1, hbl]
      exact ⟨p, h1, h2.mono fun v b hb => hk _ _ hb⟩
    | invoke r m => exact h.elim
    | builtin b =>
      cases b <;> simp only at h ⊢ <;> try exact h.elim
      case len => obtain ⟨v, h1, h2, h3, h4⟩ := h; rw [harg 0]; exact ⟨v, h1, h2, h3, hk0 _ h4⟩
      case append =>
        obtain ⟨p, h1, h2, h3, h4, h5⟩ := h
        rw [harg 0, harg 1, hbl]
        exact ⟨p, h1, h2, h3, h4, fun g h0 hg => hk _ _ (h5 g h0 hg)⟩

theorem put_ev {σ : St} {d : Option Nat} {u : V} {x : Operand} (h : ∀ t, d = some t → x ≠ .tmp t) : (σ.put d u).ev x = σ.ev x := by
  cases d with
  | none => rfl
  | some d =>
    cases x with
    | tmp t =>
      show (if t < σ.n then upd σ.sl d u t else _) = if t < σ.n then σ.sl t else _
      rw [upd_ne _ _ _ _ (fun e => h d rfl (by rw [e]))]
    | _ => rfl

theorem put_comm (σ : St) (bl : Int → Option Blk) {d e : Option Nat} (u v : V) (h : ∀ t, d = some t → e ≠ some t) : (({ σ.put d u with bl := bl } : St).put e v) = (({ σ with bl := bl } : St).put e v).put d u := by
  cases d with
  | none => rfl
  | some d =>
    cases e with
    | none => rfl
    | some e =>
      have hne : d ≠ e := fun hh => h d rfl (by rw [hh])
      show ({ n := σ.n, sl := upd (upd σ.sl d u) e v, bl := bl } : St) = { n := σ.n, sl := upd (upd σ.sl e v) d u, bl := bl }
      congr 1
      funext x
      simp only [upd_apply]
      by_cases h1 : x = e <;> by_cases h2 : x = d <;> simp_all

theorem looks_op {o : Oper} {d : Option Nat} (h : ∀ t, d = some t → t ∉ o.looksAt ops) : ∀ x ∈ o.op.operands, ∀ t, d = some t → x ≠ .tmp t := fun x hx t ht he => h t ht (by
  subst he
  exact List.mem_append_left _ (List.mem_filterMap.2 ⟨.tmp t, by simpa using hx, rfl⟩))

theorem T_put {o : Oper} {K : St → Prop} {σ : St} {d : Option Nat} {u : V} (hl : ∀ t, d = some t → t ∉ o.looksAt ops) (hd : ∀ t, d = some t → o.dst ≠ some t) (h : T P o K (σ.put d u)) : T P o (fun σ' => K (σ'.put d u)) σ := by
  refine T_via h (fun x hx => (put_ev (looks_op hl x hx)).symm) (by cases d <;> rfl) fun bl' v hk => ?_
  rwa [put_comm _ _ _ _ hd] at hk

/-- Reading other slots alone. -/
theorem SV.same {blK : Int → Option Blk} {o : Oper} {σ σ' : St} {v : V} (h : SV P blK o σ v) (hev : ∀ x ∈ o.op.operands, σ'.ev x = σ.ev x) : SV P blK o σ' v := by
  rcases h with ⟨hq, hT⟩ | ⟨c, f, p, n, ys, ho, hc, hp, hro⟩
  · refine .inl ⟨hq, T_via hT (fun x hx => by rw [withBl_ev, withBl_ev]; exact hev x hx) rfl fun bl' u hk => ?_⟩
    cases hd : o.dst with
    | none =>
      rw [hd] at hk
      have h2 : bl' = blK := congrArg St.bl hk
      subst h2; rfl
    | some d =>
      rw [hd] at hk
      have h2 : bl' = blK := congrArg St.bl hk
      have h3 : upd σ.sl d u = upd σ.sl d v := congrArg St.sl hk
      have h4 : u = v := by have := congrFun h3 d; rwa [upd_same, upd_same] at this
      subst h2 h4; rfl
  · refine .inr ⟨c, f, p, n, ys, ho, hc, ?_, hro⟩
    rw [ho] at hev
    obtain ⟨cal, args, ats⟩ := c
    simp only at hc
    subst hc
    simp only [Op.operands, Call.operands] at hev
    unfold callV at hp ⊢
    rw [hev f (by simp)]
    have : args.toList.map σ'.ev = args.toList.map σ.ev := List.map_congr_left fun x hx => hev x (by simp at hx ⊢; simp [hx])
    simp only at hp ⊢
    rw [this]; exact hp

/-- One operation of a region comes up. -/
def D1 (P : Program) (ops : Array Oper) (i : Nat) (K : St → Prop) (σ : St) : Prop := match ops[i]? with
  | none => K σ
  | some o => match o.guard with
    | none => T P o K σ
    | some (j, b) => match (ops[j]?).bind (·.dst) with
      | some d => onG (σ.ev (.tmp d)) (K (σ.put o.dst (.tup []))) fun q => (q = b → T P o K σ) ∧ (q = (!b) → K (σ.put o.dst (.tup [])))
      | none => False

/-- Whatever order comes; the kept blocks stay. -/
def DAny (P : Program) (ops : Array Oper) (blK : Int → Option Blk) (tl : Nat → Bool) (K : St → Prop) : Nat → Array Bool → St → Prop
  | 0, l, σ => Region.ready .any ops l = [] ∧ K σ
  | fuel + 1, l, σ => (Region.ready .any ops l = [] → K σ) ∧ ∀ i ∈ Region.ready .any ops l, D1 P ops i (fun σ' => (tl i = false → Sub blK σ'.bl) ∧ DAny P ops blK tl K fuel (l.setIfInBounds i true) σ') σ

theorem D1_mono {i : Nat} {K K' : St → Prop} {σ : St} (h : D1 P ops i K σ) (hk : ∀ σ, K σ → K' σ) : D1 P ops i K' σ := by
  unfold D1 at h ⊢
  split
  · rename_i ho; simp only [ho] at h; exact hk _ h
  · rename_i o ho
    simp only [ho] at h
    split
    · rename_i hg; simp only [hg] at h; exact T_mono h hk
    · rename_i j b hg
      simp only [hg] at h
      split
      · rename_i d hd
        simp only [hd] at h
        rcases onG_some h with ⟨q, hq, h1, h2⟩ | ⟨hq, h1⟩
        · rw [hq]
          exact ⟨fun hh => T_mono (h1 hh) hk, fun hh => hk _ (h2 hh)⟩
        · rw [hq]
          exact hk _ h1
      · rename_i hd; simp only [hd] at h

theorem yielded_at {j : Nat} {d : Tmp} {q : Bool} {σ : St} (h1 : (ops[j]?).bind (·.dst) = some d) (hs : Sim w0 M F σ a w) (hq : σ.ev (.tmp d) = .bool q) : yielded ops a.tmps j = some q := by
  have hdn : d < σ.n := by
    rcases Nat.lt_or_ge d σ.n with h | h
    · exact h
    · simp only [St.ev] at hq; rw [if_neg (Nat.not_lt.2 h)] at hq; cases hq
  have hv : a.tmps.getD d undef = .bool q := rep_bool (hs.ev (.tmp d)) hq
  have h2 : a.tmps[d]? = some (.bool q) := by
    have hlt : d < a.tmps.size := by rw [hs.size]; exact hdn
    rw [Array.getElem?_eq_getElem hlt]
    simpa [hlt] using hv
  unfold yielded
  rw [h1]
  simp only [Option.bind_some, h2]

theorem D1_sound {i : Nat} {K : St → Prop} {σ : St} {Q : Exit → Act → World → Prop} {K' : Act → World → Prop} (hT : D1 P ops i K σ) (hs : Sim w0 M F σ a w)
    (hK : ∀ σ' F' a' w', (∀ b, F b → F' b) → Sim w0 M F' σ' a' w' → K σ' → K' a' w') : wpOp P ops Q i K' a w := by
  unfold D1 at hT
  unfold wpOp
  split
  · rename_i ho; simp only [ho] at hT; exact hK σ F a w (fun _ h => h) hs hT
  · rename_i o ho
    simp only [ho] at hT
    have next : T P o K σ → o.wp P a w K' Q := fun hT =>
      Oper.wp_mono (fun a' w' hn => by
        obtain ⟨σ', F', hF', hs', hk⟩ := hn
        exact hK σ' F' a' w' hF' hs' hk) (T_sound hT hs)
    split at hT
    · rename_i hg
      rw [if_pos (by simp [Region.wanted, hg])]
      exact .inl (next hT)
    · rename_i j b hg
      split at hT
      · rename_i d hd
        rcases onG_some hT with ⟨q, hq, h1, h2⟩ | ⟨hq, h1⟩
        rotate_left
        · have hd' : (ops.toList.map (·.dst))[j]? = some (some d) := by
            rw [List.getElem?_map, Array.getElem?_toList]
            rcases h : ops[j]? with _ | o
            · rw [h] at hd; cases hd
            · rw [h] at hd; simpa using hd
          rw [if_neg (by simp [Region.wanted, hg, yielded_skip hd' hs hq])]
          exact hK _ F _ w (fun _ h => h) (hs.put rep_skip) h1
        have hy := yielded_at hd hs hq
        by_cases hqb : q = b
        · rw [if_pos (by simp [Region.wanted, hg, hy, hqb])]
          exact .inl (next (h1 hqb))
        · rw [if_neg (by simp [Region.wanted, hg, hy, hqb])]
          have hqb' : q = !b := by cases q <;> cases b <;> simp_all
          exact hK _ F _ w (fun _ h => h) (hs.put rep_skip) (h2 hqb')
      · exact hT.elim

theorem DAny_sound {blK : Int → Option Blk} {tl : Nat → Bool} {K : St → Prop} {Q : Exit → Act → World → Prop} {F0 : Nat → Prop} (hQ : ∀ σ F a w, (∀ b, F0 b → F b) → Sim w0 M F σ a w → K σ → Q .normal a w) :
    ∀ (fuel : Nat) (l : Array Bool) (σ : St) (F : Nat → Prop) (a : Act) (w : World), (∀ b, F0 b → F b) → DAny P ops blK tl K fuel l σ → Sim w0 M F σ a w → wpAny P .any ops Q fuel l a w
  | 0, l, σ, F, a, w, hF, h, hs => ⟨h.1, hQ σ F a w hF hs h.2⟩
  | fuel + 1, l, σ, F, a, w, hF, h, hs => ⟨fun h0 => hQ σ F a w hF hs (h.1 h0), fun i hi => D1_sound (h.2 i hi) hs fun σ' F' a' w' hF' hs' hk => DAny_sound hQ fuel _ σ' F' a' w' (fun b hb => hF' b (hF b hb)) hk.2 hs'⟩

theorem AW_draw {id : Nat} {K : Ex → St → Prop} {σ : St} (hm : P.follows .mixedOrders = true) (blK : Int → Option Blk) {tl : Nat → Bool} (h : DAny P ops blK tl (K .normal) ops.size (Array.replicate ops.size false) σ) : AW P (.region id ops true) K σ := by
  intro w0 M F a w hs
  refine wp_region_any hm (DAny_sound (F0 := F) (w0 := w0) (M := M) (fun σ' F' a' w' hF' hs' hK => ⟨.normal, σ', F', rfl, hF', hs', hK⟩) _ _ σ F a _ (fun _ h => h) h ?_)
  have hsh : Shapes w { w with drawn := w.drawn + 1 } := fun b c t f hc => ⟨c, f, hc, rfl⟩
  refine ⟨⟨hs.mem.os, hs.mem.tape, hs.mem.output, hs.mem.size, hs.mem.frame, hs.mem.shapes, hs.mem.fr, hs.mem.fin, hs.mem.own, fun g b hb => ?_⟩, hs.size, fun t ht => ?_, hs.defers⟩
  · have hh : ∀ b, F b → ({ w with drawn := w.drawn + 1 } : World).heap[b]? = w.heap[b]? := fun _ _ => rfl
    have hg : 0 ≤ g → ({ w with drawn := w.drawn + 1 } : World).heap[g.toNat]? = w.heap[g.toNat]? := fun _ => rfl
    refine BlkIn.mono (fun _ h => h) (fun h0 hFg => ?_) hh hsh hg (hs.mem.blk g b hb)
    have := hs.mem.blk g b hb
    unfold BlkIn at this
    rw [if_neg (by omega)] at this
    exact this.1 hFg
  · have hh : ∀ b, F b → ({ w with drawn := w.drawn + 1 } : World).heap[b]? = w.heap[b]? := fun _ _ => rfl
    exact Rep.mono (fun _ h => h) hh hsh (hs.sl t ht)

/-- What an operation that only reads leaves, guards and all. -/
def DY (P : Program) (ops : Array Oper) (blK : Int → Option Blk) (o : Oper) (σ : St) (v : V) : Prop := match o.guard with
  | none => SV P blK o σ v
  | some (j, b) => match (ops[j]?).bind (·.dst) with
    | some d => onG (σ.ev (.tmp d)) (v = .tup []) fun q => (q = b → SV P blK o σ v) ∧ (q = (!b) → v = .tup [])
    | none => False

theorem DY.step {blK : Int → Option Blk} {i : Nat} {o : Oper} {σ : St} {v : V} {K : St → Prop} (hi : ops[i]? = some o) (h : DY P ops blK o σ v) (hs : Sub blK σ.bl) (hK : K (σ.put o.dst v)) : D1 P ops i K σ := by
  unfold DY at h
  unfold Vm.D1
  simp only [hi]
  split
  · rename_i hg; simp only [hg] at h; exact h.T hs hK
  · rename_i j b hg
    simp only [hg] at h
    split
    · rename_i d hd
      simp only [hd] at h
      rcases onG_some h with ⟨q, hq, h1, h2⟩ | ⟨hq, h1⟩
      · rw [hq]
        exact ⟨fun hh => (h1 hh).T hs hK, fun hh => by rw [← h2 hh]; exact hK⟩
      · rw [hq]
        show K _
        rw [← h1]; exact hK
    · rename_i hd; simp only [hd] at h

theorem DY.same {blK : Int → Option Blk} {o : Oper} {σ σ' : St} {v : V} (h : DY P ops blK o σ v) (hs : ∀ t ∈ o.looksAt ops, σ'.ev (.tmp t) = σ.ev (.tmp t)) : DY P ops blK o σ' v := by
  have hev : ∀ x ∈ o.op.operands, σ'.ev x = σ.ev x := by
    intro x hx
    cases x with
    | tmp t => exact hs t (List.mem_append_left _ (List.mem_filterMap.2 ⟨.tmp t, by simpa using hx, rfl⟩))
    | _ => rfl
  unfold DY at h ⊢
  split
  · rename_i hg; simp only [hg] at h; exact h.same hev
  · rename_i j b hg
    simp only [hg] at h
    split
    · rename_i d hd
      simp only [hd] at h
      rw [hs d (List.mem_append_right _ (by simp [hg, hd]))]
      rcases onG_some h with ⟨q, hq, h1, h2⟩ | ⟨hq, h1⟩
      · rw [hq]
        exact ⟨fun hh => (h1 hh).same hev, h2⟩
      · rw [hq]
        exact h1
    · rename_i hd; simp only [hd] at h

theorem DY.put {blK : Int → Option Blk} {j : Nat} {oi oj : Oper} {σ : St} {v : V} {K : St → Prop} (hj : ops[j]? = some oj) (hap : oi.apart ops oj = true) (hy : DY P ops blK oi σ v) (h : D1 P ops j K (σ.put oi.dst v)) :
    D1 P ops j (fun σ' => DY P ops blK oi σ' v ∧ K (σ'.put oi.dst v)) σ := by
  obtain ⟨h1, h2, h3⟩ := Oper.apart_spec hap
  have keep : ∀ (σ' : St), σ'.n = σ.n → (∀ t, oj.dst ≠ some t → σ'.sl t = σ.sl t) → DY P ops blK oi σ' v := fun σ' hn hsl => hy.same fun t ht => by
    show (if t < σ'.n then σ'.sl t else _) = if t < σ.n then σ.sl t else _
    rw [hn, hsl t (fun e => h3 t e ht)]
  have hT : T P oj K (σ.put oi.dst v) → T P oj (fun σ' => DY P ops blK oi σ' v ∧ K (σ'.put oi.dst v)) σ := fun hh =>
    T_mono (T_frame (T_put h1 (fun t ht => h2 t ht) hh)) fun σ' ⟨k1, k2, k3⟩ => ⟨keep σ' k2 k3, k1⟩
  have hJ : K ((σ.put oi.dst v).put oj.dst (.tup [])) → DY P ops blK oi (σ.put oj.dst (.tup [])) v ∧ K ((σ.put oj.dst (.tup [])).put oi.dst v) := fun hh => by
    refine ⟨keep _ (by cases oj.dst <;> rfl) (fun t ht => ?_), ?_⟩
    · cases hd : oj.dst with
      | none => rfl
      | some e => exact upd_ne _ _ _ _ (fun hte => ht (by rw [hd, hte]))
    · have hp := put_comm σ σ.bl v (.tup []) h2
      have e1 : ({ σ.put oi.dst v with bl := σ.bl } : St) = σ.put oi.dst v := by cases oi.dst <;> rfl
      rw [e1] at hp
      rwa [hp] at hh
  unfold Vm.D1 at h ⊢
  simp only [hj] at h ⊢
  split
  · rename_i hg; simp only [hg] at h; exact hT h
  · rename_i i b hg
    simp only [hg] at h
    split
    · rename_i d hd
      simp only [hd] at h
      have hsame : (σ.put oi.dst v).ev (.tmp d) = σ.ev (.tmp d) := put_ev fun t ht he => h1 t ht (by
        cases he
        exact List.mem_append_right _ (by simp [hg, hd]))
      rw [hsame] at h
      rcases onG_some h with ⟨q, hq, k1, k2⟩ | ⟨hq, k1⟩
      · rw [hq]
        exact ⟨fun hh => hT (k1 hh), fun hh => hJ (k2 hh)⟩
      · rw [hq]
        exact hJ k1
    · rename_i hd; simp only [hd] at h

/-- A reading operation that is free is taken first. -/
theorem DAny_first {blK : Int → Option Blk} {tl : Nat → Bool} {K : St → Prop} {i : Nat} {oi : Oper} {v : V} (hi : ops[i]? = some oi) (hT : ∀ j oj, tl j = true → ops[j]? = some oj → ∃ e ∈ oj.after, Region.binds .any e = true ∧ e.on = i) : ∀ (fuel : Nat) (l : Array Bool) (σ : St),
    (∀ j oj, ops[j]? = some oj → j ≠ i → l.getD j true = false → (∀ e ∈ oj.after, Region.binds .any e = true → e.on ≠ i) → oi.apart ops oj = true) →
    i ∈ Region.ready .any ops l → Sub blK σ.bl → DY P ops blK oi σ v → DAny P ops blK tl K fuel (l.setIfInBounds i true) (σ.put oi.dst v) → DAny P ops blK tl K (fuel + 1) l σ := by
  have hbl : ∀ (σ : St), (σ.put oi.dst v).bl = σ.bl := fun σ => by cases oi.dst <;> rfl
  intro fuel
  induction fuel with
  | zero =>
    intro l σ _ hr hs hy H
    refine ⟨fun h => (by rw [h] at hr; cases hr), fun j hj => ?_⟩
    by_cases hji : j = i
    · subst hji; exact hy.step hi hs ⟨fun _ => by rw [hbl]; exact hs, H⟩
    · have := ready_mono hj hji
      rw [H.1] at this
      cases this
  | succ fuel ih =>
    intro l σ hfree hr hs hy H
    refine ⟨fun h => (by rw [h] at hr; cases hr), fun j hj => ?_⟩
    by_cases hji : j = i
    · subst hji; exact hy.step hi hs ⟨fun _ => by rw [hbl]; exact hs, H⟩
    · have h1 := H.2 j (ready_mono hj hji)
      obtain ⟨hjun, oj, hoj, hall⟩ := mem_ready.1 hj
      have hnot : ∀ e ∈ oj.after, Region.binds .any e = true → e.on ≠ i := fun e he hb heq => by
        have h1 := hall e he hb
        have h0 := (mem_ready.1 hr).1
        rw [heq] at h1
        rcases Nat.lt_or_ge i l.size with h' | h'
        · simp [h'] at h0 h1; rw [h0] at h1; cases h1
        · simp [Array.getElem?_eq_none h'] at h1
      have h2 := DY.put hoj (hfree j oj hoj hji hjun hnot) hy h1
      have hfree' : ∀ k ok, ops[k]? = some ok → k ≠ i → (l.setIfInBounds j true).getD k true = false →
          (∀ e ∈ ok.after, Region.binds .any e = true → e.on ≠ i) → oi.apart ops ok = true := fun k ok hk hki hun hno => by
        refine hfree k ok hk hki ?_ hno
        by_cases hjk : j = k
        · subst hjk; exact hjun
        · rw [getD_set_ne true hjk] at hun; exact hun
      refine D1_mono h2 fun σ' ⟨h3, h4, h5⟩ => ?_
      have htj : tl j = false := by
        cases htl : tl j with
        | false => rfl
        | true =>
          obtain ⟨e, he, hb, hon⟩ := hT j oj htl hoj
          exact absurd hon (hnot e he hb)
      have h4 := h4 htj
      rw [hbl] at h4
      refine ⟨fun _ => h4, ih (l.setIfInBounds j true) σ' hfree' (ready_mono hr (Ne.symm hji)) h4 h3 ?_⟩
      rw [Array.setIfInBounds_comm _ _ hji]
      exact h5

/-- Reading operations, taken in this order; then K. -/
def Hoist (P : Program) (ops : Array Oper) (blK : Int → Option Blk) : List Nat → (St → Prop) → St → Prop
  | [], K, σ => K σ
  | i :: is, K, σ => match ops[i]? with
    | some o => ∃ v, DY P ops blK o σ v ∧ Hoist P ops blK is K (σ.put o.dst v)
    | none => False

def hoistB (ops : Array Oper) : List Nat → Array Bool → Bool
  | [], _ => true
  | k :: ks, l => (Region.ready .any ops l).contains k && Region.free .any ops l k && hoistB ops ks (l.setIfInBounds k true)
def setAll : List Nat → Array Bool → Array Bool
  | [], l => l
  | k :: ks, l => setAll ks (l.setIfInBounds k true)

/-- The last operations wait for all that are read first. -/
def tailB (ops : Array Oper) (tl : Nat → Bool) (is : List Nat) : Bool := (List.range ops.size).all fun j => !tl j || match ops[j]? with | none => true | some o => is.all fun i => o.after.any fun e => Region.binds .any e && e.on == i
theorem tailB_spec {tl : Nat → Bool} {is : List Nat} (h : tailB ops tl is = true) (i : Nat) (hi : i ∈ is) : ∀ j oj, tl j = true → ops[j]? = some oj → ∃ e ∈ oj.after, Region.binds .any e = true ∧ e.on = i := by
  intro j oj ht ho
  have hj := (Array.getElem?_eq_some_iff.1 ho).1
  have h1 := List.all_eq_true.1 h j (List.mem_range.2 hj)
  simp only [ht, Bool.not_true, Bool.false_or, ho] at h1
  have h2 := List.all_eq_true.1 h1 i hi
  obtain ⟨e, he, h3⟩ := Array.any_eq_true'.1 h2
  simp only [Bool.and_eq_true, beq_iff_eq] at h3
  exact ⟨e, he, h3.1, h3.2⟩
theorem DAny_hoist {blK : Int → Option Blk} {tl : Nat → Bool} {K : St → Prop} (fuel : Nat) : ∀ (is : List Nat) (l : Array Bool) (σ : St), (∀ i, i ∈ is → ∀ j oj, tl j = true → ops[j]? = some oj → ∃ e ∈ oj.after, Region.binds .any e = true ∧ e.on = i) → hoistB ops is l = true → Sub blK σ.bl →
    Hoist P ops blK is (DAny P ops blK tl K fuel (setAll is l)) σ → DAny P ops blK tl K (fuel + is.length) l σ
  | [], l, σ, _, _, _, h => h
  | i :: is, l, σ, hT, hB, hs, h => by
    simp only [hoistB, Bool.and_eq_true] at hB
    obtain ⟨⟨hr, hf⟩, hB'⟩ := hB
    unfold Hoist at h
    split at h
    · rename_i o ho
      obtain ⟨v, hy, hK⟩ := h
      have : fuel + (i :: is).length = (fuel + is.length) + 1 := by simp; omega
      rw [this]
      refine DAny_first ho (hT i List.mem_cons_self) _ _ _ (Region.free_spec ho hf) (by simpa using hr) hs hy (DAny_hoist fuel is _ _ (fun i hi => hT i (List.mem_cons_of_mem _ hi)) hB' ?_ hK)
      cases o.dst <;> exact hs
    · exact h.elim

/-- A region all of whose operations read: they are taken in the text's order. -/
theorem AW_draw_quiet {id : Nat} {K : Ex → St → Prop} {σ : St} (hm : P.follows .mixedOrders = true) (hB : hoistB ops (List.range ops.size) (Array.replicate ops.size false) = true)
    (hE : Region.ready .any ops (setAll (List.range ops.size) (Array.replicate ops.size false)) = [])
    (h : Hoist P ops σ.bl (List.range ops.size) (K .normal) σ) : AW P (.region id ops true) K σ := by
  refine AW_draw hm σ.bl (tl := fun _ => false) ?_
  have := DAny_hoist (P := P) (ops := ops) (blK := σ.bl) (tl := fun _ => false) (K := K .normal) 0 (List.range ops.size) (Array.replicate ops.size false) σ (fun _ _ _ _ h => by cases h) hB (Sub.refl _)
  rw [List.length_range, Nat.zero_add] at this
  refine this ?_
  have hm : ∀ (is : List Nat) (σ' : St), Hoist P ops σ.bl is (K .normal) σ' → Hoist P ops σ.bl is (DAny P ops σ.bl (fun _ => false) (K .normal) 0 (setAll (List.range ops.size) (Array.replicate ops.size false))) σ' := by
    intro is
    induction is with
    | nil => intro σ' h; exact ⟨hE, h⟩
    | cons i is ih =>
      intro σ' h
      unfold Hoist at h ⊢
      split
      · rename_i o ho; simp only [ho] at h; obtain ⟨v, h1, h2⟩ := h; exact ⟨v, h1, ih _ h2⟩
      · rename_i ho; simp only [ho] at h
  exact hm _ _ h

/-- Reading operations first, then the others in every order. -/
theorem AW_draw_mixed {id : Nat} {K : Ex → St → Prop} {σ : St} (hm : P.follows .mixedOrders = true) (is : List Nat) (fuel : Nat) (blK : Int → Option Blk) (hs : Sub blK σ.bl) (hn : ops.size = fuel + is.length)
    (hB : hoistB ops is (Array.replicate ops.size false) = true) {tl : Nat → Bool} (hT : ∀ i, i ∈ is → ∀ j oj, tl j = true → ops[j]? = some oj → ∃ e ∈ oj.after, Region.binds .any e = true ∧ e.on = i)
    (h : Hoist P ops blK is (DAny P ops blK tl (K .normal) fuel (setAll is (Array.replicate ops.size false))) σ) : AW P (.region id ops true) K σ := by
  refine AW_draw hm blK (tl := tl) ?_
  have := DAny_hoist (P := P) (ops := ops) (blK := blK) (tl := tl) (K := K .normal) fuel is (Array.replicate ops.size false) σ hT hB hs h
  rw [← hn] at this
  exact this

end
end Go.Proofs.Ytpkphjoobeacfaa.Vm
