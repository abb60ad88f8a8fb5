/- The whole transformer is sound; regions in the text's order; calls and contracts. -/
import Derived.Test.YtpkphjoobeacfaaVmI
namespace Go.Proofs.Ytpkphjoobeacfaa.Vm
open Go Go.RowKit
set_option linter.unusedSimpArgs false
set_option linter.unusedVariables false

section
variable {P : Program} {K : St → Prop} {σ : St} {w0 : World} {M F : Nat → Prop} {a : Act} {w : World} {bl : Int → Option Blk}

theorem sound_call {o : Oper} {c : Call} {f : Operand} (ho : o.op = .call c) (hc : c.callee = .value f) (hT : T P o K σ) (hs : Sim w0 M F σ a w) {Q : Exit → Act → World → Prop} : o.wp P a w (Nx w0 M F K) Q := by
  unfold T at hT; rw [ho] at hT
  simp only [hc] at hT
  obtain ⟨⟨g, xs⟩, hv, hen, hK⟩ := hT
  have hf := hs.ev f
  unfold callV at hv
  split at hv
  · rename_i g' cap hfe
    cases hv
    rw [hfe] at hf
    generalize hav : a.eval f = av at hf
    cases hf
    rename_i arr hlen hr
    obtain ⟨fn, hfn, hname, hbody⟩ := hen.out
    have hrun : (execOp a.eval o).run P w = .ok (.enter g ((c.args.map a.eval) ++ arr)) w := by
      simp only [execOp, ho, resolve, hc, hav, Deferred.ofValue, Sem.run_bind, Sem.run_pure, Result.andThen_ok, invoke, callFunc, run_program, hfn]
      rw [if_neg (by rw [hname]; simp)]
      rw [if_neg (by rw [hbody]; simp)]
      simp
    unfold Oper.wp
    rw [hrun]
    refine (hK w0 M F w _ hs.mem ⟨by simp [hlen], fun i x hx => ?_⟩).mono fun e w' he => ?_
    · rcases Nat.lt_or_ge i c.args.size with hi | hi
      · rw [List.getElem?_append_left (by simpa using hi), List.getElem?_map] at hx
        rcases h : c.args.toList[i]? with _ | y
        · rw [h] at hx; cases hx
        · rw [h] at hx; cases hx
          rw [Array.getElem?_toList] at h
          have : (c.args.map a.eval ++ arr).getD i undef = a.eval y := by
            rw [Array.getD_eq_getD_getElem?, Array.getElem?_append_left (by simpa using hi)]
            simp [h]
          rw [this]; exact hs.ev y
      · rw [List.getElem?_append_right (by simpa using hi)] at hx
        have := hr _ x hx
        have h2 : (c.args.map a.eval ++ arr).getD i undef = arr.getD (i - c.args.size) undef := by
          rw [Array.getD_eq_getD_getElem?, Array.getElem?_append_right (by simpa using hi)]
          simp [Array.getD_eq_getD_getElem?]
        rw [h2]
        simpa using this
    · obtain ⟨v, r, bl', F', rfl, hF, hh, hsh, hm, hrep, hk⟩ := he
      have hs' : Sim w0 M F' ({ σ with bl := bl' } : St) a w' := ⟨hm, hs.size, fun t ht => (hs.sl t ht).mono hF hh hsh, hs.defers⟩
      exact ⟨_, F', hF, hs'.put hrep, hk⟩
  · cases hv

theorem T_sound {o : Oper} (hT : T P o K σ) (hs : Sim w0 M F σ a w) {Q : Exit → Act → World → Prop} : o.wp P a w (Nx w0 M F K) Q := by
  cases ho : o.op with
  | move x => exact sound_move ho hT hs
  | assign x => exact sound_assign ho hT hs
  | pick c x y => exact sound_pick ho hT hs
  | alloc t => exact sound_alloc ho hT hs
  | box t x => exact sound_box ho hT hs
  | build t ps => exact sound_build ho hT hs
  | buildSlice t n ps => exact sound_buildSlice ho hT hs
  | load t x => exact sound_load ho hT hs
  | store t x y => exact sound_store ho hT hs
  | nilCheck x => exact sound_nilCheck ho hT hs
  | binOp op t x y t' => exact sound_binOp ho hT hs
  | unOp u t x => exact sound_unOp ho hT hs
  | convert s d x => exact sound_convert ho hT hs
  | makeFunc f first cap => exact sound_makeFunc ho hT hs
  | makeSlice t l c => exact sound_makeSlice ho hT hs
  | slice t x lo hi mx => exact sound_slice ho hT hs
  | fieldAddr t x i => exact sound_fieldAddr ho hT hs
  | field t x i => exact sound_field ho hT hs
  | indexAddr t x i => exact sound_indexAddr ho hT hs
  | index t x i => exact sound_index ho hT hs
  | extract x i => exact sound_extract ho hT hs
  | call c =>
    cases hc : c.callee with
    | value f => exact sound_call ho hc hT hs
    | invoke r m => unfold T at hT; rw [ho] at hT; simp only [hc] at hT
    | builtin b =>
      by_cases h1 : b = .len
      · subst h1; exact sound_len ho hc hT hs
      · by_cases h2 : b = .append
        · subst h2; exact sound_append ho hc hT hs
        · unfold T at hT; rw [ho] at hT; simp only [hc] at hT
          cases b <;> first | exact hT.elim | exact absurd rfl h1 | exact absurd rfl h2
  | _ => unfold T at hT; rw [ho] at hT; exact hT.elim

/-- A guard's value: a bool, or nothing where its own operation was passed by. -/
def onG (x : V) (s : Prop) (k : Bool → Prop) : Prop := match x with | .bool q => k q | .tup [] => s | _ => False
@[simp] theorem onG_bool (q : Bool) (s : Prop) (k : Bool → Prop) : onG (.bool q) s k = k q := rfl
@[simp] theorem onG_skip (s : Prop) (k : Bool → Prop) : onG (.tup []) s k = s := rfl
theorem onG_some {x : V} {s : Prop} {k : Bool → Prop} (h : onG x s k) : (∃ q, x = .bool q ∧ k q) ∨ (x = .tup [] ∧ s) := by
  unfold onG at h; split at h
  · exact .inl ⟨_, rfl, h⟩
  · exact .inr ⟨rfl, h⟩
  · exact h.elim
theorem rep_skip {F : Nat → Prop} {w : World} : Rep F w (.tup []) undef := .tup [] #[] rfl fun i x h => by cases h

/-- A region's operations, in the text's order. ds: the slots that they write. -/
def Ops (P : Program) (ds : List (Option Tmp)) : List Oper → (St → Prop) → St → Prop
  | [], K, σ => K σ
  | o :: rest, K, σ => match o.guard with
    | none => T P o (Ops P ds rest K) σ
    | some (j, b) => match ds[j]? with
      | some (some d) => onG (σ.ev (.tmp d)) (Ops P ds rest K (σ.put o.dst (.tup []))) fun q => (q = b → T P o (Ops P ds rest K) (σ.put (some d) (.bool b))) ∧ (q = (!b) → Ops P ds rest K ((σ.put (some d) (.bool (!b))).put o.dst (.tup [])))
      | _ => False

theorem yielded_of {ops : Array Oper} {j : Nat} {d : Tmp} {q : Bool} (hd : (ops.toList.map (·.dst))[j]? = some (some d)) (hs : Sim w0 M F σ a w) (hq : σ.ev (.tmp d) = .bool q) : yielded ops a.tmps j = some q := by
  have h1 : (ops[j]?).bind (·.dst) = some d := by
    rw [List.getElem?_map] at hd
    rw [Array.getElem?_toList] at hd
    rcases h : ops[j]? with _ | o
    · rw [h] at hd; cases hd
    · rw [h] at hd; simpa using hd
  have hdn : d < σ.n := by
    rcases Nat.lt_or_ge d σ.n with h | h
    · exact h
    · simp only [St.ev] at hq; rw [if_neg (Nat.not_lt.2 h)] at hq; cases hq
  have hv : a.tmps.getD d undef = .bool q := rep_bool (hs.ev (.tmp d)) hq
  have h2 : a.tmps[d]? = some (.bool q) := by
    have hlt : d < a.tmps.size := by rw [hs.size]; exact hdn
    rw [Array.getElem?_eq_getElem hlt]
    simpa [hlt] using hv
  unfold yielded
  rw [h1]
  simp only [Option.bind_some, h2]

theorem yielded_skip {ops : Array Oper} {j : Nat} {d : Tmp} (hd : (ops.toList.map (·.dst))[j]? = some (some d)) (hs : Sim w0 M F σ a w) (hq : σ.ev (.tmp d) = .tup []) : yielded ops a.tmps j = none := by
  have h1 : (ops[j]?).bind (·.dst) = some d := by
    rw [List.getElem?_map] at hd
    rw [Array.getElem?_toList] at hd
    rcases h : ops[j]? with _ | o
    · rw [h] at hd; cases hd
    · rw [h] at hd; simpa using hd
  have hdn : d < σ.n := by
    rcases Nat.lt_or_ge d σ.n with h | h
    · exact h
    · simp only [St.ev] at hq; rw [if_neg (Nat.not_lt.2 h)] at hq; cases hq
  have hr := hs.ev (.tmp d)
  rw [hq] at hr
  have h2 : ∃ arr, a.tmps[d]? = some (.tuple arr) := by
    have hlt : d < a.tmps.size := by rw [hs.size]; exact hdn
    have hv : a.tmps.getD d undef = a.tmps[d] := by simp [hlt]
    have hr' : Rep F w (.tup []) a.tmps[d] := by rw [← hv]; exact hr
    generalize hx : a.tmps[d] = x at hr'
    cases hr'
    exact ⟨_, by rw [Array.getElem?_eq_getElem hlt, hx]⟩
  obtain ⟨arr, h2⟩ := h2
  unfold yielded
  rw [h1]
  simp only [Option.bind_some, h2]

theorem put_same {d : Tmp} {q : Bool} (hq : σ.ev (.tmp d) = .bool q) : σ.put (some d) (.bool q) = σ := by
  have hdn : d < σ.n := by
    rcases Nat.lt_or_ge d σ.n with h | h
    · exact h
    · simp only [St.ev] at hq; rw [if_neg (Nat.not_lt.2 h)] at hq; cases hq
  simp only [St.ev, if_pos hdn] at hq
  show ({ σ with sl := upd σ.sl d (.bool q) } : St) = σ
  have : upd σ.sl d (.bool q) = σ.sl := by
    funext x
    by_cases hx : x = d
    · subst hx; rw [upd_same, hq]
    · rw [upd_ne _ _ _ _ hx]
  rw [this]

theorem Ops_sound {ops : Array Oper} {Q : Exit → Act → World → Prop} {F0 : Nat → Prop} {w0 : World} {M : Nat → Prop} {K : St → Prop} (hQ : ∀ σ F a w, (∀ b, F0 b → F b) → Sim w0 M F σ a w → K σ → Q .normal a w) (l : List Oper) :
    ∀ (σ : St) (F : Nat → Prop) (a : Act) (w : World), (∀ b, F0 b → F b) → Ops P (ops.toList.map (·.dst)) l K σ → Sim w0 M F σ a w → wpList P ops Q l a w := by
  induction l with
  | nil => intro σ F a w hF h hs; exact hQ σ F a w hF hs h
  | cons o rest ih =>
    intro σ F a w hF h hs
    have next : T P o (Ops P (ops.toList.map (·.dst)) rest K) σ → o.wp P a w (wpList P ops Q rest) Q := fun hT =>
      Oper.wp_mono (fun a' w' hn => by
        obtain ⟨σ', F', hF', hs', hK⟩ := hn
        exact ih σ' F' a' w' (fun b hb => hF' b (hF b hb)) hK hs') (T_sound hT hs)
    unfold Ops at h
    unfold wpList
    split at h
    · rename_i hg
      rw [if_pos (by simp [Region.wanted, hg])]
      exact .inl (next h)
    · rename_i j b hg
      split at h
      · rename_i d hd
        rcases onG_some h with ⟨q, hq, h1, h2⟩ | ⟨hq, h1⟩
        rotate_left
        · rw [if_neg (by simp [Region.wanted, hg, yielded_skip hd hs hq])]
          exact ih _ F _ w hF h1 (hs.put rep_skip)
        have hy := yielded_of hd hs hq
        by_cases hqb : q = b
        · rw [if_pos (by simp [Region.wanted, hg, hy, hqb])]
          have h1' := h1 hqb
          subst hqb
          rw [put_same hq] at h1'
          exact .inl (next h1')
        · rw [if_neg (by simp [Region.wanted, hg, hy, hqb])]
          have hqb' : q = !b := by cases q <;> cases b <;> simp_all
          have h2' := h2 hqb'
          rw [← hqb', put_same hq] at h2'
          exact ih _ F _ w hF h2' (hs.put rep_skip)
      · exact h.elim

theorem AW_region {id : Nat} {ops : Array Oper} {K : Ex → St → Prop} {σ : St} (h : Ops P (ops.toList.map (·.dst)) ops.toList (K .normal) σ) : AW P (.region id ops false) K σ :=
  fun w0 M F a w hs => wp_region_list (Ops_sound (F0 := F) (w0 := w0) (M := M) (fun σ' F' a' w' hF' hs' hK => ⟨.normal, σ', F', rfl, hF', hs', hK⟩) _ σ F a w (fun _ h => h) h hs)

theorem AW_if {c : Operand} {x y : Code} {K : Ex → St → Prop} {σ : St} (h : onB (σ.ev c) fun b => (b = true → AW P x K σ) ∧ (b = false → AW P y K σ)) : AW P (.cond c x y) K σ := by
  obtain ⟨q, hq, h1, h2⟩ := onB_some h
  exact AW_cond ⟨q, hq, h1, h2⟩

/-! ### What a region leaves -/
theorem T_frame {o : Oper} {K : St → Prop} {σ : St} (h : T P o K σ) : T P o (fun σ' => K σ' ∧ σ'.n = σ.n ∧ ∀ t, o.dst ≠ some t → σ'.sl t = σ.sl t) σ := by
  have put : ∀ (bl' : Int → Option Blk) (v : V), (({ σ with bl := bl' } : St).put o.dst v).n = σ.n ∧ ∀ t, o.dst ≠ some t → (({ σ with bl := bl' } : St).put o.dst v).sl t = σ.sl t := by
    intro bl' v
    cases hd : o.dst with
    | none => exact ⟨rfl, fun _ _ => rfl⟩
    | some d => exact ⟨rfl, fun t ht => upd_ne _ _ _ _ (fun e => ht (by rw [e]))⟩
  have put0 : ∀ (v : V), (σ.put o.dst v).n = σ.n ∧ ∀ t, o.dst ≠ some t → (σ.put o.dst v).sl t = σ.sl t := put σ.bl
  unfold T at h ⊢
  cases ho : o.op <;> rw [ho] at h <;> simp only at h ⊢ <;> try exact h.elim
  case move x => exact ⟨h, put0 _⟩
  case assign x => exact ⟨h, put0 _⟩
  case pick c x y => obtain ⟨q, hq, hK⟩ := onB_some h; rw [hq]; exact ⟨hK, put0 _⟩
  case alloc t => obtain ⟨cs, h1, h2⟩ := h; exact ⟨cs, h1, fun g h0 hg => ⟨h2 g h0 hg, put _ _⟩⟩
  case box t x => exact ⟨h.1, fun g h0 hg => ⟨h.2 g h0 hg, put _ _⟩⟩
  case build t ps => obtain ⟨cs, h1, h2, r, h3, h4⟩ := h; exact ⟨cs, h1, h2, r, h3, h4, put0 _⟩
  case buildSlice t n ps => obtain ⟨e, h1, cs, h2, h3, h4, r, h5, h6⟩ := h; exact ⟨e, h1, cs, h2, h3, h4, r, h5, fun g h0 hg => ⟨h6 g h0 hg, put _ _⟩⟩
  case load t x => obtain ⟨cs, h1, v, h2, h3⟩ := h; exact ⟨cs, h1, v, h2, h3, put0 _⟩
  case store t x y =>
    split at h
    · obtain ⟨b, h1, e, h2, h3, h4, h5, h6, h7⟩ := h
      exact ⟨b, h1, e, h2, h3, h4, h5, h6, h7, put _ _⟩
    · exact h.elim
  case nilCheck x => obtain ⟨v, h1, h2⟩ := h; exact ⟨v, h1, h2, put0 _⟩
  case binOp => obtain ⟨v, h1, h2⟩ := h; exact ⟨v, h1, h2, put0 _⟩
  case unOp => obtain ⟨v, h1, h2⟩ := h; exact ⟨v, h1, h2, put0 _⟩
  case convert => obtain ⟨v, h1, h2⟩ := h; exact ⟨v, h1, h2, put0 _⟩
  case makeFunc f first cap =>
    cases f <;> simp only at h ⊢ <;> try exact h.elim
    exact ⟨h.1, h.2, put0 _⟩
  case makeSlice => obtain ⟨e, h1, cs, h2, n, h3, h4, h5, h6, h7⟩ := h; exact ⟨e, h1, cs, h2, n, h3, h4, h5, h6, fun g h0 hg => ⟨h7 g h0 hg, put _ _⟩⟩
  case slice t x lo hi mx =>
    cases mx <;> simp only at h ⊢
    · obtain ⟨v, h1, h2⟩ := h; exact ⟨v, h1, h2, put0 _⟩
  case fieldAddr => obtain ⟨v, h1, h2⟩ := h; exact ⟨v, h1, h2, put0 _⟩
  case field => obtain ⟨v, h1, h2⟩ := h; exact ⟨v, h1, h2, put0 _⟩
  case indexAddr => obtain ⟨v, h1, h2⟩ := h; exact ⟨v, h1, h2, put0 _⟩
  case index => obtain ⟨v, h1, h2⟩ := h; exact ⟨v, h1, h2, put0 _⟩
  case extract => obtain ⟨v, h1, h2⟩ := h; exact ⟨v, h1, h2, put0 _⟩
  case call c =>
    split at h
    · obtain ⟨p, h1, h2⟩ := h
      refine ⟨p, h1, h2.1, fun w0 M F w vs hm hr => (h2.2 w0 M F w vs hm hr).mono fun e w' ⟨v, r, bl', F', g1, g2, g3, g4, g5, g6, g7⟩ => ⟨v, r, bl', F', g1, g2, g3, g4, g5, g6, g7, put _ _⟩⟩
    · obtain ⟨v, h1, h2, h3, h4⟩ := h; exact ⟨v, h1, h2, h3, h4, put0 _⟩
    · obtain ⟨p, h1, h2, h3, h4, h5⟩ := h; exact ⟨p, h1, h2, h3, h4, fun g h0 hg => ⟨h5 g h0 hg, put _ _⟩⟩
    · exact h.elim

theorem T_mono {o : Oper} {K K' : St → Prop} {σ : St} (h : T P o K σ) (hk : ∀ σ, K σ → K' σ) : T P o K' σ := by
  unfold T at h ⊢
  cases ho : o.op <;> rw [ho] at h <;> simp only at h ⊢ <;> try exact h.elim
  case move x => exact hk _ h
  case assign x => exact hk _ h
  case pick c x y => obtain ⟨q, hq, hK⟩ := onB_some h; rw [hq]; exact hk _ hK
  case alloc t => obtain ⟨cs, h1, h2⟩ := h; exact ⟨cs, h1, fun g h0 hg => hk _ (h2 g h0 hg)⟩
  case box t x => exact ⟨h.1, fun g h0 hg => hk _ (h.2 g h0 hg)⟩
  case build t ps => obtain ⟨cs, h1, h2, r, h3, h4⟩ := h; exact ⟨cs, h1, h2, r, h3, hk _ h4⟩
  case buildSlice t n ps => obtain ⟨e, h1, cs, h2, h3, h4, r, h5, h6⟩ := h; exact ⟨e, h1, cs, h2, h3, h4, r, h5, fun g h0 hg => hk _ (h6 g h0 hg)⟩
  case load t x => obtain ⟨cs, h1, v, h2, h3⟩ := h; exact ⟨cs, h1, v, h2, hk _ h3⟩
  case store t x y =>
    split at h
    · obtain ⟨b, h1, e, h2, h3, h4, h5, h6, h7⟩ := h
      exact ⟨b, h1, e, h2, h3, h4, h5, h6, hk _ h7⟩
    · exact h.elim
  case nilCheck x => obtain ⟨v, h1, h2⟩ := h; exact ⟨v, h1, hk _ h2⟩
  case binOp => obtain ⟨v, h1, h2⟩ := h; exact ⟨v, h1, hk _ h2⟩
  case unOp => obtain ⟨v, h1, h2⟩ := h; exact ⟨v, h1, hk _ h2⟩
  case convert => obtain ⟨v, h1, h2⟩ := h; exact ⟨v, h1, hk _ h2⟩
  case makeFunc f first cap =>
    cases f <;> simp only at h ⊢ <;> try exact h.elim
    exact ⟨h.1, hk _ h.2⟩
  case makeSlice => obtain ⟨e, h1, cs, h2, n, h3, h4, h5, h6, h7⟩ := h; exact ⟨e, h1, cs, h2, n, h3, h4, h5, h6, fun g h0 hg => hk _ (h7 g h0 hg)⟩
  case slice t x lo hi mx =>
    cases mx <;> simp only at h ⊢
    · obtain ⟨v, h1, h2⟩ := h; exact ⟨v, h1, hk _ h2⟩
  case fieldAddr => obtain ⟨v, h1, h2⟩ := h; exact ⟨v, h1, hk _ h2⟩
  case field => obtain ⟨v, h1, h2⟩ := h; exact ⟨v, h1, hk _ h2⟩
  case indexAddr => obtain ⟨v, h1, h2⟩ := h; exact ⟨v, h1, hk _ h2⟩
  case index => obtain ⟨v, h1, h2⟩ := h; exact ⟨v, h1, hk _ h2⟩
  case extract => obtain ⟨v, h1, h2⟩ := h; exact ⟨v, h1, hk _ h2⟩
  case call c =>
    split at h
    · obtain ⟨p, h1, h2⟩ := h
      refine ⟨p, h1, h2.1, fun w0 M F w vs hm hr => (h2.2 w0 M F w vs hm hr).mono fun e w' ⟨v, r, bl', F', g1, g2, g3, g4, g5, g6, g7⟩ => ⟨v, r, bl', F', g1, g2, g3, g4, g5, g6, hk _ g7⟩⟩
    · obtain ⟨v, h1, h2, h3, h4⟩ := h; exact ⟨v, h1, h2, h3, hk _ h4⟩
    · obtain ⟨p, h1, h2, h3, h4, h5⟩ := h; exact ⟨p, h1, h2, h3, h4, fun g h0 hg => hk _ (h5 g h0 hg)⟩
    · exact h.elim

theorem Ops_mono {ds : List (Option Tmp)} {K K' : St → Prop} (l : List Oper) : ∀ {σ : St}, Ops P ds l K σ → (∀ σ, K σ → K' σ) → Ops P ds l K' σ := by
  induction l with
  | nil => intro σ h hk; exact hk _ h
  | cons o l ih =>
    intro σ h hk
    unfold Ops at h ⊢
    split at h
    · exact T_mono h fun σ h => ih h hk
    · split at h
      · rcases onG_some h with ⟨q, hq, h1, h2⟩ | ⟨hq, h1⟩
        · simp only [*, onG_bool]
          exact ⟨fun hh => T_mono (h1 hh) fun σ h => ih h hk, fun hh => ih (h2 hh) hk⟩
        · simp only [*, onG_skip]
          exact ih h1 hk
      · exact h.elim

theorem Ops_frame {ds : List (Option Tmp)} {K : St → Prop} (l : List Oper) : ∀ {σ : St}, Ops P ds l K σ → Ops P ds l (fun σ' => K σ' ∧ σ'.n = σ.n ∧ ∀ t, some t ∉ l.map (·.dst) → σ'.sl t = σ.sl t) σ := by
  induction l with
  | nil => intro σ h; exact ⟨h, rfl, fun _ _ => rfl⟩
  | cons o l ih =>
    intro σ h
    have next : ∀ σ1 : St, (σ1.n = σ.n ∧ ∀ t, o.dst ≠ some t → σ1.sl t = σ.sl t) → Ops P ds l K σ1 → Ops P ds l (fun σ' => K σ' ∧ σ'.n = σ.n ∧ ∀ t, some t ∉ (o :: l).map (·.dst) → σ'.sl t = σ.sl t) σ1 := by
      intro σ1 hf h1
      refine Ops_mono l (ih h1) fun σ2 ⟨a1, a2, a3⟩ => ⟨a1, a2.trans hf.1, fun t ht => ?_⟩
      simp only [List.map_cons, List.mem_cons, not_or] at ht
      rw [a3 t ht.2, hf.2 t (fun e => ht.1 e.symm)]
    unfold Ops at h ⊢
    split at h
    · exact T_mono (T_frame h) fun σ1 ⟨h1, h2⟩ => next σ1 h2 h1
    · split at h
      · have hsk : ∀ v : V, (σ.put o.dst v).n = σ.n ∧ ∀ t, o.dst ≠ some t → (σ.put o.dst v).sl t = σ.sl t := fun v => by
          cases hd : o.dst with
          | none => exact ⟨rfl, fun _ _ => rfl⟩
          | some d => exact ⟨rfl, fun t ht => upd_ne _ _ _ _ (fun e => ht (by rw [e]))⟩
        rcases onG_some h with ⟨q, hq, h1, h2⟩ | ⟨hq, h1⟩
        rotate_left
        · simp only [*, onG_skip]
          exact next _ (hsk _) h1
        simp only [*, onG_bool]
        refine ⟨fun hh => T_mono (T_frame (h1 hh)) fun σ1 ⟨h1, h2⟩ => next σ1 ?_ h1, fun hh => next _ ?_ (h2 hh)⟩
        · subst hh; rw [put_same hq] at h2; exact h2
        rw [← hh, put_same hq]
        cases hd : o.dst with
        | none => exact ⟨rfl, fun _ _ => rfl⟩
        | some d => exact ⟨rfl, fun t ht => upd_ne _ _ _ _ (fun e => ht (by rw [e]))⟩
      · exact h.elim

/-- The slots of a region, forgotten but for one. -/
def jn (sl : Nat → V) (ds : List (Option Tmp)) (t : Nat) (v : V) : Nat → V := fun x => if x = t then v else if ds.contains (some x) then .junk else sl x

/-- Whatever way a region goes: one slot is kept. -/
theorem AW_join {id : Nat} {ops : Array Oper} {K : Ex → St → Prop} {σ : St} (t : Nat) (v : V) (bl' : Int → Option Blk) (h1 : Ops P (ops.toList.map (·.dst)) ops.toList (fun σ' => σ'.sl t = v ∧ σ'.bl = bl') σ)
    (h2 : K .normal ⟨σ.n, jn σ.sl (ops.toList.map (·.dst)) t v, bl'⟩) : AW P (.region id ops false) K σ := by
  have h3 := Ops_frame ops.toList h1
  intro w0 M F a w hs
  refine wp_region_list (Ops_sound (F0 := F) (w0 := w0) (M := M) (fun σ' F' a' w' hF' hs' hK => ⟨.normal, ⟨σ.n, jn σ.sl (ops.toList.map (·.dst)) t v, bl'⟩, F', rfl, hF', hs'.le ⟨?_, fun x hx => ?_, fun g b hb => ?_⟩, h2⟩) _ σ F a w (fun _ h => h) h3 hs)
  · exact hK.2.1.symm
  · show jn σ.sl _ t v x = _ ∨ jn σ.sl _ t v x = _
    unfold jn
    split
    · rename_i hxt; subst hxt; exact .inl hK.1.1.symm
    · split
      · exact .inr rfl
      · rename_i hxt hc
        refine .inl (hK.2.2 x (fun hm => hc ?_)).symm
        simpa using hm
  · rw [hK.1.2]; exact hb

/-! ### Freezing -/
/-- Values that speak of no block of the call's own. -/
def V.cl : V → Bool
  | .bool _ | .int _ _ | .str _ | .nilp | .ptr _ | .sl _ => true
  | _ => false

def frz (bl : Int → Option Blk) : Nat → V → Option V
  | _, .bool b => some (.bool b)
  | _, .int k n => some (.int k n)
  | _, .str s => some (.str s)
  | _, .nilp => some .nilp
  | _, .nils => some (.sl [])
  | _, .sle => some (.sl [])
  | _, .ptr cs => some (.ptr cs)
  | _, .sl xs => some (.sl xs)
  | _, .junk => none
  | 0, _ => none
  | n + 1, .loc g sz k j => match bl g with
    | some b => if b.sz = sz then match b.els[k]? with
        | some e => if (e.drop j).all V.cl then some (.ptr (e.drop j)) else ((e.drop j).mapM (frz bl n)).map .ptr
        | none => none
      else none
    | none => none
  | n + 1, .lsl g sz o m => if g < 0 then some (.sl []) else match bl g with
    | some b => if b.sz = sz ∧ o + m ≤ b.els.length then
        (if ((b.els.drop o).take m).all (fun e => e.all V.cl) then some (.sl ((b.els.drop o).take m)) else (((b.els.drop o).take m).mapM (fun e : List V => e.mapM (frz bl n))).map .sl)
      else none
    | none => none
  | n + 1, .agg cs => if cs.all V.cl then some (.agg cs) else (cs.mapM (frz bl n)).map .agg
  | n + 1, .tup cs => if cs.all V.cl then some (.tup cs) else (cs.mapM (frz bl n)).map .tup
  | n + 1, .fn f cs => if cs.all V.cl then some (.fn f cs) else (cs.mapM (frz bl n)).map (.fn f)

def dropB (bl bl' : Int → Option Blk) : Int → Option Blk := fun g => match bl' g with | none => bl g | some _ => none

theorem mapM_get {f : V → Option V} {cs ds : List V} (h : cs.mapM f = some ds) : ds.length = cs.length ∧ ∀ (i : Nat) (y : V), ds[i]? = some y → ∃ x, cs[i]? = some x ∧ f x = some y := by
  induction cs generalizing ds with
  | nil => cases h; exact ⟨rfl, fun i y hy => by cases hy⟩
  | cons c cs ih =>
    rw [List.mapM_cons] at h
    cases hc : f c with
    | none => rw [hc] at h; cases h
    | some d =>
      rw [hc] at h
      cases hcs : cs.mapM f with
      | none => rw [hcs] at h; cases h
      | some ds' =>
        rw [hcs] at h
        cases h
        obtain ⟨h1, h2⟩ := ih hcs
        refine ⟨by simp [h1], fun i y hy => ?_⟩
        cases i with
        | zero => cases hy; exact ⟨c, rfl, hc⟩
        | succ i => exact h2 i y hy

theorem mapMM_get {f : V → Option V} {cs ds : List (List V)} (h : cs.mapM (fun e : List V => e.mapM f) = some ds) : ds.length = cs.length ∧ ∀ (i : Nat) (y : List V), ds[i]? = some y → ∃ x, cs[i]? = some x ∧ x.mapM f = some y := by
  induction cs generalizing ds with
  | nil => cases h; exact ⟨rfl, fun i y hy => by cases hy⟩
  | cons c cs ih =>
    rw [List.mapM_cons] at h
    cases hc : c.mapM f with
    | none => rw [hc] at h; cases h
    | some d =>
      rw [hc] at h
      cases hcs : cs.mapM (fun e : List V => e.mapM f) with
      | none => rw [hcs] at h; cases h
      | some ds' =>
        rw [hcs] at h
        cases h
        obtain ⟨h1, h2⟩ := ih hcs
        refine ⟨by simp [h1], fun i y hy => ?_⟩
        cases i with
        | zero => cases hy; exact ⟨c, rfl, hc⟩
        | succ i => exact h2 i y hy

/-- What is frozen reads as the values say. G: the blocks that are given up. -/
theorem frz_sound {G : Nat → Prop} (hm : ∀ g b, bl g = some b → BlkIn F w g b) (hG : ∀ g b, bl g = some b → 0 ≤ g → G g.toNat) (hFG : ∀ b, F b → G b) (n : Nat) :
    ∀ (x y : V) (v : Value), Rep F w x v → frz bl n x = some y → Rep G w y v := by
  have base : ∀ {x : V} {v : Value}, Rep F w x v → Rep G w x v := fun h => h.mono hFG (fun _ _ => rfl) (.refl _)
  induction n with
  | zero =>
    intro x y v hx h
    cases hx <;> simp only [frz] at h <;> first | (cases h; done) | (cases h; exact .sl0 none 0 (fun _ => rfl)) | (cases h; exact .sl0 (some _) _ (fun h => by cases h)) | (cases h; exact base (by constructor <;> assumption))
  | succ n ih =>
    intro x y v hx h
    have list : ∀ (cs ds : List V), (if cs.all V.cl then some cs else cs.mapM (frz bl n)) = some ds → ds.length = cs.length ∧ ∀ (i : Nat) (d : V) , ds[i]? = some d → ∃ c, cs[i]? = some c ∧ ∀ u, Rep F w c u → Rep G w d u := by
      intro cs ds h
      split at h
      · cases h; exact ⟨rfl, fun i d hd => ⟨d, hd, fun u hu => base hu⟩⟩
      · obtain ⟨h1, h2⟩ := mapM_get h
        refine ⟨h1, fun i d hd => ?_⟩
        obtain ⟨c, h3, h4⟩ := h2 i d hd
        exact ⟨c, h3, fun u hu => ih c d u hu h4⟩
    have wrap : ∀ (cs : List V) (k : List V → V) (y : V), (if cs.all V.cl then some (k cs) else (cs.mapM (frz bl n)).map k) = some y → ∃ ds, y = k ds ∧ (if cs.all V.cl then some cs else cs.mapM (frz bl n)) = some ds := by
      intro cs k y h
      split at h
      · rename_i hc; cases h; exact ⟨cs, rfl, by rw [if_pos hc]⟩
      · rename_i hc
        cases hcs : cs.mapM (frz bl n) with
        | none => rw [hcs] at h; cases h
        | some ds => rw [hcs] at h; cases h; exact ⟨ds, rfl, by rw [if_neg hc]⟩
    cases hx with
    | junk v => simp only [frz] at h; cases h
    | bool b => simp only [frz] at h; cases h; exact .bool b
    | int k n => simp only [frz] at h; cases h; exact .int k n
    | str s => simp only [frz] at h; cases h; exact .str s
    | nilp => simp only [frz] at h; cases h; exact .nilp
    | nils => simp only [frz] at h; cases h; exact .sl0 none 0 (fun _ => rfl)
    | sle a cap => simp only [frz] at h; cases h; exact .sl0 (some a) cap (fun h => by cases h)
    | ptr b o cs u hF hc hr => simp only [frz] at h; cases h; exact base (.ptr b o cs u hF hc hr)
    | sl0 ad cap ha => simp only [frz] at h; cases h; exact .sl0 ad cap ha
    | sl b o cap sz xs u hF hle hcap hsz hc hr => simp only [frz] at h; cases h; exact base (.sl b o cap sz xs u hF hle hcap hsz hc hr)
    | loc g sz k j =>
      simp only [frz] at h
      split at h
      · rename_i b hb
        split at h
        · rename_i hsz
          subst hsz
          split at h
          · rename_i e he
            obtain ⟨ds, rfl, h'⟩ := wrap _ V.ptr y h
            obtain ⟨h1, h2⟩ := list _ _ h'
            have hkl := (List.getElem?_eq_some_iff.1 he).1
            obtain ⟨hg0, hFg, c, t, hc, hlen, hcell⟩ := (hm g b hb).at hkl
            refine .ptr g.toNat (k * b.sz + j) ds (fun i => c.getD (k * b.sz + j + i) undef) (hG g b hb hg0) (fun i d hd => ?_) (fun i d hd => ?_)
            all_goals
              obtain ⟨x, hx, hr⟩ := h2 i d hd
              rw [List.getElem?_drop] at hx
              obtain ⟨_, u, hu, hru⟩ := (hcell k e he).2 (j + i) x hx
              have hu' : c[k * b.sz + j + i]? = some u := by rw [Nat.add_assoc]; exact hu
              have hgd : c.getD (k * b.sz + j + i) undef = u := by simp [Array.getD_eq_getD_getElem?, hu']
            · rw [cell_of_block hc, hu', hgd]
            · rw [hgd]; exact hr u hru
          · cases h
        · cases h
      · cases h
    | lsl g sz o m cap hg hle hcap hb =>
      simp only [frz] at h
      rw [if_neg (by omega)] at h
      split at h
      · rename_i b hbl
        split at h
        · rename_i hcc
          obtain ⟨rfl, hom⟩ := hcc
          have hl : ((b.els.drop o).take m).length = m := by simp; omega
          have key : ∃ ds, y = .sl ds ∧ ds.length = m ∧ ∀ (i : Nat) (d : List V), ds[i]? = some d → ∃ e, ((b.els.drop o).take m)[i]? = some e ∧ d.length = e.length ∧ ∀ (j : Nat) (z : V), d[j]? = some z → ∃ x, e[j]? = some x ∧ ∀ u, Rep F w x u → Rep G w z u := by
            split at h
            · cases h; exact ⟨_, rfl, hl, fun i d hd => ⟨d, hd, rfl, fun j z hz => ⟨z, hz, fun u hu => base hu⟩⟩⟩
            · cases hmm : (((b.els.drop o).take m).mapM (fun e : List V => e.mapM (frz bl n))) with
              | none => rw [hmm] at h; cases h
              | some ds =>
                rw [hmm] at h; cases h
                obtain ⟨h1, h2⟩ := mapMM_get hmm
                refine ⟨ds, rfl, by rw [h1, hl], fun i d hd => ?_⟩
                obtain ⟨e, h3, h4⟩ := h2 i d hd
                obtain ⟨h5, h6⟩ := mapM_get h4
                refine ⟨e, h3, h5, fun j z hz => ?_⟩
                obtain ⟨x, h7, h8⟩ := h6 j z hz
                exact ⟨x, h7, fun u hu => ih x z u hu h8⟩
          obtain ⟨ds, rfl, hdl, hds⟩ := key
          rcases Nat.eq_zero_or_pos m with rfl | hmpos
          · have : ds = [] := List.eq_nil_of_length_eq_zero hdl
            subst this
            exact .sl0 _ _ (fun h => by cases h)
          · obtain ⟨_, hFg, c, t, hc, hlen, hcell⟩ := (hm g b hbl).at (k := o) (by omega)
            have at_ : ∀ (i : Nat) (d : List V) (j : Nat) (z : V), ds[i]? = some d → d[j]? = some z → ∃ u, c[(o + i) * b.sz + j]? = some u ∧ Rep G w z u := by
              intro i d j z hd hz
              obtain ⟨e, he, _, hje⟩ := hds i d hd
              have hi : i < m := by rw [← hl]; exact (List.getElem?_eq_some_iff.1 he).1
              rw [List.getElem?_take_of_lt hi, List.getElem?_drop] at he
              obtain ⟨x, hx, hr⟩ := hje j z hz
              obtain ⟨_, u, hu, hru⟩ := (hcell (o + i) e he).2 j x hx
              exact ⟨u, hu, hr u hru⟩
            rw [← hdl]
            refine .sl g.toNat (o * b.sz) cap b.sz ds (fun i j => c.getD ((o + i) * b.sz + j) undef) (hG g b hbl hg) (by omega) hcap (fun d hd => ?_) (fun i d j z hd hz => ?_) (fun i d j z hd hz => ?_)
            · obtain ⟨i, hi⟩ := List.getElem?_of_mem hd
              obtain ⟨e, he, hle', _⟩ := hds i d hi
              have hi' : i < m := by rw [← hl]; exact (List.getElem?_eq_some_iff.1 he).1
              rw [List.getElem?_take_of_lt hi', List.getElem?_drop] at he
              rw [hle']; exact (hcell (o + i) e he).1
            · obtain ⟨u, hu, hr⟩ := at_ i d j z hd hz
              rw [cell_of_block hc, ← Nat.add_mul, hu]
              simp [Array.getD_eq_getD_getElem?, hu]
            · obtain ⟨u, hu, hr⟩ := at_ i d j z hd hz
              have : c.getD ((o + i) * b.sz + j) undef = u := by simp [Array.getD_eq_getD_getElem?, hu]
              rw [this]; exact hr
        · cases h
      · cases h
    | lsln g sz hg =>
      simp only [frz] at h
      rw [if_pos hg] at h
      cases h
      exact .sl0 none 0 (fun _ => rfl)
    | agg cs arr hlen hr =>
      simp only [frz] at h
      obtain ⟨ds, rfl, h'⟩ := wrap _ V.agg y h
      obtain ⟨h1, h2⟩ := list _ _ h'
      refine .agg ds arr (by rw [h1]; exact hlen) fun i d hd => ?_
      obtain ⟨c, h3, h4⟩ := h2 i d hd
      exact h4 _ (hr i c h3)
    | tup cs arr hlen hr =>
      simp only [frz] at h
      obtain ⟨ds, rfl, h'⟩ := wrap _ V.tup y h
      obtain ⟨h1, h2⟩ := list _ _ h'
      refine .tup ds arr (by rw [h1]; exact hlen) fun i d hd => ?_
      obtain ⟨c, h3, h4⟩ := h2 i d hd
      exact h4 _ (hr i c h3)
    | fn f cs arr hlen hr =>
      simp only [frz] at h
      obtain ⟨ds, rfl, h'⟩ := wrap _ (V.fn f) y h
      obtain ⟨h1, h2⟩ := list _ _ h'
      refine .fn f ds arr (by rw [h1]; exact hlen) fun i d hd => ?_
      obtain ⟨c, h3, h4⟩ := h2 i d hd
      exact h4 _ (hr i c h3)

end
end Go.Proofs.Ytpkphjoobeacfaa.Vm
