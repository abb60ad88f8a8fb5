/- Contracts: from a body's run to a call; freezing; read-only contracts and borrowing. -/
import Derived.Test.YtpkphjoobeacfaaVmJ
namespace Go.Proofs.Ytpkphjoobeacfaa.Vm
open Go Go.RowKit
set_option linter.unusedSimpArgs false
set_option linter.unusedVariables false

def resV (P : Program) (σ : St) : List ResultVar → Option (List V)
  | [] => some []
  | .tmp t :: r => match resV P σ r with | some vs => some (σ.ev (.tmp t) :: vs) | none => none
  | .cell a t :: r => match rdP σ.bl (σ.ev (.tmp a)) with
    | some cs => match loadV P t cs with
      | some v => match resV P σ r with | some vs => some (v :: vs) | none => none
      | none => none
    | none => none
def retV : List V → V
  | [v] => v
  | vs => .tup vs
def retK (P : Program) (rs : List ResultVar) (k : V → (Int → Option Blk) → Prop) : Ex → St → Prop
  | .exit _, _ => False
  | _, σ => ∃ vs, resV P σ rs = some vs ∧ k (retV vs) σ.bl
theorem retK_ret {P : Program} {rs : List ResultVar} {k : V → (Int → Option Blk) → Prop} {σ : St} : retK P rs k .ret σ = ∃ vs, resV P σ rs = some vs ∧ k (retV vs) σ.bl := rfl
theorem retK_normal {P : Program} {rs : List ResultVar} {k : V → (Int → Option Blk) → Prop} {σ : St} : retK P rs k .normal σ = ∃ vs, resV P σ rs = some vs ∧ k (retV vs) σ.bl := rfl

section
variable {P : Program} {σ : St} {w0 : World} {M F : Nat → Prop} {a : Act} {w : World} {bl : Int → Option Blk}

theorem run_at (hm : Mem w0 M F σ.bl w) {x : V} {xv : Value} (hx : Rep F w x xv) {cs : List V} {t : TypeId} {v : V} (hcs : rdP σ.bl x = some cs) (hv : loadV P t cs = some v) :
    ∃ b o r, xv = .pointer (some ⟨b, o, none⟩) ∧ (loadVar t ⟨b, o, none⟩).run P w = .ok r w ∧ Rep F w v r := by
  rcases rdP_cells hm hx hcs with rfl | ⟨b, off, u, he, hc⟩
  · cases hx <;> simp only [rdP] at hcs <;> try (cases hcs; done)
    · rename_i b off cs u hF hc hr
      obtain ⟨r, hrun, hrep⟩ := run_loadVar (F := F) (w := w) (P := P) (b := b) (o := off) (cs := []) u (fun i y hy => by cases hy) hv
      exact ⟨b, off, r, rfl, hrun, hrep⟩
    · rename_i g sz k j
      obtain ⟨r, hrun, hrep⟩ := run_loadVar (F := F) (w := w) (P := P) (b := g.toNat) (o := k * sz + j) (cs := []) (fun _ => undef) (fun i y hy => by cases hy) hv
      exact ⟨_, _, r, rfl, hrun, hrep⟩
  · obtain ⟨r, hrun, hrep⟩ := run_loadVar (P := P) u hc hv
    exact ⟨b, off, r, he, hrun, hrep⟩

def resRun (tmps : Array Value) : ResultVar → Sem Value
  | .tmp t => pure (tmps.getD t undef)
  | .cell ad t => do loadVar t (← asAddr (tmps.getD ad undef))

theorem res_sound (hs : Sim w0 M F σ a w) (rs : List ResultVar) : ∀ vs : List V, resV P σ rs = some vs → ∃ us : List Value, us.length = vs.length ∧ (∀ (i : Nat) (v : V), vs[i]? = some v → ∃ u : Value, us[i]? = some u ∧ Rep F w v u) ∧
    (rs.mapM (resRun a.tmps)).run P w = .ok us w := by
  induction rs with
  | nil => intro vs h; cases h; exact ⟨[], rfl, (fun i v hv => by cases hv), rfl⟩
  | cons r rs ih =>
    intro vs h
    cases r with
    | tmp t =>
      simp only [resV] at h
      split at h
      · rename_i vs' hvs
        cases h
        obtain ⟨us, h1, h2, h3⟩ := ih vs' hvs
        refine ⟨a.tmps.getD t undef :: us, by simp [h1], fun i v hv => ?_, ?_⟩
        · cases i with
          | zero => cases hv; exact ⟨_, rfl, hs.ev (.tmp t)⟩
          | succ i => exact h2 i v hv
        · rw [List.mapM_cons, Sem.run_bind, resRun, Sem.run_pure, Result.andThen_ok, Sem.run_bind, h3, Result.andThen_ok, Sem.run_pure]
      · cases h
    | cell ad t =>
      simp only [resV] at h
      split at h
      · rename_i cs hcs
        split at h
        · rename_i v hv
          split at h
          · rename_i vs' hvs
            cases h
            obtain ⟨us, h1, h2, h3⟩ := ih vs' hvs
            obtain ⟨b, o, u, hx, hrun, hrep⟩ := run_at (P := P) hs.mem (hs.ev (.tmp ad)) hcs hv
            have hx' : a.tmps.getD ad undef = .pointer (some ⟨b, o, none⟩) := hx
            refine ⟨u :: us, by simp [h1], fun i v hv => ?_, ?_⟩
            · cases i with
              | zero => cases hv; exact ⟨_, rfl, hrep⟩
              | succ i => exact h2 i v hv
            · have hone : (resRun a.tmps (.cell ad t)).run P w = .ok u w := by
                simp only [resRun, hx', asAddr, Sem.run_bind, Sem.run_pure, Result.andThen_ok, hrun]
              rw [List.mapM_cons, Sem.run_bind, hone, Result.andThen_ok, Sem.run_bind, h3, Result.andThen_ok, Sem.run_pure]
          · cases h
        · cases h
      · cases h

theorem results_sound (hs : Sim w0 M F σ a w) {fn : Func} {vs : List V} (h : resV P σ fn.results.toList = some vs) : ∃ v, (results fn a.tmps).run P w = .ok v w ∧ Rep F w (retV vs) v := by
  obtain ⟨us, h1, h2, h3⟩ := res_sound (P := P) hs fn.results.toList vs h
  have hr : (results fn a.tmps).run P w = .ok (if h : us.toArray.size = 1 then us.toArray[0] else .tuple us.toArray) w := by
    have hres : results fn a.tmps = (fn.results.mapM (resRun a.tmps)).bind fun vs => (pure (if h : vs.size = 1 then vs[0] else .tuple vs) : Sem Value) := by
      unfold results
      show Sem.bind _ _ = _
      congr 1
    have hm : (fn.results.mapM (resRun a.tmps)).run P w = .ok us.toArray w := by
      rw [Array.mapM_eq_mapM_toList, Sem.run_map, h3]; rfl
    rw [hres, Sem.run_bind', hm]
    rfl
  refine ⟨_, hr, ?_⟩
  match vs, us, h1, h2 with
  | [v], [u], _, h2 =>
    obtain ⟨u', hu, hrep⟩ := h2 0 v rfl
    cases hu
    exact hrep
  | [], [], _, _ => exact .tup _ _ rfl fun i x hx => by cases hx
  | v1 :: v2 :: vs, u1 :: u2 :: us, h1, h2 =>
    rw [dif_neg (by simp)]
    refine .tup _ _ (by simpa using h1) fun i x hx => ?_
    obtain ⟨u, hu, hrep⟩ := h2 i x hx
    have : (u1 :: u2 :: us).toArray.getD i undef = u := by simp [Array.getD_eq_getD_getElem?, hu]
    rw [this]; exact hrep

/-- The blocks of the call's own that live. -/
def Own (bl : Int → Option Blk) : Nat → Prop := fun k => ∃ g b, bl g = some b ∧ 0 ≤ g ∧ g.toNat = k

theorem Mem.start (h : Mem w0 M F bl w) : Mem w (Own bl) F bl w :=
  ⟨rfl, rfl, rfl, Nat.le_refl _, fun _ _ _ => rfl, .refl w, h.fr, h.fin, fun g b hb h0 => .inr ⟨g, b, hb, h0, rfl⟩, h.blk⟩

theorem Mem.back {bl' : Int → Option Blk} {F' : Nat → Prop} {w' : World} (h : Mem w0 M F bl w) (h' : Mem w (Own bl) F' bl' w') : Mem w0 M F' bl' w' ∧ (∀ b, F b → w'.heap[b]? = w.heap[b]?) ∧ Shapes w w' := by
  have hown : ∀ k, Own bl k → w0.heap.size ≤ k ∨ M k := by
    rintro k ⟨g, b, hb, h0, rfl⟩; exact h.own g b hb h0
  refine ⟨⟨h'.os.trans h.os, h'.tape.trans h.tape, h'.output.trans h.output, Nat.le_trans h.size h'.size, fun k hk hM => ?_, h.shapes.trans h'.shapes, h'.fr, h'.fin, fun g b hb h0 => ?_, h'.blk⟩, fun b hb => ?_, h'.shapes⟩
  · rw [h'.frame k (Nat.lt_of_lt_of_le hk h.size) (fun ho => by rcases hown k ho with h1 | h1; omega; exact hM h1)]
    exact h.frame k hk hM
  · rcases h'.own g b hb h0 with h1 | h1
    · exact .inl (Nat.le_trans h.size h1)
    · exact hown _ h1
  · refine h'.frame b (h.fr b hb) ?_
    rintro ⟨g, bb, hbb, h0, rfl⟩
    have := h.blk g bb hbb
    unfold BlkIn at this
    rw [if_neg (by omega)] at this
    exact this.1 hb

theorem callP_of {f : FuncId} {fn : Func} {c : Code} {xs : List V} {k : V → (Int → Option Blk) → Prop} (hf : P.funcs[f]? = some fn) (hb : fn.body = some c) (hn : (fn.name == "runtime.NumGoroutine") = false)
    (hl : xs.length ≤ fn.ntmps) (h : AW P c (retK P fn.results.toList k) ⟨fn.ntmps, fun t => xs.getD t .junk, bl⟩) : CallP P f xs bl k := by
  refine ⟨⟨fn, hf, hn, by rw [hb]; rfl⟩, fun w0 M F w vs hm hr => ?_⟩
  refine calls_of_wp hf hb ?_
  have hs : Sim w (Own bl) F ⟨fn.ntmps, fun t => xs.getD t .junk, bl⟩ { tmps := vs ++ Array.replicate (fn.ntmps - vs.size) undef, defers := [] } w := by
    refine ⟨hm.start, by simp [hr.1]; omega, fun t ht => ?_, rfl⟩
    show Rep F w (xs.getD t .junk) _
    rw [List.getD_eq_getElem?_getD]
    cases hx : xs[t]? with
    | none => exact .junk _
    | some x =>
      have hlt : t < vs.size := by rw [hr.1]; exact (List.getElem?_eq_some_iff.1 hx).1
      have h1 := hr.2 t x hx
      have h2 : (vs ++ Array.replicate (fn.ntmps - vs.size) undef).getD t undef = vs.getD t undef := by
        rw [Array.getD_eq_getD_getElem?, Array.getElem?_append_left hlt, ← Array.getD_eq_getD_getElem?]
      rw [h2]; exact h1
  refine wp_mono (h w (Own bl) F _ w hs) fun e a' w' hp => ?_
  obtain ⟨ex, σ', F', rfl, hF, hs', hK⟩ := hp
  have fin : (∃ vs, resV P σ' fn.results.toList = some vs ∧ k (retV vs) σ'.bl) → a'.defers = [] ∧ ∃ v, (results fn a'.tmps).run P w' = .ok v w' ∧
      (fun e w' => ∃ v r bl' F', e = Ending.returned v ∧ (∀ b, F b → F' b) ∧ (∀ b, F b → w'.heap[b]? = w.heap[b]?) ∧ Shapes w w' ∧ Mem w0 M F' bl' w' ∧ Rep F' w' r v ∧ k r bl') (.returned v) w' := by
    rintro ⟨vs', hv, hk⟩
    obtain ⟨v, hrun, hrep⟩ := results_sound (P := P) hs' hv
    obtain ⟨b1, b2, b3⟩ := hm.back hs'.mem
    exact ⟨hs'.defers, v, hrun, v, _, _, F', rfl, hF, b2, b3, b1, hrep, hk⟩
  cases ex with
  | exit i => exact hK.elim
  | ret => exact fin hK
  | normal => exact fin hK

theorem CallP.mono {f : FuncId} {xs : List V} {k k' : V → (Int → Option Blk) → Prop} (h : CallP P f xs bl k) (hk : ∀ v b, k v b → k' v b) : CallP P f xs bl k' :=
  ⟨h.1, fun w0 M F w vs hm hr => (h.2 w0 M F w vs hm hr).mono fun e w' ⟨v, r, bl', F', h1, h2, h3, h4, h5, h6, h7⟩ => ⟨v, r, bl', F', h1, h2, h3, h4, h5, h6, hk _ _ h7⟩⟩

def Sub (bl bl' : Int → Option Blk) : Prop := ∀ g b, bl g = some b → bl' g = some b
theorem Sub.refl (bl : Int → Option Blk) : Sub bl bl := fun _ _ h => h
theorem Sub.upd {bl bl' : Int → Option Blk} (h : Sub bl bl') {g : Int} (hg : bl g = none) (b : Option Blk) : Sub bl (upd bl' g b) := fun g' b' hb => by
  rw [upd_ne _ _ _ _ (fun e => by subst e; rw [hg] at hb; cases hb)]; exact h g' b' hb
theorem Sub.rem {bl bl' : Int → Option Blk} (h : Sub bl bl') {g : Int} (hg : bl g = none) : Sub bl (rem bl' g) := fun g' b' hb => by
  unfold Vm.rem; rw [if_neg (fun e => by subst e; rw [hg] at hb; cases hb)]; exact h g' b' hb

/-- The blocks that are given up join the frozen ones. -/
theorem Mem.freeze {bl2 : Int → Option Blk} (h : Mem w0 M F bl w) (hs : Sub bl2 bl) : Mem w0 M (fun k => F k ∨ Own (dropB bl bl2) k) bl2 w := by
  have hlt : ∀ g b, bl g = some b → 0 ≤ g → g.toNat < w.heap.size := fun g b hb h0 => by
    have := h.blk g b hb
    unfold BlkIn at this
    rw [if_neg (by omega)] at this
    obtain ⟨_, c, t, hc, _⟩ := this
    exact (Array.getElem?_eq_some_iff.1 hc).1
  refine ⟨h.os, h.tape, h.output, h.size, h.frame, h.shapes, fun k hk => ?_, ?_, fun g b hb => h.own g b (hs g b hb), fun g b hb => ?_⟩
  · rcases hk with hk | ⟨g, b, hb, h0, rfl⟩
    · exact h.fr k hk
    · unfold dropB at hb
      split at hb
      · exact hlt g b hb h0
      · cases hb
  · obtain ⟨n, hn⟩ := h.fin
    refine ⟨n, fun g hg => ?_⟩
    cases hb : bl2 g with
    | none => rfl
    | some b => have := hs g b hb; rw [hn g hg] at this; cases this
  · refine (h.blk g b (hs g b hb)).mono (fun k hk => .inl hk) (fun h0 hF => ?_) (fun _ _ => rfl) (.refl w) (fun _ => rfl)
    rcases hF with hF | ⟨g', b', hb', h0', he⟩
    · have := h.blk g b (hs g b hb)
      unfold BlkIn at this
      rw [if_neg (by omega)] at this
      exact this.1 hF
    · have : g' = g := by omega
      subst this
      unfold dropB at hb'
      rw [hb] at hb'
      cases hb'

theorem dropB_blk {bl2 : Int → Option Blk} (h : Mem w0 M F bl w) (g : Int) (b : Blk) (hb : dropB bl bl2 g = some b) : BlkIn F w g b := by
  unfold dropB at hb
  split at hb
  · exact h.blk g b hb
  · cases hb

/-- Behind a call: what it has made is frozen into the value. -/
theorem callP_frz {f : FuncId} {xs : List V} {bl2 : Int → Option Blk} {r : V} {k : V → (Int → Option Blk) → Prop} (h : CallP P f xs bl fun v bl' => ∃ n, frz (dropB bl' bl2) n v = some r ∧ Sub bl2 bl') (hk : k r bl2) : CallP P f xs bl k :=
  ⟨h.1, fun w0 M F w vs hm hr => (h.2 w0 M F w vs hm hr).mono fun e w' ⟨v, x, bl', F', h1, h2, h3, h4, h5, h6, n, h7, h8⟩ =>
    ⟨v, r, bl2, _, h1, fun b hb => .inl (h2 b hb), h3, h4, h5.freeze h8, frz_sound (fun g b hb => dropB_blk h5 g b hb) (fun g b hb h0 => .inr ⟨g, b, hb, h0, rfl⟩) (fun b hb => .inl hb) n x r v h6 h7, hk⟩⟩

/-- The function reads its arguments and tells r; it may hand on what it has read. -/
def RO (P : Program) (f : FuncId) (xs : List V) (r : V) : Prop := ∀ bl, CallP P f xs bl fun v bl' => v = r ∧ bl' = bl

theorem ro_of {f : FuncId} {fn : Func} {c : Code} {xs : List V} {r : V} (hf : P.funcs[f]? = some fn) (hb : fn.body = some c) (hn : (fn.name == "runtime.NumGoroutine") = false) (hl : xs.length ≤ fn.ntmps)
    (h : ∀ bl, AW P c (retK P fn.results.toList fun v bl' => ∃ n, frz (dropB bl' bl) n v = some r ∧ Sub bl bl') ⟨fn.ntmps, fun t => xs.getD t .junk, bl⟩) : RO P f xs r :=
  fun bl => callP_frz (callP_of hf hb hn hl (h bl)) ⟨rfl, rfl⟩

theorem callP_ro {f : FuncId} {xs : List V} {r : V} {k : V → (Int → Option Blk) → Prop} (h : RO P f xs r) (hk : k r bl) : CallP P f xs bl k := (h bl).mono fun v b ⟨hv, hb⟩ => by subst hv hb; exact hk

/-- Values that hold no address at all. -/
def V.sc : V → Bool
  | .bool _ | .int _ _ | .str _ | .nilp | .nils => true
  | .tup vs => vs.all fun v => match v with | .bool _ | .int _ _ | .str _ | .nilp | .nils => true | _ => false
  | .agg vs => vs.all fun v => match v with | .bool _ | .int _ _ | .str _ | .nilp | .nils => true | _ => false
  | _ => false
theorem rep_sc {G : Nat → Prop} {w' : World} {x : V} {v : Value} (hx : x.sc = true) (h : Rep F w x v) : Rep G w' x v := by
  have one : ∀ {y : V} {u : Value}, (match y with | .bool _ | .int _ _ | .str _ | .nilp | .nils => true | _ => false) = true → Rep F w y u → Rep G w' y u := by
    intro y u hy h
    cases h <;> simp at hy <;> constructor
  cases h <;> simp only [V.sc] at hx <;> try (cases hx; done)
  case bool => exact .bool _
  case int => exact .int _ _
  case str => exact .str _
  case nilp => exact .nilp
  case nils => exact .nils
  case agg cs arr hlen hr => exact .agg cs arr hlen fun i y hy => one (List.all_eq_true.1 hx y (List.mem_of_getElem? hy)) (hr i y hy)
  case tup cs arr hlen hr => exact .tup cs arr hlen fun i y hy => one (List.all_eq_true.1 hx y (List.mem_of_getElem? hy)) (hr i y hy)

def frzL (bl : Int → Option Blk) (n : Nat) : List V → Option (List V)
  | [] => some []
  | x :: xs => match frz bl n x, frzL bl n xs with | some y, some ys => some (y :: ys) | _, _ => none

theorem frzL_get {bl : Int → Option Blk} {n : Nat} : ∀ {xs ys : List V}, frzL bl n xs = some ys → ys.length = xs.length ∧ ∀ (i : Nat) (y : V), ys[i]? = some y → ∃ x, xs[i]? = some x ∧ frz bl n x = some y
  | [], ys, h => by cases h; exact ⟨rfl, fun i y hy => by cases hy⟩
  | x :: xs, ys, h => by
    simp only [frzL] at h
    split at h
    · rename_i y' ys' h1 h2
      cases h
      obtain ⟨h3, h4⟩ := frzL_get h2
      refine ⟨by simp [h3], fun i y hy => ?_⟩
      cases i with
      | zero => cases hy; exact ⟨x, rfl, h1⟩
      | succ i => exact h4 i y hy
    · cases h

/-- A read-only call that tells a plain value may be handed data of the call's own. -/
theorem callP_borrow {f : FuncId} {xs ys : List V} {r : V} {k : V → (Int → Option Blk) → Prop} (n : Nat) (hx : frzL bl n xs = some ys) (h : RO P f ys r) (hr : r.sc = true) (hk : k r bl) : CallP P f xs bl k := by
  have h0 := h (fun _ => none)
  refine ⟨h0.1, fun w0 M F w vs hm hrep => ?_⟩
  have hm1 : Mem w (Own bl) (fun k => F k ∨ Own (dropB bl fun _ => none) k) (fun _ => none) w := hm.start.freeze (fun g b hb => by cases hb)
  have hlen := frzL_get hx
  have hreps : Reps (fun k => F k ∨ Own (dropB bl fun _ => none) k) w ys vs := by
    refine ⟨by rw [hrep.1, hlen.1], fun i y hy => ?_⟩
    obtain ⟨x, h1, h2⟩ := hlen.2 i y hy
    exact frz_sound (fun g b hb => hm.blk g b hb) (fun g b hb h0 => .inr ⟨g, b, by unfold dropB; exact hb, h0, rfl⟩) (fun b hb => .inl hb) n x y _ (hrep.2 i x h1) h2
  refine (h0.2 w (Own bl) _ w vs hm1 hreps).mono fun e w' ⟨v, x, bl', F', h1, h2, h3, h4, h5, h6, h7, h8⟩ => ?_
  subst h7 h8
  have hF : ∀ b, F b → w'.heap[b]? = w.heap[b]? := fun b hb => h3 b (.inl hb)
  have hO : ∀ g b, bl g = some b → 0 ≤ g → w'.heap[g.toNat]? = w.heap[g.toNat]? := fun g b hb h0 => h3 _ (.inr ⟨g, b, by unfold dropB; exact hb, h0, rfl⟩)
  refine ⟨v, x, bl, F, h1, fun _ h => h, hF, h4, ?_, rep_sc hr h6, hk⟩
  refine hm.step h5.os h5.tape h5.output h5.size h4 (fun k => Own bl k) (fun k hk hX => h5.frame k hk hX) (fun k hk => by obtain ⟨g, b, hb, h0, rfl⟩ := hk; exact hm.own g b hb h0)
    (fun k hk => Nat.lt_of_lt_of_le (hm.fr k hk) h5.size) hm.fin fun g b hb => ⟨hm.own g b hb, ?_⟩
  refine (hm.blk g b hb).mono (fun _ h => h) (fun h0 hFg => ?_) hF h4 (fun h0 => hO g b hb h0)
  have := hm.blk g b hb
  unfold BlkIn at this
  rw [if_neg (by omega)] at this
  exact this.1 hFg

/-- Slots are frozen, and the blocks that they speak of are given up. -/
theorem AW_frz {c : Code} {K : Ex → St → Prop} (n : Nat) (sl' : Nat → V) (bl2 : Int → Option Blk) (hsub : Sub bl2 σ.bl) (hsl : ∀ t, sl' t = σ.sl t ∨ frz (dropB σ.bl bl2) n (σ.sl t) = some (sl' t))
    (h : AW P c K ⟨σ.n, sl', bl2⟩) : AW P c K σ := by
  intro w0 M F a w hs
  have hs' : Sim w0 M (fun k => F k ∨ Own (dropB σ.bl bl2) k) ⟨σ.n, sl', bl2⟩ a w := by
    refine ⟨hs.mem.freeze hsub, hs.size, fun t ht => ?_, hs.defers⟩
    rcases hsl t with h1 | h1
    · show Rep _ w (sl' t) _
      rw [h1]; exact (hs.sl t ht).mono (fun b hb => .inl hb) (fun _ _ => rfl) (.refl w)
    · exact frz_sound (fun g b hb => dropB_blk hs.mem g b hb) (fun g b hb h0 => .inr ⟨g, b, hb, h0, rfl⟩) (fun b hb => .inl hb) n _ _ _ (hs.sl t ht) h1
  exact wp_mono (h w0 M _ a w hs') fun _ _ _ hp => hp.weaken fun b hb => .inl hb

/-- A nil slice is seen as an empty one of the call's own. -/
theorem AW_ghost {c : Code} {K : Ex → St → Prop} (t sz : Nat) (ht : σ.sl t = .nils) (h : ∀ g : Int, σ.bl g = none → AW P c K ⟨σ.n, upd σ.sl t (.lsl g sz 0 0), upd σ.bl g (some ⟨sz, []⟩)⟩) : AW P c K σ := by
  intro w0 M F a w hs
  obtain ⟨g, hg0, hgn, hm⟩ := hs.mem.ghost sz
  refine h g hgn w0 M F a w ⟨hm, hs.size, fun t' ht' => ?_, hs.defers⟩
  show Rep F w (upd σ.sl t (.lsl g sz 0 0) t') _
  by_cases hh : t' = t
  · subst hh
    rw [upd_same]
    have := hs.sl t' ht'
    rw [ht] at this
    generalize hv : a.tmps.getD t' undef = v at this
    cases this
    exact .lsln g sz hg0
  · rw [upd_ne _ _ _ _ hh]; exact hs.sl t' ht'

end
end Go.Proofs.Ytpkphjoobeacfaa.Vm
