/- Regions that draw and read, with calls behind guards. -/

import Derived.Test.YticmgmemnpcbbaaGreatQCFnExactCanCarry10

namespace Go.Proofs.YticmgmemnpcbbaaGreat.Vm
open Go Go.RowKit Go.Proofs
set_option linter.unusedSimpArgs false
set_option linter.unusedVariables false

/-- Is it a call behind a guard? -/
def isGC : Oper → Bool
  | ⟨_, .call ⟨.value _, _, _⟩, _, _, _, some _⟩ => true
  | _ => false
section
variable (P : Program) (ds : List (Option Tmp)) (blK : Int → Option Blk)
def HoistG : List Oper → (St → Prop) → St → Prop
  | [], K, σ => K σ
  | o :: rest, K, σ => match o with
    | ⟨d, .call ⟨.value f, args, _⟩, _, _, _, some (j, b)⟩ => match ds[j]? with
      | some (some t) => match σ.ev (.tmp t) with
        | .bool q => if q = b then bindP (callV σ f args.toList) fun p => ∃ v, RO P p.1 p.2 v ∧ HoistG rest K (σ.put d v) else HoistG rest K (σ.put d (.tup []))
        | .tup [] => HoistG rest K (σ.put d (.tup []))
        | _ => False
      | _ => False
    | o => HoistF P ds blK [o] (HoistG rest K) σ
def gcK (rest : List Oper) (K : St → Prop) (σ : St) (d : Option Tmp) (o : Option (FuncId × List V)) : Prop := bindP o fun p => ∃ v, RO P p.1 p.2 v ∧ HoistG P ds blK rest K (σ.put d v)
def gcV (rest : List Oper) (K : St → Prop) (σ : St) (d : Option Tmp) (f : Operand) (args : Array Operand) (b : Bool) (x : V) : Prop := match x with
  | .bool q => if q = b then gcK P ds blK rest K σ d (callV σ f args.toList) else HoistG P ds blK rest K (σ.put d (.tup []))
  | .tup [] => HoistG P ds blK rest K (σ.put d (.tup []))
  | _ => False
def gcS (rest : List Oper) (K : St → Prop) (σ : St) (d : Option Tmp) (f : Operand) (args : Array Operand) (b : Bool) (x : Option (Option Tmp)) : Prop := match x with
  | some (some t) => gcV P ds blK rest K σ d f args b (σ.ev (.tmp t))
  | _ => False
variable (rest : List Oper) (K : St → Prop) (σ : St) (d : Option Tmp) (f : Operand) (args : Array Operand) (ats : Array TypeId) (ty : TypeId) (pos : String) (af : Array Edge) (b : Bool)
@[simp] theorem HoistG_nil : HoistG P ds blK [] K σ = K σ := (rfl)
@[simp] theorem HoistG_call (j : Nat) : HoistG P ds blK (⟨d, .call ⟨.value f, args, ats⟩, ty, pos, af, some (j, b)⟩ :: rest) K σ = gcS P ds blK rest K σ d f args b (ds[j]?) := (rfl)
@[simp] theorem gcS_some (t : Tmp) : gcS P ds blK rest K σ d f args b (some (some t)) = gcV P ds blK rest K σ d f args b (σ.ev (.tmp t)) := (rfl)
@[simp] theorem gcV_tt : gcV P ds blK rest K σ d f args true (.bool true) = gcK P ds blK rest K σ d (callV σ f args.toList) := by simp [gcV]
@[simp] theorem gcV_ff : gcV P ds blK rest K σ d f args false (.bool false) = gcK P ds blK rest K σ d (callV σ f args.toList) := by simp [gcV]
@[simp] theorem gcV_tf : gcV P ds blK rest K σ d f args true (.bool false) = HoistG P ds blK rest K (σ.put d (.tup [])) := by simp [gcV]
@[simp] theorem gcV_ft : gcV P ds blK rest K σ d f args false (.bool true) = HoistG P ds blK rest K (σ.put d (.tup [])) := by simp [gcV]
@[simp] theorem gcV_skip : gcV P ds blK rest K σ d f args b (.tup []) = HoistG P ds blK rest K (σ.put d (.tup [])) := (rfl)
theorem HoistG_other {o : Oper} (h : isGC o = false) : HoistG P ds blK (o :: rest) K σ = HoistF P ds blK [o] (HoistG P ds blK rest K) σ := by
  obtain ⟨d, op, ty, pos, af, gd⟩ := o
  unfold HoistG
  split
  · rename_i heq
    cases heq
    cases h
  · rfl
end
section
variable (P : Program) (ds : List (Option Tmp)) (blK : Int → Option Blk) (rest : List Oper) (K : St → Prop) (σ : St) (d : Option Tmp) (ty : TypeId) (pos : String) (af : Array Edge) (g : Nat × Bool)
attribute [-simp] HoistF_nil
@[simp high] theorem HoistF_nil_x : HoistF P ds blK [] K σ = K σ := (rfl)
theorem isGC_none (op : Op) : isGC ⟨d, op, ty, pos, af, none⟩ = false := by
  unfold isGC
  split
  · rename_i h; cases h
  · rfl
@[simp] theorem HoistG_none (op : Op) : HoistG P ds blK (⟨d, op, ty, pos, af, none⟩ :: rest) K σ = HoistF P ds blK [⟨d, op, ty, pos, af, none⟩] (HoistG P ds blK rest K) σ := HoistG_other _ _ _ _ _ _ (isGC_none _ _ _ _ _)
@[simp] theorem HoistG_move (x : Operand) : HoistG P ds blK (⟨d, .move x, ty, pos, af, some g⟩ :: rest) K σ = HoistF P ds blK [⟨d, .move x, ty, pos, af, some g⟩] (HoistG P ds blK rest K) σ := HoistG_other _ _ _ _ _ _ rfl
@[simp] theorem HoistG_assign (x : Operand) : HoistG P ds blK (⟨d, .assign x, ty, pos, af, some g⟩ :: rest) K σ = HoistF P ds blK [⟨d, .assign x, ty, pos, af, some g⟩] (HoistG P ds blK rest K) σ := HoistG_other _ _ _ _ _ _ rfl
@[simp] theorem HoistG_pick (c a b : Operand) : HoistG P ds blK (⟨d, .pick c a b, ty, pos, af, some g⟩ :: rest) K σ = HoistF P ds blK [⟨d, .pick c a b, ty, pos, af, some g⟩] (HoistG P ds blK rest K) σ := HoistG_other _ _ _ _ _ _ rfl
@[simp] theorem HoistG_load (t : TypeId) (x : Operand) : HoistG P ds blK (⟨d, .load t x, ty, pos, af, some g⟩ :: rest) K σ = HoistF P ds blK [⟨d, .load t x, ty, pos, af, some g⟩] (HoistG P ds blK rest K) σ := HoistG_other _ _ _ _ _ _ rfl
@[simp] theorem HoistG_nilCheck (x : Operand) : HoistG P ds blK (⟨d, .nilCheck x, ty, pos, af, some g⟩ :: rest) K σ = HoistF P ds blK [⟨d, .nilCheck x, ty, pos, af, some g⟩] (HoistG P ds blK rest K) σ := HoistG_other _ _ _ _ _ _ rfl
@[simp] theorem HoistG_binOp (op : BinOp) (t : TypeId) (x y : Operand) (t2 : TypeId) : HoistG P ds blK (⟨d, .binOp op t x y t2, ty, pos, af, some g⟩ :: rest) K σ = HoistF P ds blK [⟨d, .binOp op t x y t2, ty, pos, af, some g⟩] (HoistG P ds blK rest K) σ := HoistG_other _ _ _ _ _ _ rfl
@[simp] theorem HoistG_unOp (op : UnOp) (t : TypeId) (x : Operand) : HoistG P ds blK (⟨d, .unOp op t x, ty, pos, af, some g⟩ :: rest) K σ = HoistF P ds blK [⟨d, .unOp op t x, ty, pos, af, some g⟩] (HoistG P ds blK rest K) σ := HoistG_other _ _ _ _ _ _ rfl
@[simp] theorem HoistG_fieldAddr (t : TypeId) (x : Operand) (i : Nat) : HoistG P ds blK (⟨d, .fieldAddr t x i, ty, pos, af, some g⟩ :: rest) K σ = HoistF P ds blK [⟨d, .fieldAddr t x i, ty, pos, af, some g⟩] (HoistG P ds blK rest K) σ := HoistG_other _ _ _ _ _ _ rfl
@[simp] theorem HoistG_indexAddr (t : TypeId) (x i : Operand) : HoistG P ds blK (⟨d, .indexAddr t x i, ty, pos, af, some g⟩ :: rest) K σ = HoistF P ds blK [⟨d, .indexAddr t x i, ty, pos, af, some g⟩] (HoistG P ds blK rest K) σ := HoistG_other _ _ _ _ _ _ rfl
@[simp] theorem HoistG_extract (x : Operand) (i : Nat) : HoistG P ds blK (⟨d, .extract x i, ty, pos, af, some g⟩ :: rest) K σ = HoistF P ds blK [⟨d, .extract x i, ty, pos, af, some g⟩] (HoistG P ds blK rest K) σ := HoistG_other _ _ _ _ _ _ rfl
end
theorem gc_ro {P : Program} {ds : List (Option Tmp)} {blK : Int → Option Blk} {rest : List Oper} {K : St → Prop} {σ : St} {d : Option Tmp} {f : FuncId} {xs : List V} {v : V} (h : RO P f xs v) (hK : HoistG P ds blK rest K (σ.put d v)) : gcK P ds blK rest K σ d (some (f, xs)) :=
  ⟨_, rfl, v, h, hK⟩
theorem isGC_true {o : Oper} (h : isGC o = true) : ∃ d f args ats ty pos af j b, o = ⟨d, .call ⟨.value f, args, ats⟩, ty, pos, af, some (j, b)⟩ := by
  unfold isGC at h
  split at h
  · rename_i d f args ats ty pos af jb
    obtain ⟨j, b⟩ := jb
    exact ⟨_, _, _, _, _, _, _, _, _, rfl⟩
  · cases h
theorem HoistF_one {P : Program} {ds : List (Option Tmp)} {blK : Int → Option Blk} {K : St → Prop} {σ : St} {ops : Array Oper} {o : Oper} (hd : ds = ops.toList.map (·.dst)) (h : HoistF P ds blK [o] K σ) {k : Nat} (h0 : ops[k]? = some o) : ∃ v, DY P ops blK o σ v ∧ K (σ.put o.dst v) := by
  have := Hoist_is (P := P) (ops := ops) (blK := blK) (K := K) [o] [k] σ (by simp [h0]) (by rw [← hd]; exact h)
  unfold Hoist at this
  rw [h0] at this
  exact this
theorem HoistG_of {P : Program} {ops : Array Oper} {blK : Int → Option Blk} {K : St → Prop} : ∀ (l : List Oper) (k : Nat) (σ : St), (∀ j, l[j]? = ops[k + j]?) → HoistG P (ops.toList.map (·.dst)) blK l K σ → Hoist P ops blK (List.range' k l.length) K σ
  | [], k, σ, _, h => h
  | o :: rest, k, σ, hl, h => by
    have h0 : ops[k]? = some o := by simpa using (hl 0).symm
    have ih := fun σ' (h' : HoistG P (ops.toList.map (·.dst)) blK rest K σ') => HoistG_of rest (k + 1) σ' (fun j => by have := hl (j + 1); simpa [Nat.add_assoc, Nat.add_comm 1 j] using this) h'
    have hds : ∀ (j : Nat) d, (ops.toList.map (·.dst))[j]? = some (some d) → (ops[j]?).bind (·.dst) = some d := by
      intro j d hd
      rw [List.getElem?_map, Array.getElem?_toList] at hd
      rcases h : ops[j]? with _ | o
      · rw [h] at hd; cases hd
      · rw [h] at hd; simpa using hd
    show Hoist P ops blK (k :: List.range' (k + 1) rest.length) K σ
    unfold Hoist
    rw [h0]
    simp only
    cases hgc : isGC o with
    | false =>
      rw [HoistG_other _ _ _ _ _ _ hgc] at h
      obtain ⟨v, h1, h2⟩ := HoistF_one rfl h h0
      exact ⟨v, h1, ih _ h2⟩
    | true =>
      obtain ⟨d, f, args, ats, ty, pos, af, j, b, rfl⟩ := isGC_true hgc
      rw [HoistG_call] at h
      unfold DY
      simp only
      unfold gcS at h
      split at h
      · rename_i t hd
        rw [hds j t hd]
        simp only
        unfold gcV at h
        split at h
        · rename_i q hq
          rw [hq]
          split at h
          · rename_i hqb
            obtain ⟨p, hp, v, h1, h2⟩ := h
            exact ⟨v, ⟨fun _ => .inr ⟨_, f, p, 0, [], rfl, rfl, hp, .inr (RL_of h1)⟩, fun hh => by subst hqb; cases q <;> cases hh⟩, ih _ h2⟩
          · rename_i hqb
            exact ⟨.tup [], ⟨fun hh => absurd hh hqb, fun _ => rfl⟩, ih _ h⟩
        · rename_i hq
          rw [hq]
          exact ⟨.tup [], rfl, ih _ h⟩
        · exact h.elim
      · exact h.elim
theorem HoistG_frame {P : Program} {ds : List (Option Tmp)} {blK : Int → Option Blk} {K : St → Prop} (S : List (Option Tmp)) (σ0 : St) : ∀ (l : List Oper) (σ : St), HoistG P ds blK l K σ → (∀ o, o ∈ l → o.dst ∈ S) → (σ.n = σ0.n ∧ ∀ t, some t ∉ S → σ.sl t = σ0.sl t) →
    HoistG P ds blK l (fun σ' => K σ' ∧ σ'.n = σ0.n ∧ ∀ t, some t ∉ S → σ'.sl t = σ0.sl t) σ
  | [], σ, h, _, h0 => ⟨h, h0⟩
  | o :: rest, σ, h, hS, h0 => by
    have keep : ∀ v, (σ.put o.dst v).n = σ0.n ∧ ∀ t, some t ∉ S → (σ.put o.dst v).sl t = σ0.sl t := fun v => by
      have hd := hS o List.mem_cons_self
      cases hod : o.dst with
      | none => exact h0
      | some d =>
        rw [hod] at hd
        exact ⟨h0.1, fun t ht => by
          show upd σ.sl d v t = _
          rw [upd_ne _ _ _ _ (fun e => ht (by rw [e]; exact hd))]; exact h0.2 t ht⟩
    have next : ∀ σ', HoistG P ds blK rest K σ' → (σ'.n = σ0.n ∧ ∀ t, some t ∉ S → σ'.sl t = σ0.sl t) → HoistG P ds blK rest (fun σ' => K σ' ∧ σ'.n = σ0.n ∧ ∀ t, some t ∉ S → σ'.sl t = σ0.sl t) σ' := fun σ' hv hk =>
      HoistG_frame S σ0 rest _ hv (fun o' ho' => hS o' (List.mem_cons_of_mem _ ho')) hk
    cases hgc : isGC o with
    | false =>
      rw [HoistG_other _ _ _ _ _ _ hgc] at h ⊢
      have := HoistF_frame S σ0 [o] σ h (fun o' ho' => hS o' (by rw [List.mem_singleton.1 ho']; exact List.mem_cons_self)) h0
      revert this
      have mono : ∀ (K1 K2 : St → Prop), (∀ σ', K1 σ' → K2 σ') → HoistF P ds blK [o] K1 σ → HoistF P ds blK [o] K2 σ := by
        intro K1 K2 hK hh
        unfold HoistF at hh ⊢
        cases hg : o.guard with
        | none =>
          simp only [hg] at hh ⊢
          split at hh
          · obtain ⟨p, h1, v, n, ys, h2, h3⟩ := hh
            exact ⟨p, h1, v, n, ys, h2, hK _ h3⟩
          · obtain ⟨v, h1, h2⟩ := hh
            exact ⟨v, h1, hK _ h2⟩
        | some jb =>
          obtain ⟨j, b⟩ := jb
          simp only [hg] at hh ⊢
          split at hh
          · split at hh
            · split at hh
              · rename_i hq
                obtain ⟨v, h1, h2⟩ := hh
                rw [if_pos hq]
                exact ⟨v, h1, hK _ h2⟩
              · rename_i hq
                rw [if_neg hq]
                exact hK _ hh
            · exact hK _ hh
            · exact hh.elim
          · exact hh.elim
      exact mono _ _ fun σ' hk => next σ' hk.1 hk.2
    | true =>
      obtain ⟨d, f, args, ats, ty, pos, af, j, b, rfl⟩ := isGC_true hgc
      rw [HoistG_call] at h ⊢
      unfold gcS at h ⊢
      split at h
      · unfold gcV at h ⊢
        split at h
        · split at h
          · rename_i hq
            obtain ⟨p, hp, v, h1, h2⟩ := h
            rw [if_pos hq]
            exact ⟨p, hp, v, h1, next _ h2 (keep v)⟩
          · rename_i hq
            rw [if_neg hq]
            exact next _ h (keep _)
        · exact next _ h (keep _)
        · exact h.elim
      · exact h.elim
theorem AW_qwayG {P : Program} {id : Nat} {ops : Array Oper} {K : Ex → St → Prop} {σ : St} (hm : P.follows .mixedOrders = true) (hB : quietB ops = true) (l : List (Nat × V)) (n : Nat) (bl : Int → Option Blk) (t : Nat) (v : V) (hf : Fit l n bl σ) (hd : (l.all fun p => !(ops.toList.map (·.dst)).contains (some p.1)) = true)
    (h1 : HoistG P (ops.toList.map (·.dst)) bl ops.toList (fun σ' => σ'.sl t = v ∧ σ'.bl = bl) ⟨n, hv l, bl⟩) (h2 : K .normal ⟨n, hv ((t, v) :: l), bl⟩) : AW P (.region id ops true) K σ := by
  refine AW_at l n bl hf ?_
  have hq : AW P (.region id ops true) (fun e σ' => e = .normal ∧ (σ'.sl t = v ∧ σ'.bl = bl) ∧ σ'.n = n ∧ ∀ u, some u ∉ ops.toList.map (·.dst) → σ'.sl u = hv l u) ⟨n, hv l, bl⟩ := by
    have hB2 := hB
    simp only [quietB, Bool.and_eq_true, List.isEmpty_iff] at hB2
    refine AW_draw_quiet hm hB2.1 hB2.2 ?_
    have := HoistG_frame (ops.toList.map (·.dst)) ⟨n, hv l, bl⟩ ops.toList ⟨n, hv l, bl⟩ h1 (fun o ho => List.mem_map_of_mem ho) ⟨rfl, fun _ _ => rfl⟩
    have := HoistG_of ops.toList 0 ⟨n, hv l, bl⟩ (fun j => by simp) this
    rw [List.range_eq_range', ← Array.length_toList]
    simpa using this
  intro w0 M F a w hs
  refine wp_mono (hq w0 M F a w hs) fun e a' w' hp => ?_
  obtain ⟨ex, σ', F', e1, e2, e3, rfl, ⟨k1, k2⟩, k3, k4⟩ := hp
  refine ⟨.normal, ⟨n, hv ((t, v) :: l), bl⟩, F', e1, e2, e3.le ?_, h2⟩
  refine le_hv ⟨k3, fun p hp => ?_, by rw [k2]; exact Sub.refl _⟩
  rcases List.mem_cons.1 hp with rfl | hp
  · exact k1
  · have := List.all_eq_true.1 hd p hp
    have h5 : some p.1 ∉ ops.toList.map (·.dst) := by
      intro hc
      rw [Bool.not_eq_true'] at this
      have h6 := List.contains_iff_mem.2 hc
      rw [this] at h6; cases h6
    rw [k4 _ h5, hv_of l hf.2.1 p hp, hf.2.1 p hp]
end Go.Proofs.YticmgmemnpcbbaaGreat.Vm

namespace Go.Proofs.YticmgmemnpcbbaaGreat.Vm
open Go Go.RowKit Go.Proofs
set_option linter.unusedSimpArgs false
set_option linter.unusedVariables false
attribute [-simp] HoistF_nil

def quoQ (Z : Nat → Nat → Rat) (n j i : Nat) : Rat := Z i n / Z i j
def lvQ (Z : Nat → Nat → Rat) (n j : Nat) (bs : Nat → Nat) : Nat → Option Nat
  | 0 => none
  | i + 1 => if 0 < Z i j then match lvQ Z n j bs i with
    | none => some i
    | some b => if quoQ Z n j i < quoQ Z n j b ∨ quoQ Z n j i = quoQ Z n j b ∧ bs i < bs b then some i else some b
    else lvQ Z n j bs i
theorem lvQ_lt {Z : Nat → Nat → Rat} {n j : Nat} {bs : Nat → Nat} : ∀ {i p : Nat}, lvQ Z n j bs i = some p → p < i ∧ 0 < Z p j
  | 0, p, h => by cases h
  | i + 1, p, h => by
    rw [lvQ] at h
    split at h
    · rename_i hp
      split at h
      · cases h; exact ⟨by omega, hp⟩
      · rename_i b hb
        have := lvQ_lt hb
        split at h
        · cases h; exact ⟨by omega, hp⟩
        · cases h; exact ⟨by omega, this.2⟩
    · have := lvQ_lt h
      exact ⟨by omega, this.2⟩
theorem lvQ_leave {m b : Nat} {E : Nat → Nat → Rat} {T : Lp.Tab} {rows : List Nat} {t : SN} (h : View m b E T rows t) {j : Nat} (hj : j < t.n) : ∀ i, i ≤ rows.length →
    Lp.leave T b j (rows.take i) = (lvQ t.Z t.n j t.bs i).map fun p => atR rows p
  | 0, _ => by simp [lvQ, Lp.leave]
  | i + 1, hi => by
    have hlt : i < rows.length := by omega
    have hlr : i < t.r := by rw [h.len]; exact hlt
    have ih := lvQ_leave h hj i (by omega)
    have e : rows.take (i + 1) = rows.take i ++ [atR rows i] := by
      unfold atR; rw [List.take_add_one, List.getElem?_eq_getElem hlt, List.getD_eq_getElem?_getD, List.getElem?_eq_getElem hlt]; rfl
    rw [e, Lp.leave_snoc, ih, lvQ]
    unfold Lp.lvStep
    rw [← h.z i j hlr hj]
    by_cases hp : 0 < t.Z i j
    · rw [if_pos hp, if_pos hp]
      cases hb : lvQ t.Z t.n j t.bs i with
      | none => rfl
      | some q =>
        simp only [Option.map_some]
        have hq := (lvQ_lt hb).1
        have hqr : q < t.r := by omega
        have e1 : ∀ p, p < t.r → Lp.quo T b j (atR rows p) = quoQ t.Z t.n j p := fun p hp => by
          unfold Lp.quo quoQ
          rw [h.z p j hp hj, h.zb p hp]
        rw [e1 i hlr, e1 q hqr, ← h.bs i hlr, ← h.bs q hqr]
        split <;> rfl
    · rw [if_neg hp, if_neg hp]
theorem cmpR_lt {a b : Rat} (h : a < b) : cmpR a b = -1 := by
  have := (rat_lt a b).1 h
  unfold cmpR cmpZ; rw [if_pos this]
theorem cmpR_eq (a : Rat) : cmpR a a = 0 := by
  unfold cmpR cmpZ; rw [if_neg (by omega), if_pos rfl]
theorem cmpR_gt {a b : Rat} (h : b < a) : cmpR a b = 1 := by
  have := (rat_lt b a).1 h
  unfold cmpR cmpZ; rw [if_neg (by omega), if_neg (by omega)]
def lowC (Z : Nat → Nat → Rat) (n j : Nat) : Option Nat → List V
  | none => [.bool false, .nils, .nils]
  | some b => (ro (some (quoQ Z n j b))).c
theorem l10Leave_ro {m b : Nat} {E : Nat → Nat → Rat} {T : Lp.Tab} {rows : List Nat} {t : SN} (h : View m b E T rows t) (j : Nat) (hjn : j < t.n) :
    RO Tryz.prog 249 [.ptr t.c, .int .i64 j] (.int .i64 (oI (lvQ t.Z t.n j t.bs t.r))) := by
  have hnl := h.nl
  have hrl := h.rl
  have hw1 := h.nw
  have htm := h.tm.z
  clear h
  obtain ⟨R, w, n, Z, co, bs⟩ := t
  simp only at hjn hnl hrl hw1 htm
  subst hw1
  have l3 : ∀ q : Rat, (rq q).c.length = 3 := fun _ => rfl
  have t3 : ∀ q : Rat, (rq q).c.take 3 = (rq q).c := fun _ => rfl
  obtain ⟨w, hw⟩ : ∃ w, n + 1 = w := ⟨_, rfl⟩
  rw [hw] at htm
  refine ro_of2 Tryz.func249 rfl rfl (by rw [Tryz.ntmps249]; simp) fun bl => ?_
  rw [Tryz.ntmps249, Tryz.results249]
  refine AW_run ?_
  simp [SN.c, hw]
  intro g6 hg6 hb6
  refine AW_for (fun i : Nat => [(0, .ptr [.int .i64 n, .sl (rrs R w Z), .sl (iv (lb R bs)), .sl (rqs w co)]), (1, .int .i64 j), (5, .int .i64 (oI (lvQ Z n j bs i))), (6, .loc g6 3 0 0), (14, .sl (rrs R w Z)), (15, .int .i64 R), (16, .int .i64 i)]) (fun i => upd bl g6 (some ⟨3, [lowC Z n j (lvQ Z n j bs i)]⟩)) (fun i => i ≤ R) (fun i => R - i) _ 0 (Nat.zero_le _) ⟨rfl, by simp [lvQ, oI], sub_eq (by simp [lvQ, lowC])⟩ ?_
  intro i hi
  have wi : IntKind.i64.wrap ((i : Int) + 1) = (i : Int) + 1 := i64_in (by omega) (by omega)
  refine AW_runA ?_
  simp
  refine AW_runA ?_
  simp
  refine ⟨fun hiR => ?_, fun hiR => ?_⟩
  · have hiR' : (i : Int) < R := by omega
    have hjw : j < w := by omega
    have hjw' : (j : Int) < w := by omega
    have hnw : n < w := by omega
    have hnw' : (n : Int) < w := by omega
    have wn : IntKind.i64.wrap ((w : Int) - 1) = (n : Int) := by rw [i64_in (by omega) (by omega)]; omega
    have fj := tame_fits (htm i j hiR hjw)
    have fn := tame_fits (htm i n hiR hnw)
    refine AW_seq (AW_block ?_)
    refine AW_runA ?_
    simp [hiR, hiR']
    refine AW_seq ?_
    refine AW_run ?_
    simp [hjw, hjw', l3, t3]
    refine callP_ro (RatSign_at fj) ?_
    simp
    have hnum : (0 < Z i j) ↔ 0 < (Z i j).num := Lp.num_pos.symm
    refine ⟨fun hle => ?_, fun hgt => ?_⟩
    · have hlv : lvQ Z n j bs (i + 1) = lvQ Z n j bs i := by
        rw [lvQ, if_neg (by rw [hnum]; omega)]
      refine AW_run ?_
      simp [wi, loopQ_normal]
      refine ⟨i + 1, by omega, by omega, rfl, by simp [hlv], sub_eq (by simp [hlv])⟩
    have hpos : 0 < Z i j := hnum.2 (by omega)
    have hz0 : Z i j ≠ 0 := fun e => by rw [e] at hpos; exact absurd hpos (by decide)
    have hfq : fits (quoQ Z n j i) := tame_div (htm i n hiR hnw) (htm i j hiR hjw) hz0
    have lD := RatDiv_at (Z i n) (Z i j) fn fj hz0
    rw [show fit (Z i n / Z i j) = some (quoQ Z n j i) from by have : fits (Z i n / Z i j) := hfq; simp [fit, this, quoQ]] at lD
    obtain ⟨B, hB⟩ : ∃ B, upd bl g6 (some ⟨3, [lowC Z n j (lvQ Z n j bs i)]⟩) = B := ⟨_, rfl⟩
    have hB6 : B g6 = some ⟨3, [lowC Z n j (lvQ Z n j bs i)]⟩ := by rw [← hB]; simp
    rw [hB]
    refine AW_seq ?_
    refine AW_mixed mixedO [0, 1, 2, 3, 4, 5, 6, 7, 8, 9, 10] 2 (by kernel_rfl) ?_
    simp [hjw, hjw', hnw, hnw', l3, t3, wn]
    refine hcQ_ro lD ?_
    simp
    refine DAny_one (i := 11) (by kernel_rfl) rfl rfl ?_
    simp
    intro g9 hg9 hb9
    have n96 : ¬ g9 = g6 := fun e => by rw [e, hB6] at hb9; cases hb9
    refine ⟨by simp [hb9], DAny_one (i := 12) (by kernel_rfl) rfl rfl ?_⟩
    simp [RT.c]
    refine ⟨by simp [hb9], DAny_done (by kernel_rfl) ?_⟩
    simp
    refine AW_frzAt 1 9 (.ptr (ro (some (quoQ Z n j i))).c) B (by intro z b hz; simp only [upd_apply] at hz ⊢; grind) (by simp [frz, dropB, hb9, V.cl, RT.c]) ?_
    refine AW_at [(0, .ptr [.int .i64 n, .sl (rrs R w Z), .sl (iv (lb R bs)), .sl (rqs w co)]), (1, .int .i64 j), (5, .int .i64 (oI (lvQ Z n j bs i))), (6, .loc g6 3 0 0), (14, .sl (rrs R w Z)), (15, .int .i64 R), (16, .int .i64 i), (7, .int .i64 i), (9, .ptr (ro (some (quoQ Z n j i))).c)] 73 B ⟨rfl, by simp, Sub.refl _⟩ ?_
    cases hlv : lvQ Z n j bs i with
    | none =>
      have hnx : lvQ Z n j bs (i + 1) = some i := by rw [lvQ, if_pos hpos, hlv]
      rw [hlv] at hB6
      refine AW_seq ?_
      refine AW_qway mixedO (by kernel_rfl) [(0, .ptr [.int .i64 n, .sl (rrs R w Z), .sl (iv (lb R bs)), .sl (rqs w co)]), (1, .int .i64 j), (5, .int .i64 (-1)), (6, .loc g6 3 0 0), (14, .sl (rrs R w Z)), (15, .int .i64 R), (16, .int .i64 i), (7, .int .i64 i), (9, .ptr (ro (some (quoQ Z n j i))).c)] _ B 68 (.bool true) ⟨rfl, by simp [oI], Sub.refl _⟩ rfl ?_ ?_
      · simp
      simp
      refine AW_run ?_
      simp [hB6, lowC, RT.c, l3, t3]
      refine AW_run ?_
      simp [wi, loopQ_normal]
      refine ⟨i + 1, by omega, by omega, rfl, by simp [hnx, oI], ?_⟩
      simp only [hnx]
      rw [← hB]
      intro z y hz
      simp only [upd_apply] at hz ⊢
      grind
    | some q =>
      obtain ⟨hqi, hqp⟩ := lvQ_lt hlv
      have hqR : q < R := by omega
      have hqR' : (q : Int) < R := by omega
      have hq0 : Z q j ≠ 0 := fun e => by rw [e] at hqp; exact absurd hqp (by decide)
      have hfl : fits (quoQ Z n j q) := tame_div (htm q n hqR hnw) (htm q j hqR hjw) hq0
      have hcmp := l04Cmp_ro (quoQ Z n j i) (quoQ Z n j q) hfq hfl
      have hnx : lvQ Z n j bs (i + 1) = if quoQ Z n j i < quoQ Z n j q ∨ quoQ Z n j i = quoQ Z n j q ∧ bs i < bs q then some i else some q := by rw [lvQ, if_pos hpos, hlv]
      rw [hlv] at hB6
      obtain ⟨A, hA⟩ : ∃ A, quoQ Z n j i = A := ⟨_, rfl⟩
      obtain ⟨L, hL⟩ : ∃ L, quoQ Z n j q = L := ⟨_, rfl⟩
      have hB6' : B g6 = some ⟨3, [(ro (some L)).c]⟩ := by rw [hB6, ← hL]; rfl
      rw [hA, hL] at hcmp hnx
      rw [hA]
      refine AW_seq ?_
      refine AW_qwayG mixedO (by kernel_rfl) [(0, .ptr [.int .i64 n, .sl (rrs R w Z), .sl (iv (lb R bs)), .sl (rqs w co)]), (1, .int .i64 j), (5, .int .i64 q), (6, .loc g6 3 0 0), (14, .sl (rrs R w Z)), (15, .int .i64 R), (16, .int .i64 i), (7, .int .i64 i), (9, .ptr (ro (some A)).c)] _ B 68 (.bool (decide (A < L ∨ A = L ∧ bs i < bs q))) ⟨rfl, by simp [oI], Sub.refl _⟩ rfl ?_ ?_
      · have hq1 : ¬ (q : Int) < 0 := by omega
        rcases (show A < L ∨ A = L ∨ L < A by grind) with c | c | c
        · rw [cmpR_lt c] at hcmp
          simp [hq1, hB6', l3, t3]
          refine gc_ro hcmp ?_
          simp [c]
        · subst c
          rw [cmpR_eq] at hcmp
          have c2 : ¬ A < A := by grind
          simp [hq1, hB6', l3, t3]
          refine gc_ro hcmp ?_
          simp [c2, hB6', l3, t3]
          refine gc_ro hcmp ?_
          simp [c2, hiR, hiR', hqR, hqR']
        · rw [cmpR_gt c] at hcmp
          have c2 : ¬ A < L := by grind
          have c3 : ¬ A = L := by grind
          simp [hq1, hB6', l3, t3]
          refine gc_ro hcmp ?_
          simp [c2, c3, hB6', l3, t3]
          refine gc_ro hcmp ?_
          simp [c2, c3]
      by_cases hc : A < L ∨ A = L ∧ bs i < bs q
      · rw [if_pos hc] at hnx
        simp [hc]
        refine AW_run ?_
        simp [hB6', RT.c, l3, t3]
        refine AW_run ?_
        simp [wi, loopQ_normal]
        refine ⟨i + 1, by omega, by omega, rfl, by simp [hnx, oI], ?_⟩
        simp only [hnx]
        rw [← hA, ← hB]
        intro z y hz
        simp only [upd_apply] at hz ⊢
        by_cases e : z = g6
        · rw [if_pos e] at hz ⊢; exact hz
        · rw [if_neg e] at hz ⊢; rw [if_neg e]; exact hz
      · rw [if_neg hc] at hnx
        simp [hc]
        refine AW_run ?_
        simp
        refine AW_run ?_
        simp [wi, loopQ_normal]
        refine ⟨i + 1, by omega, by omega, rfl, by simp [hnx, oI], ?_⟩
        simp only [hnx]
        rw [← hB, hlv]
        exact Sub.refl _
  · have hie : i = R := by omega
    subst hie
    exact retRO [.int .i64 (oI (lvQ Z n j bs i))] 0 (by simp) (by simp [frz]) (by simp [hb6])
end Go.Proofs.YticmgmemnpcbbaaGreat.Vm

namespace Go.Proofs.YticmgmemnpcbbaaGreat.Vm
open Go Go.RowKit Go.Proofs
set_option linter.unusedSimpArgs false
set_option linter.unusedVariables false

/-- A tableau as the reference keeps it: some rows, the first columns and the right side. -/
def snV (rows : List Nat) (n b m : Nat) (w0 : Nat → Rat) (T : Lp.Tab) : SN := ⟨rows.length, n + 1, n, fun p c => T.X (atR rows p) (if c < n then c else b), fun c => Lp.rc m w0 T (if c < n then c else b), fun p => T.bs (atR rows p)⟩
theorem SS.congr {b : Int → Option Blk} {g : SG} {r w n : Nat} {Z Z' : Nat → Nat → Rat} {co co' : Nat → Rat} {bs bs' : Nat → Nat} (h : SS b g ⟨r, w, n, Z, co, bs⟩) (hZ : ∀ p c, p < r → c < w → Z p c = Z' p c) (hc : ∀ c, c < w → co c = co' c) (hb : ∀ p, p < r → bs p = bs' p) : SS b g ⟨r, w, n, Z', co', bs'⟩ := by
  have hlb : lb r bs = lb r bs' := List.map_congr_left fun p hp => by rw [hb p (by simpa using hp)]
  refine ⟨h.len, h.top, fun i x hi => ?_, h.pos, h.hd, ?_, ?_, h.pT, h.pR, h.pB, h.pC, h.nd⟩
  · have hlt : i < r := by have := h.len; simp only at this; rw [← this]; exact (List.getElem?_eq_some_iff.1 hi).1
    rw [h.row i x hi]
    simp only
    rw [rqs_congr fun c hc2 => hZ i c hlt hc2]
  · have := h.ba
    simp only at this ⊢
    rw [this, hlb]
  · have := h.cst
    simp only at this ⊢
    rw [this, rqs_congr hc]
structure RunV (n0 m n : Nat) (E : Nat → Nat → Rat) (rows : List Nat) (deep : Bool) (w0 : Nat → Rat) (ok : Lp.Tab → Nat → Prop) : Prop where
  ml : m ≤ 17
  nl : n0 + m ≤ 100
  nn : n ≤ n0 + m
  rr : Rows m rows
  dead : ∀ T, LInv n0 m E rows T → ∀ i, i < m → i ∉ rows → n ≤ T.bs i
  wt : ∀ c, c < n0 + m + 1 → Lp.isInt (w0 c) ∧ -((1000 : Nat) : Rat) ≤ w0 c ∧ w0 c ≤ ((1000 : Nat) : Rat)
  bas : ∀ T, LInv n0 m E rows T → ∀ j, j < n → basic rows.length (fun p => T.bs (atR rows p)) j → ¬ ok T j
theorem RunV.view {n0 m n : Nat} {E : Nat → Nat → Rat} {rows : List Nat} {deep : Bool} {w0 : Nat → Rat} {ok : Lp.Tab → Nat → Prop} (h : RunV n0 m n E rows deep w0 ok) {T : Lp.Tab} (hI : LInv n0 m E rows T) : View m (n0 + m) E T rows (snV rows n (n0 + m) m w0 T) := by
  have hl := h.rr.len
  have hml := h.ml
  have hnl := h.nl
  have hnn := h.nn
  refine ⟨hI.z.ti, h.rr, rfl, fun _ _ => rfl, ?_, ?_, rfl, ?_, h.dead T hI, fun p j _ hj => ?_, fun p _ => ?_, ⟨fun i c hi hc => ?_, fun c hc => ?_, ?_, ?_⟩⟩
  · show n ≤ 100; omega
  · show rows.length ≤ 100; omega
  · show n + 1 ≤ 200; omega
  · show T.X _ (if j < n then j else n0 + m) = _
    rw [if_pos (show j < n from hj)]
  · show T.X _ (if n < n then n else n0 + m) = _
    rw [if_neg (by omega)]
  · have hi' : i < rows.length := hi
    have hin := h.rr.lt (getD_mem hi')
    exact Lp.sm_mono (hI.z.sm (c := if c < n then c else n0 + m) hin (by split <;> omega)) (capB_top hml)
  · exact Lp.sm_mono (hI.z.rc h.wt (c := if c < n then c else n0 + m) (by split <;> omega) (by decide)) (capB_rc hml)
  · show n + 1 ≤ 200; omega
  · show rows.length ≤ 100; omega
theorem snV_piv {n0 m n : Nat} {rows : List Nat} {w0 : Nat → Rat} {T : Lp.Tab} (hr : Rows m rows) {pr k : Nat} (hp : pr < rows.length) (hk : k < n) (h0 : T.X (atR rows pr) k ≠ 0) :
    (∀ p c, p < rows.length → zpv (snV rows n (n0 + m) m w0 T).Z pr k p c = (snV rows n (n0 + m) m w0 (Lp.piv T (atR rows pr) k)).Z p c) ∧
    (∀ c, cpv (snV rows n (n0 + m) m w0 T).Z (snV rows n (n0 + m) m w0 T).co pr k c = (snV rows n (n0 + m) m w0 (Lp.piv T (atR rows pr) k)).co c) ∧
    (∀ p, p < rows.length → pvS (snV rows n (n0 + m) m w0 T).bs pr k p = (snV rows n (n0 + m) m w0 (Lp.piv T (atR rows pr) k)).bs p) := by
  refine ⟨fun p c hpl => ?_, fun c => ?_, fun p hpl => ?_⟩
  · unfold zpv snV
    simp only
    rw [if_pos hk]
    by_cases e : p = pr
    · subst e; rw [if_pos rfl, Lp.piv_r]
    · rw [if_neg e, Lp.piv_i T k _ fun e2 => e (hr.inj hpl hp e2)]
  · unfold cpv snV
    simp only
    rw [if_pos hk, Lp.rc_piv w0 T (hr.lt (getD_mem hp)) h0]
  · unfold pvS snV
    simp only
    by_cases e : p = pr
    · subst e; rw [if_pos rfl, Lp.piv_bs_r]
    · rw [if_neg e, Lp.piv_bs_i T k fun e2 => e (hr.inj hpl hp e2)]
structure LoopU where
  e : Nat
  b : Int → Option Blk
structure LoopE where
  j : Nat
  en : Int
theorem l10Run_cp {bl : Int → Option Blk} {K : V → (Int → Option Blk) → Prop} {n0 m n : Nat} {E : Nat → Nat → Rat} {rows : List Nat} {deep : Bool} {w0 : Nat → Rat} {ok : Lp.Tab → Nat → Prop} (h : RunV n0 m n E rows deep w0 ok) (g : SG) (T : Lp.Tab) (e : Nat)
    (hsg : ∀ T, LInv n0 m E rows T → ∀ j, j < n → ¬ basic rows.length (fun p => T.bs (atR rows p)) j → ∃ s : Int, (0 < s ↔ ok T j) ∧ RO Tryz.prog 248 [.ptr (snV rows n (n0 + m) m w0 T).c, .int .i64 j, .bool deep] (.int .i64 s))
    (h1 : Lp.nx n (n0 + m) rows ok (Lp.orb (Lp.nx n (n0 + m) rows ok) T e) = none)
    (h2 : ∀ e', e' < e → (Lp.nx n (n0 + m) rows ok (Lp.orb (Lp.nx n (n0 + m) rows ok) T e')).isSome = true)
    (hI : ∀ e', e' ≤ e → LInv n0 m E rows (Lp.orb (Lp.nx n (n0 + m) rows ok) T e'))
    (hS : SS bl g (snV rows n (n0 + m) m w0 T))
    (hT : ∀ b', Lp.fstP (ok (Lp.orb (Lp.nx n (n0 + m) rows ok) T e)) n = none → SS b' g (snV rows n (n0 + m) m w0 (Lp.orb (Lp.nx n (n0 + m) rows ok) T e)) → (∀ x y, bl x = some y → x ∉ g.all → b' x = some y) → K (.bool true) b')
    (hF : ∀ b' k, Lp.fstP (ok (Lp.orb (Lp.nx n (n0 + m) rows ok) T e)) n = some k → Lp.leave (Lp.orb (Lp.nx n (n0 + m) rows ok) T e) (n0 + m) k rows = none → (∀ x y, bl x = some y → x ∉ g.all → b' x = some y) → K (.bool false) b') :
    CallP Tryz.prog 190 [.loc g.T 4 0 0, .bool deep] bl K := by
  obtain ⟨nxf, hnx⟩ : ∃ f, Lp.nx n (n0 + m) rows ok = f := ⟨_, rfl⟩
  rw [hnx] at h1 h2 hI hT hF
  have hml := h.ml
  have hnl := h.nl
  have hnn := h.nn
  have hrl := h.rr.len
  refine callP_of Tryz.func190 rfl rfl (by rw [Tryz.ntmps190]; simp) ?_
  rw [Tryz.ntmps190, Tryz.results190]
  refine AW_run ?_
  simp
  refine AW_for (fun q : LoopU => [(0, .loc g.T 4 0 0), (1, .bool deep)]) (fun q => q.b) (fun q => q.e ≤ e ∧ SS q.b g (snV rows n (n0 + m) m w0 (Lp.orb nxf T q.e)) ∧ ∀ x y, bl x = some y → x ∉ g.all → q.b x = some y) (fun q => e - q.e) _ ⟨0, bl⟩ ⟨Nat.zero_le _, hS, fun _ _ hx _ => hx⟩ ⟨rfl, by simp, Sub.refl _⟩ ?_
  rintro ⟨q, b⟩ ⟨hq, hSb, hfb⟩
  simp only at hq hSb hfb
  obtain ⟨U, hU⟩ : ∃ U, Lp.orb nxf T q = U := ⟨_, rfl⟩
  have hIU := hI q hq
  rw [hU] at hSb hIU
  have hV := h.view hIU
  have z4 : frz b 4 (.loc g.T 4 0 0) = some (.ptr (snV rows n (n0 + m) m w0 U).c) := hSb.frz 0
  have bT : b g.T = _ := hSb.hd
  simp only [snV] at bT
  refine AW_block ?_
  refine AW_runA ?_
  simp
  refine AW_seq ?_
  refine AW_run ?_
  simp
  refine AW_for (fun s : LoopE => [(0, .loc g.T 4 0 0), (1, .bool deep), (5, .int .i64 s.en), (6, .int .i64 s.j)]) (fun _ => b) (fun s => s.j ≤ n ∧ ((s.en = -1 ∧ ∀ k, k < s.j → ¬ ok U k) ∨ ∃ k : Nat, s.en = k ∧ Lp.fstP (ok U) n = some k)) (fun s => n - s.j) _ ⟨0, -1⟩ ⟨Nat.zero_le _, .inl ⟨rfl, fun k hk => by simp only at hk; omega⟩⟩ ⟨rfl, by simp, Sub.refl _⟩ ?_
  rintro ⟨j, en⟩ ⟨hj, hen⟩
  simp only at hj hen
  have wj : IntKind.i64.wrap ((j : Int) + 1) = (j : Int) + 1 := i64_in (by omega) (by omega)
  refine AW_seq (AW_seq ?_)
  refine AW_way0 [(0, .loc g.T 4 0 0), (1, .bool deep), (5, .int .i64 en), (6, .int .i64 j)] _ b 17 (.bool (decide (j < n ∧ en < 0))) ⟨rfl, by simp, Sub.refl _⟩ rfl ?_ ?_
  · simp [bT]
    by_cases h0 : j < n
    · simp [h0]
      try (intro; omega)
    · simp [h0]
  simp
  refine AW_run ?_
  simp
  refine ⟨fun hjn hneg => ?_, fun hno => ?_⟩
  · have hall : en = -1 ∧ ∀ k, k < j → ¬ ok U k := by
      rcases hen with g1 | ⟨k, g1, g2⟩
      · exact g1
      · omega
    obtain ⟨rfl, hall⟩ := hall
    refine AW_seq (AW_block ?_)
    refine AW_seq ?_
    have hBs := l10Basic_ro (snV rows n (n0 + m) m w0 U) j hV.rl
    by_cases hok : ok U j
    · refine AW_way0 [(0, .loc g.T 4 0 0), (1, .bool deep), (5, .int .i64 (-1)), (6, .int .i64 j)] _ b 30 (.bool true) ⟨rfl, by simp, Sub.refl _⟩ rfl ?_ ?_
      · have hnb : ¬ basic rows.length (fun p => U.bs (atR rows p)) j := fun hb => h.bas U hIU j hjn hb hok
        obtain ⟨s, hs1, hs2⟩ := hsg U hIU j hjn hnb
        rw [show decide (basic (snV rows n (n0 + m) m w0 U).r (snV rows n (n0 + m) m w0 U).bs j) = false from decide_eq_false hnb] at hBs
        simp
        refine callP_borrow 4 (ys := [.ptr (snV rows n (n0 + m) m w0 U).c, .int .i64 j]) (by simp [z4]; simp [frz]) hBs rfl ?_
        simp
        refine callP_borrow 4 (ys := [.ptr (snV rows n (n0 + m) m w0 U).c, .int .i64 j, .bool deep]) (by simp [z4]; simp [frz]) hs2 rfl ?_
        have hspos : 0 < s := hs1.2 hok
        simp [hspos]
      simp
      refine AW_run ?_
      simp
      refine AW_run ?_
      simp [wj, loopQ_normal]
      refine ⟨⟨j + 1, j⟩, ⟨by simp only; omega, .inr ⟨j, rfl, Lp.fstP_some.2 ⟨hjn, hok, hall⟩⟩⟩, by simp only; omega, rfl, by simp, Sub.refl _⟩
    · refine AW_way0 [(0, .loc g.T 4 0 0), (1, .bool deep), (5, .int .i64 (-1)), (6, .int .i64 j)] _ b 30 (.bool false) ⟨rfl, by simp, Sub.refl _⟩ rfl ?_ ?_
      · simp
        by_cases hb : basic rows.length (fun p => U.bs (atR rows p)) j
        · rw [show decide (basic (snV rows n (n0 + m) m w0 U).r (snV rows n (n0 + m) m w0 U).bs j) = true from decide_eq_true hb] at hBs
          refine callP_borrow 4 (ys := [.ptr (snV rows n (n0 + m) m w0 U).c, .int .i64 j]) (by simp [z4]; simp [frz]) hBs rfl ?_
          simp
        · obtain ⟨s, hs1, hs2⟩ := hsg U hIU j hjn hb
          rw [show decide (basic (snV rows n (n0 + m) m w0 U).r (snV rows n (n0 + m) m w0 U).bs j) = false from decide_eq_false hb] at hBs
          refine callP_borrow 4 (ys := [.ptr (snV rows n (n0 + m) m w0 U).c, .int .i64 j]) (by simp [z4]; simp [frz]) hBs rfl ?_
          simp
          refine callP_borrow 4 (ys := [.ptr (snV rows n (n0 + m) m w0 U).c, .int .i64 j, .bool deep]) (by simp [z4]; simp [frz]) hs2 rfl ?_
          have : ¬ 0 < s := fun e => hok (hs1.1 e)
          simp
          omega
      simp
      refine AW_run ?_
      simp
      refine AW_run ?_
      simp [wj, loopQ_normal]
      refine ⟨⟨j + 1, -1⟩, ⟨by simp only; omega, .inl ⟨rfl, fun k hk => ?_⟩⟩, by simp only; omega, rfl, by simp, Sub.refl _⟩
      by_cases e : k = j
      · rw [e]; exact hok
      · exact hall k (by simp only at hk; omega)
  · have hnU : nxf U = match Lp.fstP (ok U) n with | none => none | some k => match Lp.leave U (n0 + m) k rows with | none => none | some r => some (r, k) := by rw [← hnx]; rfl
    have hqe : nxf U = none → q = e := fun hn => by
      rcases Nat.lt_or_ge q e with g1 | g1
      · have := h2 q g1
        rw [hU, hn] at this; cases this
      · omega
    refine AW_seq ?_
    refine AW_run ?_
    simp
    rcases hen with ⟨rfl, hall⟩ | ⟨k, rfl, hk⟩
    · have hjn : j = n := by
        rcases Nat.lt_or_ge j n with g1 | g1
        · have := hno g1; omega
        · omega
      subst hjn
      have hf0 : Lp.fstP (ok U) j = none := Lp.fstP_none.2 hall
      rw [hf0] at hnU
      have hq1 := hqe hnU
      subst hq1
      rw [hU] at hT
      simp
      rw [retK_ret]
      exact ⟨[.bool true], by simp, hT b hf0 hSb hfb⟩
    · obtain ⟨hkn, hkok, -⟩ := Lp.fstP_some.1 hk
      rw [hk] at hnU
      simp only at hnU
      have hk1 : ¬ (k : Int) < 0 := by omega
      simp [hk1]
      have hlv := lvQ_leave hV hkn rows.length (Nat.le_refl _)
      rw [List.take_length] at hlv
      have hLr := l10Leave_ro hV k hkn
      refine AW_runA ?_
      simp
      refine callP_borrow 4 (ys := [.ptr (snV rows n (n0 + m) m w0 U).c, .int .i64 k]) (by simp [z4]; simp [frz]) hLr rfl ?_
      simp
      cases hv : lvQ (snV rows n (n0 + m) m w0 U).Z (snV rows n (n0 + m) m w0 U).n k (snV rows n (n0 + m) m w0 U).bs rows.length with
      | none =>
        have hv' : lvQ (snV rows n (n0 + m) m w0 U).Z (snV rows n (n0 + m) m w0 U).n k (snV rows n (n0 + m) m w0 U).bs (snV rows n (n0 + m) m w0 U).r = none := hv
        have hlv : Lp.leave U (n0 + m) k rows = none := hlv.trans (congrArg (Option.map fun p => atR rows p) hv)
        rw [hlv] at hnU
        have hq1 := hqe hnU
        subst hq1
        rw [hU] at hF
        refine AW_seq ?_
        refine AW_run ?_
        simp [hv', oI]
        rw [retK_ret]
        exact ⟨[.bool false], by simp, hF b k hk hlv hfb⟩
      | some pr =>
        have hv' : lvQ (snV rows n (n0 + m) m w0 U).Z (snV rows n (n0 + m) m w0 U).n k (snV rows n (n0 + m) m w0 U).bs (snV rows n (n0 + m) m w0 U).r = some pr := hv
        have hlv : Lp.leave U (n0 + m) k rows = some (atR rows pr) := hlv.trans (congrArg (Option.map fun p => atR rows p) hv)
        rw [hlv] at hnU
        simp only at hnU
        have hprl := (lvQ_lt hv).1
        have hpos : (snV rows n (n0 + m) m w0 U).Z pr k ≠ 0 := fun e0 => by
          have := (lvQ_lt hv).2
          rw [e0] at this; exact absurd this (by decide)
        have hX : U.X (atR rows pr) k ≠ 0 := by
          have := hV.z pr k hprl hkn
          rw [this] at hpos; exact hpos
        have hqlt : q < e := by
          rcases Nat.lt_or_ge q e with g1 | g1
          · exact g1
          · have : q = e := by omega
            subst this
            rw [hU, hnU] at h1; cases h1
        have hnext : Lp.orb nxf T (q + 1) = Lp.piv U (atR rows pr) k := by
          rw [Lp.orb, hU, hnU]
        have hV2 := h.view (T := Lp.piv U (atR rows pr) k) (by have := hI (q + 1) hqlt; rwa [hnext] at this)
        obtain ⟨p1, p2, p3⟩ := snV_piv (n0 := n0) (w0 := w0) h.rr hprl hkn hX
        have hpr0 : ¬ (pr : Int) < 0 := by omega
        refine AW_seq ?_
        refine AW_run ?_
        simp [hv', oI, hpr0]
        refine AW_run ?_
        simp
        refine l10Pivot_cp g (snV rows n (n0 + m) m w0 U) pr k hSb hprl (show k < n + 1 by omega) hV.tm hpos ⟨fun i c hi hc => ?_, fun c hc => ?_, hV.tm.w, hV.tm.r⟩ fun b' hS' hx' => ?_
        · show tame (zpv _ pr k i c)
          rw [p1 i c hi]; exact hV2.tm.z i c hi hc
        · show tame (cpv _ _ pr k c)
          rw [p2 c]; exact hV2.tm.co c hc
        simp [loopQ_normal]
        refine ⟨⟨q + 1, b'⟩, ⟨by simp only; omega, ?_, fun x y g1 g2 => hx' x y (hfb x y g1 g2) g2⟩, by simp only; omega, rfl, by simp, Sub.refl _⟩
        simp only
        rw [hnext]
        exact hS'.congr (fun p c hp _ => p1 p c hp) (fun c _ => p2 c) (fun p hp => p3 p hp)
end Go.Proofs.YticmgmemnpcbbaaGreat.Vm

namespace Go.Proofs.YticmgmemnpcbbaaGreat.Vm
open Go Go.RowKit Go.Proofs
set_option linter.unusedSimpArgs false
set_option linter.unusedVariables false

/-- A nil slice seen as an empty one. -/
def wk : V → V
  | .nils => .sl []
  | x => x
theorem wk_one {x : V} (h : x.one = true) : (wk x).one = true := by
  cases x <;> first | exact h | rfl
theorem wk_rep {F : Nat → Prop} {w : World} {x : V} {v : Value} (h : Rep F w x v) : Rep F w (wk x) v := by
  cases x with
  | nils => cases h; exact .sl0 none 0 (fun _ => rfl)
  | _ => exact h
theorem AW_wk {P : Program} {c : Code} {K : Ex → St → Prop} {σ : St} {g : Int} {s : Nat} {els : List (List V)} (hb : σ.bl g = some ⟨s, els⟩)
    (h : AW P c K ⟨σ.n, σ.sl, upd σ.bl g (some ⟨s, els.map fun e => e.map wk⟩)⟩) : AW P c K σ := by
  intro w0 M F a w hs
  have hm := hs.mem
  refine h w0 M F a w ⟨⟨hm.os, hm.tape, hm.output, hm.size, hm.frame, hm.shapes, hm.fr, ?_, fun x b hx h0 => ?_, fun x b hx => ?_⟩, hs.size, hs.sl, hs.defers⟩
  · obtain ⟨n, hn⟩ := hm.fin
    refine ⟨n, fun x hx => ?_⟩
    have := hn x hx
    show upd _ _ _ x = none
    by_cases hxg : x = g
    · subst hxg; rw [hb] at this; cases this
    · rw [upd_ne _ _ _ _ hxg]; exact this
  · by_cases hxg : x = g
    · subst hxg; exact hm.own x _ hb h0
    · simp only at hx
      rw [upd_ne _ _ _ _ hxg] at hx
      exact hm.own x b hx h0
  · by_cases hxg : x = g
    · subst hxg
      simp only at hx
      rw [upd_same] at hx
      cases hx
      have hB := hm.blk x _ hb
      unfold BlkIn at hB ⊢
      split at hB
      · rename_i hneg
        rw [if_pos hneg]; simp only at hB ⊢; rw [hB]; rfl
      · rename_i hneg
        rw [if_neg hneg]
        obtain ⟨h1, cs, t, h2, h3, h4⟩ := hB
        refine ⟨h1, cs, t, h2, by simpa using h3, fun k e he => ?_⟩
        simp only [List.getElem?_map] at he
        cases he0 : els[k]? with
        | none => rw [he0] at he; cases he
        | some e0 =>
          rw [he0] at he; cases he
          obtain ⟨h5, h6⟩ := h4 k e0 he0
          refine ⟨by simpa using h5, fun j y hy => ?_⟩
          rw [List.getElem?_map] at hy
          cases hy0 : e0[j]? with
          | none => rw [hy0] at hy; cases hy
          | some y0 =>
            rw [hy0] at hy; cases hy
            obtain ⟨h7, v, h8, h9⟩ := h6 j y0 hy0
            exact ⟨wk_one h7, v, h8, wk_rep h9⟩
    · simp only at hx
      rw [upd_ne _ _ _ _ hxg] at hx
      exact hm.blk x b hx
theorem biC0 : biC 0 = [.bool false, .sl []] := by
  simp [biC_def, lim_zero, iv]
theorem zv_zero (n : Nat) : (List.replicate n [V.bool false, .nils]).map (fun e => e.map wk) = zv n fun _ => 0 := by
  rw [List.map_replicate]
  apply List.ext_getElem
  · simp
  · intro i h1 h2
    simp [zv, biC0, wk]
theorem zvset {N i : Nat} (f : Nat → Int) (v : Int) (h : i < N) : (zv N f).set i (biC v) = zv N fun c => if c = i then v else f c := by
  apply List.ext_getElem
  · simp
  · intro j h1 h2
    rw [List.getElem_set, zv_getE, zv_getE]
    by_cases e : i = j
    · rw [if_pos e, if_pos e.symm]
    · rw [if_neg e, if_neg (Ne.symm e)]
theorem lb_snoc (r : Nat) (bs : Nat → Nat) : lb (r + 1) bs = lb r bs ++ [(bs r : Int)] := by simp [lb, List.range_succ]
/-- A tableau without rows. -/
theorem TT.start {b : Int → Option Blk} {T R B F : Int} {t : TN} (hr : t.r = 0) (hR : b R = some ⟨1, []⟩) (hB : b B = some ⟨1, []⟩) (hT : b T = some ⟨6, [[.lsl R 1 0 0, .bool (decide (t.d < 0)), .sl (iv (lim t.d.natAbs)), .lsl B 1 0 0, .int .i64 t.n, .lsl F 1 0 t.n]]⟩)
    (hF : b F = some ⟨1, lv t.n t.fr⟩) (pT : 0 ≤ T) (pF : 0 ≤ F) (nd : [T, R, B, F].Nodup) : TT b ⟨T, R, B, F, []⟩ t :=
  ⟨⟨hr.symm, hR, fun i g h => (by cases h), fun g h => (by cases h), fun i j g h => (by cases h), fun h => (by cases h)⟩, by simp only [hr]; exact hT, by simp only [hr]; exact hB, hF, pT, fun _ => hr, fun _ => hr, pF, nd⟩
/-- One row more. -/
theorem TT.snoc {b b' : Int → Option Blk} {g : TG} {t : TN} (h : TT b g t) (gN gM gr : Int) (hR : b' gN = some ⟨1, (g.ids ++ [gr]).map fun g => [.lsl g 2 0 (t.n + 1)]⟩) (hB : b' gM = some ⟨1, iv (lb (t.r + 1) t.bs)⟩)
    (hT : b' g.T = some ⟨6, [[.lsl gN 1 0 (t.r + 1), .bool (decide (t.d < 0)), .sl (iv (lim t.d.natAbs)), .lsl gM 1 0 (t.r + 1), .int .i64 t.n, .lsl g.F 1 0 t.n]]⟩) (hF : b' g.F = b g.F) (hi : ∀ x, x ∈ g.ids → b' x = b x)
    (hr : b' gr = some ⟨2, zv (t.n + 1) (t.Z t.r)⟩) (h0 : 0 ≤ gr) (hN : 0 ≤ gN) (hM : 0 ≤ gM) (nd : (g.T :: gN :: gM :: g.F :: (g.ids ++ [gr])).Nodup) :
    TT b' ⟨g.T, gN, gM, g.F, g.ids ++ [gr]⟩ ⟨t.r + 1, t.n, t.Z, t.d, t.bs, t.fr⟩ := by
  have hl := h.grid.len
  have key : ∀ (i : Nat) (x : Int), (g.ids ++ [gr])[i]? = some x → (i < t.r ∧ g.ids[i]? = some x) ∨ (i = t.r ∧ x = gr) := fun i x hx => by
    by_cases e : i < t.r
    · rw [List.getElem?_append_left (by omega)] at hx; exact .inl ⟨e, hx⟩
    · rw [List.getElem?_append_right (by omega)] at hx
      have : i - g.ids.length = 0 := by
        rcases Nat.eq_zero_or_pos (i - g.ids.length) with h | h
        · exact h
        · rw [List.getElem?_eq_none (by simp; omega)] at hx; cases hx
      rw [this] at hx; cases hx
      exact .inr ⟨by omega, rfl⟩
  have nd2 := nd
  simp only [List.nodup_cons, List.mem_cons, not_or] at nd2
  obtain ⟨-, ⟨-, -, nNi⟩, -, -, ndi⟩ := nd2
  have hgr : gr ∉ g.ids := fun hm => by
    rw [List.nodup_append] at ndi
    exact ndi.2.2 gr hm gr (by simp) rfl
  refine ⟨⟨by simp [hl], hR, fun i x hx => ?_, fun x hx => ?_, fun i j x hx hy => ?_, nNi⟩, hT, hB, ?_, h.pT, fun hn => absurd hn (by simp only; omega), fun hn => absurd hn (by simp only; omega), h.pF, nd⟩
  · rcases key i x hx with ⟨hlt, hx⟩ | ⟨rfl, rfl⟩
    · rw [hi x (List.mem_of_getElem? hx)]; exact h.grid.row i x hx
    · exact hr
  · rcases List.mem_append.1 hx with hx | hx
    · exact h.grid.pos x hx
    · rw [List.mem_singleton.1 hx]; exact h0
  · rcases key i x hx with ⟨hlt, hx⟩ | ⟨e1, e2⟩ <;> rcases key j x hy with ⟨hlt2, hy⟩ | ⟨e3, e4⟩
    · exact h.grid.inj i j x hx hy
    · exact absurd (List.mem_of_getElem? hx) (by rw [e4]; exact hgr)
    · exact absurd (List.mem_of_getElem? hy) (by rw [e2]; exact hgr)
    · rw [e1, e3]
  · simp only; rw [hF]; exact h.fre
/-- What is free is written anew. -/
theorem TT.setF {b b' : Int → Option Blk} {g : TG} {t : TN} (h : TT b g t) (fr : Nat → Bool) (hF : b' g.F = some ⟨1, lv t.n fr⟩) (hk : ∀ x y, x ∈ g.all → x ≠ g.F → b x = some y → b' x = some y) : TT b' g ⟨t.r, t.n, t.Z, t.d, t.bs, fr⟩ := by
  have nd := h.nd
  simp only [List.nodup_cons, List.mem_cons, not_or] at nd
  obtain ⟨⟨n1, n2, n3, n4⟩, ⟨n5, n6, n7⟩, ⟨n8, n9⟩, n10, n11⟩ := nd
  refine ⟨h.grid.keep fun x y hx hy => ?_, hk _ _ (by simp [TG.all]) n3 h.hd, hk _ _ (by simp [TG.all]) n8 h.ba, hF, h.pT, h.pR, h.pB, h.pF, h.nd⟩
  rcases hx with rfl | hx
  · exact hk _ _ (by simp [TG.all]) n6 hy
  · exact hk _ _ (by simp [TG.all, hx]) (fun e => n10 (e ▸ hx)) hy
theorem atR_range {m q : Nat} (h : q < m) : atR (List.range m) q = q := by
  unfold atR
  rw [List.getD_eq_getElem?_getD, List.getElem?_eq_getElem (by simpa using h)]; simp
end Go.Proofs.YticmgmemnpcbbaaGreat.Vm

namespace Go.Proofs.YticmgmemnpcbbaaGreat.Vm
open Go Go.RowKit Go.Proofs
set_option linter.unusedSimpArgs false
set_option linter.unusedVariables false

theorem l09Row_ro (p : Pg) (n m i : Nat) (h : PgN p n m) (hi : i < m) : RO Tryz.prog 246 [.agg p.v, .int .i64 i] (.sl (iv (lz n (pA p n i)))) := by
  have hr := h.row hi
  have hml := h.ml
  have hnl := h.nl
  have hal := h.al
  have hin : i * n ≤ 17 * 100 := Nat.mul_le_mul (by omega) (by omega)
  have hmn : i * n + n ≤ m * n := by
    have := Nat.mul_le_mul_right n (show i + 1 ≤ m by omega)
    rwa [Nat.add_mul, Nat.one_mul] at this
  have e1 : (i : Int) * (n : Int) = ((i * n : Nat) : Int) := (Int.natCast_mul i n).symm
  have e2 : ((i : Int) + 1) * (n : Int) = ((i * n + n : Nat) : Int) := by rw [Int.add_mul, Int.one_mul, e1]; omega
  have w0 : IntKind.i64.wrap ((i : Int) + 1) = (i : Int) + 1 := i64_in (by omega) (by omega)
  have w1 : IntKind.i64.wrap ((i : Int) * (n : Int)) = (i : Int) * n := by rw [e1]; exact i64_in (by omega) (by omega)
  have w2 : IntKind.i64.wrap (((i : Int) + 1) * (n : Int)) = (i : Int) * n + n := by rw [e2, i64_in (by omega) (by omega)]; simp
  have hc := h.cols
  have k1 : (0 : Int) ≤ (i : Int) * n := by rw [e1]; omega
  have k2 : (i : Int) * n ≤ (i : Int) * n + n := by omega
  have k3 : (i : Int) * n + n ≤ (p.a.length : Int) := by rw [hal, e1]; omega
  have k4 : ((i : Int) * n).toNat = i * n := by rw [e1]; omega
  have k5 : ((i : Int) * n + n).toNat = i * n + n := by rw [e1]; omega
  refine ro_of2 Tryz.func246 rfl rfl (by rw [Tryz.ntmps246]; simp) fun bl => ?_
  rw [Tryz.ntmps246, Tryz.results246]
  refine AW_run ?_
  simp [Pg.v]
  intro g hg hbg
  simp [hc, w0, w1, w2, k1, k2, k3, sliV, k4, k5, hr]
  exact ⟨fun x hx => (iv_clen _ x hx).symm, retRO [.sl (iv (lz n (pA p n i)))] 0 (by simp) (by simp [frz, V.cl]) (by simp [hbg])⟩
/-- One row more. -/
theorem SS.snoc {b b' : Int → Option Blk} {g : SG} {r w n : Nat} {Z : Nat → Nat → Rat} {co : Nat → Rat} {bs : Nat → Nat} (h : SS b g ⟨r, w, n, Z, co, bs⟩) (gN gM gr : Int) (hR : b' gN = some ⟨1, (g.ids ++ [gr]).map fun x => [.lsl x 3 0 w]⟩) (hB : b' gM = some ⟨1, iv (lb (r + 1) bs)⟩)
    (hT : b' g.T = some ⟨4, [[.int .i64 n, .lsl gN 1 0 (r + 1), .lsl gM 1 0 (r + 1), .lsl g.C 3 0 w]]⟩) (hC : b' g.C = b g.C) (hi : ∀ x, x ∈ g.ids → b' x = b x)
    (hr : b' gr = some ⟨3, rqs w (Z r)⟩) (h0 : 0 ≤ gr) (hN : 0 ≤ gN) (hM : 0 ≤ gM) (nd : (SG.all ⟨g.T, gN, gM, g.C, g.ids ++ [gr]⟩).Nodup) :
    SS b' ⟨g.T, gN, gM, g.C, g.ids ++ [gr]⟩ ⟨r + 1, w, n, Z, co, bs⟩ := by
  have hl := h.len
  simp only at hl
  refine ⟨by simp [hl], hR, fun i x hx => ?_, fun x hx => ?_, hT, hB, by simp only; rw [hC]; exact h.cst, h.pT, fun e => by simp only at e; omega, fun e => by simp only at e; omega, h.pC, nd⟩
  · simp only at hx ⊢
    by_cases e : i < r
    · rw [List.getElem?_append_left (by omega)] at hx
      rw [hi x (List.mem_of_getElem? hx)]; exact h.row i x hx
    · rw [List.getElem?_append_right (by omega)] at hx
      have e0 : i - g.ids.length = 0 := by
        rcases Nat.eq_zero_or_pos (i - g.ids.length) with q | q
        · exact q
        · rw [List.getElem?_eq_none (by simp; omega)] at hx; cases hx
      rw [e0] at hx; cases hx
      rw [show i = r by omega]; exact hr
  · rcases List.mem_append.1 hx with hx | hx
    · exact h.pos x hx
    · rw [List.mem_singleton.1 hx]; exact h0
/-- The cost after some rows. -/
noncomputable def coTo (p : Pg) (n m i : Nat) : Nat → Rat := fun c => if c < n ∨ c = n + m then Lp.S i fun r => eQ p n m r c else 0
theorem eQ_le {p : Pg} {n m : Nat} (h : PgN p n m) (i c : Nat) : ∃ z : Int, eQ p n m i c = (z : Rat) ∧ z.natAbs ≤ 1000 := ⟨_, rfl, eZ_le h i c⟩
theorem coTo_int {p : Pg} {n m : Nat} (h : PgN p n m) (c : Nat) : ∀ i, ∃ z : Int, coTo p n m i c = (z : Rat) ∧ z.natAbs ≤ i * 1000
  | 0 => ⟨0, by unfold coTo; rw [Lp.S]; split <;> rfl, by simp⟩
  | i + 1 => by
    obtain ⟨z, h1, h2⟩ := coTo_int h c i
    obtain ⟨y, h3, h4⟩ := eQ_le h i c
    by_cases e : c < n ∨ c = n + m
    · refine ⟨z + y, ?_, by omega⟩
      unfold coTo at h1 ⊢
      rw [if_pos e] at h1 ⊢
      rw [Lp.S, h1, h3, Rat.intCast_add]
    · refine ⟨0, ?_, by simp⟩
      unfold coTo; rw [if_neg e]; rfl
theorem coTo_fits {p : Pg} {n m i : Nat} (h : PgN p n m) (hi : i ≤ m) (c : Nat) : fits (coTo p n m i c) := by
  obtain ⟨z, h1, h2⟩ := coTo_int h c i
  rw [h1]
  have := h.ml
  have := Nat.mul_le_mul_right 1000 (show i ≤ 17 by omega)
  exact fits_int (by omega)
theorem coTo_yes {p : Pg} {n m i c : Nat} (e : c < n ∨ c = n + m) : coTo p n m (i + 1) c = coTo p n m i c + eQ p n m i c := by unfold coTo; rw [if_pos e, if_pos e, Lp.S]
theorem coTo_no {p : Pg} {n m i c : Nat} (e : ¬ (c < n ∨ c = n + m)) : coTo p n m (i + 1) c = coTo p n m i c := by unfold coTo; rw [if_neg e, if_neg e]
theorem coTo_rc {p : Pg} {n m c : Nat} (h : PgN p n m) (hc : c ≤ n + m) : coTo p n m m c = Lp.rc m (Lp.wart n m) (Lp.tab0 n (eQ p n m)) c := by
  have hS : (Lp.S m fun i => (Lp.tab0 n (eQ p n m)).X i c * Lp.wart n m ((Lp.tab0 n (eQ p n m)).bs i)) = - Lp.S m fun i => eQ p n m i c := by
    rw [Lp.S_congr (g := fun i => (-1) * eQ p n m i c) fun i hi => by
      show eQ p n m i c * Lp.wart n m (n + i) = _
      unfold Lp.wart
      rw [if_pos (by omega)]; grind, Lp.S_mul]
    grind
  unfold Lp.rc
  rw [hS]
  unfold coTo
  by_cases e : c < n ∨ c = n + m
  · rw [if_pos e, show Lp.wart n m c = 0 by unfold Lp.wart; rw [if_neg (by omega)]]; grind
  · rw [if_neg e, show Lp.wart n m c = -1 by unfold Lp.wart; rw [if_pos (by omega)]]
    obtain ⟨j, hj⟩ : ∃ j, c = n + j := ⟨c - n, by omega⟩
    have hjm : j < m := by omega
    rw [hj, Lp.S_single (k := j) hjm, h.init.art j j hjm hjm, if_pos rfl]
    · grind
    · intro i hi hne
      rw [h.init.art i j hi hjm, if_neg hne]
structure LoopF0 where
  j : Nat
  gC : Int
  b : Int → Option Blk
structure LoopW where
  k : Nat
  gw : Int
  b : Int → Option Blk
structure LoopR1 where
  i : Nat
  g : SG
  b : Int → Option Blk
/-- A row that is being written, beside other blocks. -/
structure WOk (b : Int → Option Blk) (f : Nat → Rat) (W : LoopW) : Prop where
  blk : W.b W.gw = some ⟨3, rqs W.k f⟩
  new : b W.gw = none
  nn : 0 ≤ W.gw
  sub : Sub b W.b
theorem WOk.snoc {b : Int → Option Blk} {f : Nat → Rat} {k : Nat} {gw g4 gN : Int} {bw : Int → Option Blk} (h : WOk b f ⟨k, gw, bw⟩) (h4 : bw g4 = none) (hN : 0 ≤ gN) (hn : ¬ gN = gw → ¬ gN = g4 ∧ bw gN = none) :
    WOk b f ⟨k + 1, gN, upd (rem bw gw) gN (some ⟨3, rqs (k + 1) f⟩)⟩ := by
  have hbN : b gN = none := by
    by_cases e : gN = gw
    · rw [e]; exact h.new
    · cases hv : b gN with
      | none => rfl
      | some y => have := h.sub gN y hv; simp only at this; rw [(hn e).2] at this; cases this
  refine ⟨upd_same _ _ _, hbN, hN, fun x y hx => ?_⟩
  have x1 : x ≠ gN := fun e => by rw [e, hbN] at hx; cases hx
  have x2 : x ≠ gw := fun e => by have := h.new; simp only at this; rw [e, this] at hx; cases hx
  simp only
  rw [upd_ne _ _ _ _ x1, rem_apply, if_neg x2]
  exact h.sub x y hx
theorem sub_drop {bw : Int → Option Blk} {gw g4 gN : Int} {X Y : Option Blk} (h4 : bw g4 = none) (h : ¬ gN = gw → ¬ gN = g4) (hw : g4 ≠ gw) : Sub (upd (rem bw gw) gN Y) (upd (rem (upd bw g4 X) gw) gN Y) := fun z y hz => by
  simp only [upd_apply, rem_apply] at hz ⊢
  grind
theorem l10First_cp {bl : Int → Option Blk} {K : V → (Int → Option Blk) → Prop} (p : Pg) (n m : Nat) (h : PgN p n m)
    (hK : ∀ b' g, SS b' g (snV (List.range m) (n + m) (n + m) m (Lp.wart n m) (Lp.tab0 n (eQ p n m))) → (∀ x, x ∈ g.all → bl x = none) → Sub bl b' → K (.loc g.T 4 0 0) b') :
    CallP Tryz.prog 189 [.agg p.v] bl K := by
  have hml := h.ml
  have hnl := h.nl
  obtain ⟨N, hN⟩ : ∃ N, n + m = N := ⟨_, rfl⟩
  have wN : IntKind.i64.wrap ((n : Int) + (m : Int)) = (N : Int) := by rw [i64_in (by omega) (by omega)]; omega
  have hL5 : p.v.length = 5 := rfl
  refine callP_of Tryz.func189 rfl rfl (by rw [Tryz.ntmps189]; simp) ?_
  rw [Tryz.ntmps189, Tryz.results189]
  refine AW_runA ?_
  simp [Pg.v]
  intro g1 hg1 hb1
  refine AW_frzAt 1 1 (.ptr p.v) bl (by intro z b hz; simp only [upd_apply] at hz ⊢; grind) (by simp [frz, dropB, hb1, V.cl, Pg.v]) ?_
  refine AW_runA ?_
  simp [Pg.v, h.rows, h.cols, wN]
  intro gT hgT hbT
  refine AW_at [(1, .ptr p.v), (3, .loc gT 4 0 0)] 152 (upd bl gT (some ⟨4, [[.int .i64 N, .nils, .nils, .nils]]⟩)) ⟨rfl, by simp [Pg.v, h.rows, h.cols], sub_eq (by simp)⟩ ?_
  refine AW_ghostCell (g := gT) (s := 4) (els := [[.int .i64 N, .nils, .nils, .nils]]) 0 1 1 (by simp) rfl rfl fun gR hgR hRT => ?_
  simp [hRT] at hgR
  refine AW_ghostCell (g := gT) (s := 4) (els := [[.int .i64 N, .lsl gR 1 0 0, .nils, .nils]]) 0 2 1 (by simp [Ne.symm hRT]) rfl rfl fun gB hgB hBT => ?_
  simp [hBT] at hgB
  obtain ⟨hBR, hgB⟩ := hgB
  refine AW_ghostCell (g := gT) (s := 4) (els := [[.int .i64 N, .lsl gR 1 0 0, .lsl gB 1 0 0, .nils]]) 0 3 3 (by simp [Ne.symm hBT]) rfl rfl fun gC hgC hCT => ?_
  simp [hCT] at hgC
  obtain ⟨hCB, hCR, hgC⟩ := hgC
  obtain ⟨b1, hb1⟩ : ∃ b1, b1 = upd (upd (upd (upd (upd (upd (upd bl gT (some ⟨4, [[.int .i64 N, .nils, .nils, .nils]]⟩)) gT (some ⟨4, [[.int .i64 N, .lsl gR 1 0 0, .nils, .nils]]⟩)) gR (some ⟨1, []⟩)) gT (some ⟨4, [[.int .i64 N, .lsl gR 1 0 0, .lsl gB 1 0 0, .nils]]⟩)) gB (some ⟨1, []⟩)) gT (some ⟨4, [[.int .i64 N, .lsl gR 1 0 0, .lsl gB 1 0 0, .lsl gC 3 0 0]]⟩)) gC (some ⟨3, []⟩) := ⟨_, rfl⟩
  have b1T : b1 gT = some ⟨4, [[.int .i64 N, .lsl gR 1 0 0, .lsl gB 1 0 0, .lsl gC 3 0 0]]⟩ := by rw [hb1]; simp [Ne.symm hCT]
  have b1R : b1 gR = some ⟨1, []⟩ := by rw [hb1]; simp [Ne.symm hCR, hRT, Ne.symm hBR]
  have b1B : b1 gB = some ⟨1, []⟩ := by rw [hb1]; simp [Ne.symm hCB, hBT]
  have b1C : b1 gC = some ⟨3, rqs 0 fun _ => 0⟩ := by rw [hb1]; simp [rqs]
  have s1 : Sub bl b1 := fun x y hx => by
    have x1 : x ≠ gT := fun e => by rw [e, hbT] at hx; cases hx
    have x2 : x ≠ gR := fun e => by rw [e, hgR] at hx; cases hx
    have x3 : x ≠ gB := fun e => by rw [e, hgB] at hx; cases hx
    have x4 : x ≠ gC := fun e => by rw [e, hgC] at hx; cases hx
    rw [hb1]; simp [x1, x2, x3, x4, hx]
  refine AW_at [(1, .ptr p.v), (3, .loc gT 4 0 0)] 152 b1 ⟨rfl, by simp, by rw [hb1]; exact sub_eq (by simp)⟩ ?_
  clear hb1
  refine AW_seq ?_
  refine AW_run ?_
  simp
  refine AW_for (fun q : LoopF0 => [(1, .ptr p.v), (3, .loc gT 4 0 0), (4, .int .i64 q.j)]) (fun q => q.b) (fun q => q.j ≤ N + 1 ∧ q.b gT = some ⟨4, [[.int .i64 N, .lsl gR 1 0 0, .lsl gB 1 0 0, .lsl q.gC 3 0 q.j]]⟩ ∧ q.b gR = some ⟨1, []⟩ ∧ q.b gB = some ⟨1, []⟩ ∧ q.b q.gC = some ⟨3, rqs q.j fun _ => 0⟩ ∧ (q.gC ≠ gT ∧ q.gC ≠ gR ∧ q.gC ≠ gB ∧ bl q.gC = none ∧ (0 ≤ q.gC ∨ q.j = 0)) ∧ Sub bl q.b) (fun q => N + 1 - q.j) _ ⟨0, gC, b1⟩ ⟨Nat.zero_le _, b1T, b1R, b1B, b1C, ⟨hCT, hCR, hCB, hgC, .inr rfl⟩, s1⟩ ⟨rfl, by simp, Sub.refl _⟩ ?_
  clear s1 b1T b1R b1B b1C hgC hCB hCR hCT
  rintro ⟨j, gC, b⟩ ⟨hj, bT, bR, bB, bC, ⟨cT, cR, cB, cbl, cneg⟩, hsb⟩
  simp only at hj bT bR bB bC cT cR cB cbl cneg hsb
  have wj : IntKind.i64.wrap ((j : Int) + 1) = (j : Int) + 1 := i64_in (by omega) (by omega)
  refine AW_seq ?_
  refine AW_run ?_
  simp [bT]
  refine ⟨fun hjn => ?_, fun hjn => ?_⟩
  · refine AW_seq (AW_block ?_)
    have hR0 := RatFromInt_ro 0 (by decide)
    refine AW_mixedP mixedO (rem b gC) (sub_remS b gC) [0, 1, 2, 3, 4, 5] 5 10 (by kernel_rfl) ?_
    simp [Ne.symm cT, bT]
    refine hcQ_ro hR0 ?_
    simp
    refine DL_one (i := 6) false (by kernel_rfl) rfl rfl (by kernel_rfl) ?_
    simp [RT.c]
    intro g4 hg4 hb4
    have n4T : g4 ≠ gT := fun e => by rw [e, bT] at hb4; cases hb4
    have n4R : g4 ≠ gR := fun e => by rw [e, bR] at hb4; cases hb4
    have n4B : g4 ≠ gB := fun e => by rw [e, bB] at hb4; cases hb4
    have n4C : g4 ≠ gC := fun e => by rw [e, bC] at hb4; cases hb4
    have hsub4 : ∀ X, Sub (rem b gC) (upd b g4 X) := fun X z y hz => by
      rw [rem_apply] at hz
      rw [upd_apply]
      grind
    refine ⟨hsub4 _, DL_one (i := 7) false (by kernel_rfl) rfl rfl (by kernel_rfl) ?_⟩
    have tkC : (rqs j fun _ => (0 : Rat)).take j = rqs j fun _ => 0 := List.take_of_length_le (by simp)
    simp [n4C, Ne.symm n4C, appV, elsV, Int.not_lt.2 hg4, bC, tkC]
    have hsn : (rqs j fun _ => (0 : Rat)) ++ [[V.bool (rq 0).neg, .sl (iv (rq 0).m), .sl (iv (rq 0).d)]] = rqs (j + 1) fun _ => 0 := by rw [rqs_snoc]; rfl
    rw [hsn]
    refine ⟨by omega, fun gN hgN hbN => ?_⟩
    have nN : gN ≠ gT ∧ gN ≠ gR ∧ gN ≠ gB ∧ gN ≠ g4 := by
      by_cases e : gN = gC
      · subst e
        exact ⟨cT, cR, cB, Ne.symm n4C⟩
      · obtain ⟨q1, q2⟩ := hbN e
        exact ⟨fun e => (by rw [e, bT] at q2; cases q2), fun e => (by rw [e, bR] at q2; cases q2), fun e => (by rw [e, bB] at q2; cases q2), q1⟩
    obtain ⟨nNT, nNR, nNB, nN4⟩ := nN
    have blN : bl gN = none := by
      by_cases e : gN = gC
      · rw [e]; exact cbl
      · cases hv : bl gN with
        | none => rfl
        | some y => have := hsb gN y hv; rw [(hbN e).2] at this; cases this
    have hsubN : ∀ X Y, Sub (rem b gC) (upd (rem (upd b g4 X) gC) gN Y) := fun X Y z y hz => by
      rw [rem_apply] at hz
      rw [upd_apply, rem_apply, upd_apply]
      grind
    have hsubF : ∀ X Y Z, Sub (upd (upd (rem b gC) gN Y) gT Z) (upd (upd (rem (upd b g4 X) gC) gN Y) gT Z) := fun X Y Z z y hz => by
      simp only [upd_apply, rem_apply] at hz ⊢
      grind
    refine ⟨hsubN _ _, DL_one (i := 8) false (by kernel_rfl) rfl rfl (by kernel_rfl) ?_⟩
    simp
    refine ⟨hsubN _ _, DL_one (i := 9) false (by kernel_rfl) rfl rfl (by kernel_rfl) ?_⟩
    simp
    refine ⟨hsubN _ _, DL_one (i := 10) true (by kernel_rfl) rfl rfl (by kernel_rfl) ?_⟩
    simp [Ne.symm nNT, Ne.symm cT, n4T, Ne.symm n4T, bT]
    refine DL_done (by kernel_rfl) ?_
    simp
    refine AW_run ?_
    simp [wj, loopQ_normal]
    obtain ⟨b2, hb2⟩ : ∃ b2, b2 = upd (upd (rem b gC) gN (some ⟨3, rqs (j + 1) fun _ => 0⟩)) gT (some ⟨4, [[.int .i64 N, .lsl gR 1 0 0, .lsl gB 1 0 0, .lsl gN 3 0 (j + 1)]]⟩) := ⟨_, rfl⟩
    refine ⟨⟨j + 1, gN, b2⟩, ⟨by simp only; omega, by rw [hb2]; simp, by rw [hb2]; simp [hRT, Ne.symm nNR, Ne.symm cR, bR], by rw [hb2]; simp [hBT, Ne.symm nNB, Ne.symm cB, bB], by rw [hb2]; simp [nNT], ⟨nNT, nNR, nNB, blN, .inl hgN⟩, fun x y hx => ?_⟩, by simp only; omega, rfl, by simp, by rw [hb2]; exact hsubF _ _ _⟩
    have x1 : x ≠ gT := fun e => by rw [e, hbT] at hx; cases hx
    have x2 : x ≠ gN := fun e => by rw [e, blN] at hx; cases hx
    have x3 : x ≠ gC := fun e => by rw [e, cbl] at hx; cases hx
    simp only
    rw [hb2]; simp [x1, x2, x3]; exact hsb x y hx
  have hje : j = N + 1 := by omega
  subst hje
  have cnn : 0 ≤ gC := by rcases cneg with g | g; exact g; omega
  refine AW_seq ?_
  refine AW_run ?_
  simp
  have nTR := Ne.symm hRT
  have hS0 : SS b ⟨gT, gR, gB, gC, []⟩ ⟨0, N + 1, N, eQ p n m, coTo p n m 0, fun q => n + q⟩ := by
    refine ⟨rfl, bR, fun i x hx => (by cases hx), fun x hx => (by cases hx), bT, bB, ?_, hgT, fun _ => rfl, fun _ => rfl, cnn, ?_⟩
    · simp only
      rw [bC, rqs_congr (g := coTo p n m 0) fun c _ => by unfold coTo; rw [Lp.S]; split <;> rfl]
    · simp [SG.all]; grind
  have hal0 : ∀ x, x ∈ SG.all ⟨gT, gR, gB, gC, []⟩ → bl x = none := by simp [SG.all, hbT, hgR, hgB, cbl]
  refine AW_for (fun q : LoopR1 => [(1, .ptr p.v), (3, .loc gT 4 0 0), (5, .int .i64 q.i)]) (fun q => q.b) (fun q => q.i ≤ m ∧ SS q.b q.g ⟨q.i, N + 1, N, eQ p n m, coTo p n m q.i, fun q => n + q⟩ ∧ q.g.T = gT ∧ (∀ x, x ∈ q.g.all → bl x = none) ∧ Sub bl q.b) (fun q => m - q.i) _ ⟨0, ⟨gT, gR, gB, gC, []⟩, b⟩ ⟨Nat.zero_le _, hS0, rfl, hal0, hsb⟩ ⟨rfl, by simp, Sub.refl _⟩ ?_
  clear hS0 hal0 hsb cneg cbl cB cR cT bC bB bR bT wj hj cnn nTR
  rintro ⟨i, ⟨gT', gR', gB', gC', ids⟩, b'⟩ ⟨hi, hS, e1, hal, hsb⟩
  simp only at hi hS e1 hsb
  subst e1
  have hal : ∀ x, x ∈ SG.all ⟨gT', gR', gB', gC', ids⟩ → bl x = none := hal
  have wi : IntKind.i64.wrap ((i : Int) + 1) = (i : Int) + 1 := i64_in (by omega) (by omega)
  refine AW_seq ?_
  refine AW_run ?_
  simp [Pg.v, h.rows]
  refine ⟨fun him => ?_, fun him => ?_⟩
  · refine AW_seq (AW_block ?_)
    refine AW_runA ?_
    simp
    refine AW_mid (fun _ : Unit => [(1, .ptr p.v), (3, .loc gT' 4 0 0), (5, .int .i64 i), (6, .int .i64 (sgB p i))]) (fun _ => b') (fun _ => True) 152 ?_ ?_
    · refine AW_run ?_
      simp [Pg.v, h.b, him]
      refine ⟨fun hneg => ?_, fun hneg => ?_⟩
      · simp [midQ_normal]
        exact ⟨rfl, by simp [Pg.v, h.b, h.rows, sgB, hneg], Sub.refl _⟩
      · simp [midQ_normal]
        exact ⟨rfl, by simp [Pg.v, h.b, h.rows, sgB, hneg], Sub.refl _⟩
    rintro ⟨⟩ -
    obtain ⟨sg, hsg⟩ : ∃ x, sgB p i = x := ⟨_, rfl⟩
    have sg1 : sg.natAbs = 1 := by rw [← hsg]; unfold sgB; split <;> rfl
    rw [hsg]
    have hpA : ∀ c, (sg * pA p n i c).natAbs ≤ 1000 := fun c => by rw [Int.natAbs_mul, sg1, Nat.one_mul]; exact getD_le h.am _
    have hpB : (sg * pB p i).natAbs ≤ 1000 := by rw [Int.natAbs_mul, sg1, Nat.one_mul]; exact getD_le h.bm _
    refine AW_runA ?_
    simp
    intro g7 hg7 hb7
    have hW0 : WOk b' (eQ p n m i) ⟨0, g7, upd b' g7 (some ⟨3, []⟩)⟩ := ⟨by simp [rqs], hb7, hg7, fun x y hx => by simp only; rw [upd_ne _ _ _ _ (fun e => by rw [e, hb7] at hx; cases hx)]; exact hx⟩
    have heq : ∀ c, eQ p n m i c = ((eZ p n m i c : Int) : Rat) := fun _ => rfl
    refine AW_mid (fun W : LoopW => [(1, .ptr p.v), (3, .loc gT' 4 0 0), (5, .int .i64 i), (6, .int .i64 sg), (7, .lsl W.gw 3 0 n)]) (fun W => W.b) (fun W => W.k = n ∧ WOk b' (eQ p n m i) W) 152 ?_ ?_
    · refine AW_run ?_
      simp [Pg.v]
      refine callP_ro (l09Row_ro p n m i h him) ?_
      simp
      refine AW_for (fun W : LoopW => [(1, .ptr p.v), (3, .loc gT' 4 0 0), (5, .int .i64 i), (6, .int .i64 sg), (7, .lsl W.gw 3 0 W.k), (53, .sl (iv (lz n (pA p n i)))), (54, .int .i64 n), (55, .int .i64 W.k)]) (fun W => W.b) (fun W => W.k ≤ n ∧ WOk b' (eQ p n m i) W) (fun W => n - W.k) _ ⟨0, g7, upd b' g7 (some ⟨3, []⟩)⟩ ⟨Nat.zero_le _, hW0⟩ ⟨rfl, by simp [Pg.v], Sub.refl _⟩ ?_
      rintro ⟨k, gw, bw⟩ ⟨hk, hW⟩
      simp only at hk
      have wk : IntKind.i64.wrap ((k : Int) + 1) = (k : Int) + 1 := i64_in (by omega) (by omega)
      have wa : ∀ c, IntKind.i64.wrap (sg * pA p n i c) = sg * pA p n i c := fun c => i64_in (by have := hpA c; omega) (by have := hpA c; omega)
      have hbw := hW.blk
      simp only at hbw
      refine AW_run ?_
      simp
      refine ⟨fun hkn => ?_, fun hkn => ?_⟩
      · have hez : eZ p n m i k = sg * pA p n i k := by unfold eZ; rw [if_pos hkn, hsg]
        have hR0 := RatFromInt_ro (sg * pA p n i k) (by have := hpA k; omega)
        rw [← hez, ← heq] at hR0
        simp [hkn, wa]
        rw [← hez]
        refine callP_ro hR0 ?_
        simp [RT.c]
        intro g4 hg4 hb4
        have n4w : g4 ≠ gw := fun e => by rw [e, hbw] at hb4; cases hb4
        have tkw : (rqs k (eQ p n m i)).take k = rqs k (eQ p n m i) := List.take_of_length_le (by simp)
        simp [n4w, Ne.symm n4w, appV, elsV, Int.not_lt.2 hg4, hbw, tkw]
        have hsn : rqs k (eQ p n m i) ++ [[V.bool (rq (eQ p n m i k)).neg, .sl (iv (rq (eQ p n m i k)).m), .sl (iv (rq (eQ p n m i k)).d)]] = rqs (k + 1) (eQ p n m i) := by rw [rqs_snoc]; rfl
        rw [hsn]
        refine ⟨by omega, fun gN hgN hbN => ?_⟩
        simp [wk, loopQ_normal]
        refine ⟨⟨k + 1, gN, upd (rem bw gw) gN (some ⟨3, rqs (k + 1) (eQ p n m i)⟩)⟩, ⟨by simp only; omega, hW.snoc hb4 hgN hbN⟩, by simp only; omega, rfl, by simp [Pg.v], sub_drop hb4 (fun e => (hbN e).1) n4w⟩
      · have hke : k = n := by omega
        subst hke
        simp [midQ_normal]
        exact ⟨⟨k, gw, bw⟩, ⟨rfl, hW⟩, rfl, by simp [Pg.v], Sub.refl _⟩
    rintro ⟨k, gw, bw⟩ ⟨hk, hW⟩
    simp only at hk
    have hk := hk.symm
    subst hk
    clear hW0
    have hfr : ∀ {w1 : Nat} {gw1 : Int} {bw1 : Int → Option Blk}, WOk b' (eQ p n m i) ⟨w1, gw1, bw1⟩ → bw1 gw1 = some ⟨3, rqs w1 (eQ p n m i)⟩ := fun h => h.blk
    refine AW_mid (fun W : LoopW => [(1, .ptr p.v), (3, .loc gT' 4 0 0), (5, .int .i64 i), (6, .int .i64 sg), (7, .lsl W.gw 3 0 N)]) (fun W => W.b) (fun W => W.k = N ∧ WOk b' (eQ p n m i) W) 152 ?_ ?_
    · refine AW_run ?_
      simp
      refine AW_for (fun W : LoopW => [(1, .ptr p.v), (3, .loc gT' 4 0 0), (5, .int .i64 i), (6, .int .i64 sg), (7, .lsl W.gw 3 0 (n + W.k)), (10, .int .i64 W.k)]) (fun W => W.b) (fun W => W.k ≤ m ∧ WOk b' (eQ p n m i) ⟨n + W.k, W.gw, W.b⟩) (fun W => m - W.k) _ ⟨0, gw, bw⟩ ⟨Nat.zero_le _, hW⟩ ⟨rfl, by simp [Pg.v], Sub.refl _⟩ ?_
      clear hW
      rintro ⟨k, gw, bw⟩ ⟨hk, hW⟩
      simp only at hk hW
      have wk : IntKind.i64.wrap ((k : Int) + 1) = (k : Int) + 1 := i64_in (by omega) (by omega)
      have hbw := hfr hW
      refine AW_seq ?_
      refine AW_run ?_
      simp [Pg.v, h.rows]
      refine ⟨fun hkm => ?_, fun hkm => ?_⟩
      · refine AW_seq (AW_block ?_)
        refine AW_runA ?_
        simp
        have hez : eZ p n m i (n + k) = if k = i then 1 else 0 := by
          unfold eZ
          rw [if_neg (by omega), if_neg (by omega)]
          by_cases e : k = i
          · rw [if_pos e, if_pos (by omega)]
          · rw [if_neg e, if_neg (by omega)]
        have hR0 := RatFromInt_ro (eZ p n m i (n + k)) (by rw [hez]; split <;> decide)
        rw [← heq] at hR0
        refine AW_mid (fun _ : Unit => [(1, .ptr p.v), (3, .loc gT' 4 0 0), (5, .int .i64 i), (6, .int .i64 sg), (7, .lsl gw 3 0 (n + k)), (10, .int .i64 k), (11, .int .i64 (eZ p n m i (n + k)))]) (fun _ => bw) (fun _ => True) 152 ?_ ?_
        · refine AW_run ?_
          simp
          refine ⟨fun e => ?_, fun e => ?_⟩
          · have ez1 : eZ p n m i (n + k) = 1 := by rw [hez, if_pos (show k = i by omega)]
            simp [midQ_normal]
            exact ⟨rfl, by simp [Pg.v, h.rows, ez1], Sub.refl _⟩
          · have ez1 : eZ p n m i (n + k) = 0 := by rw [hez, if_neg (show ¬ k = i by omega)]
            simp [midQ_normal]
            exact ⟨rfl, by simp [Pg.v, h.rows, ez1], Sub.refl _⟩
        rintro ⟨⟩ -
        obtain ⟨w1, hw1⟩ : ∃ w1, n + k = w1 := ⟨_, rfl⟩
        rw [hw1] at hR0 hbw hW
        rw [hw1]
        have hw2 : n + (k + 1) = w1 + 1 := by omega
        refine AW_run ?_
        simp
        refine callP_ro hR0 ?_
        simp [RT.c]
        intro g4 hg4 hb4
        have n4w : g4 ≠ gw := fun e => by rw [e, hbw] at hb4; cases hb4
        have tkw : (rqs w1 (eQ p n m i)).take w1 = rqs w1 (eQ p n m i) := List.take_of_length_le (by simp)
        simp [n4w, Ne.symm n4w, appV, elsV, Int.not_lt.2 hg4, hbw, tkw]
        have hsn : rqs w1 (eQ p n m i) ++ [[V.bool (rq (eQ p n m i w1)).neg, .sl (iv (rq (eQ p n m i w1)).m), .sl (iv (rq (eQ p n m i w1)).d)]] = rqs (w1 + 1) (eQ p n m i) := by rw [rqs_snoc]; rfl
        rw [hsn]
        refine ⟨by omega, fun gN hgN hbN => ?_⟩
        refine AW_run ?_
        simp [wk, loopQ_normal]
        refine ⟨⟨k + 1, gN, upd (rem bw gw) gN (some ⟨3, rqs (w1 + 1) (eQ p n m i)⟩)⟩, ⟨by simp only; omega, by simp only; rw [hw2]; exact hW.snoc hb4 hgN hbN⟩, by simp only; omega, rfl, by simp [Pg.v, h.rows, hw2], sub_drop hb4 (fun e => (hbN e).1) n4w⟩
      · have hke : m = k := by omega
        rw [hke] at hN
        simp [midQ_normal]
        exact ⟨⟨N, gw, bw⟩, ⟨rfl, by rw [← hN]; exact hW⟩, rfl, by simp [Pg.v, h.rows, hN], Sub.refl _⟩
    clear hW
    rintro ⟨k, gw, bw⟩ ⟨hk, hW⟩
    simp only at hk
    have hk := hk.symm
    subst hk
    have wB : IntKind.i64.wrap (sg * pB p i) = sg * pB p i := i64_in (by omega) (by omega)
    have hez : eZ p n m i N = sg * pB p i := by unfold eZ; rw [if_neg (by omega), if_pos hN.symm, hsg]
    have hR0 := RatFromInt_ro (sg * pB p i) (by omega)
    rw [← hez, ← heq] at hR0
    have hbw := hfr hW
    refine AW_runA ?_
    simp [Pg.v, h.b, him, wB]
    rw [← hez]
    refine callP_ro hR0 ?_
    simp [RT.c]
    intro g4 hg4 hb4
    have n4w : g4 ≠ gw := fun e => by rw [e, hbw] at hb4; cases hb4
    have tkw : (rqs N (eQ p n m i)).take N = rqs N (eQ p n m i) := List.take_of_length_le (by simp)
    simp [n4w, Ne.symm n4w, appV, elsV, Int.not_lt.2 hg4, hbw, tkw]
    have hsn : rqs N (eQ p n m i) ++ [[V.bool (rq (eQ p n m i N)).neg, .sl (iv (rq (eQ p n m i N)).m), .sl (iv (rq (eQ p n m i N)).d)]] = rqs (N + 1) (eQ p n m i) := by rw [rqs_snoc]; rfl
    rw [hsn]
    refine ⟨by omega, fun gN hgN hbN => ?_⟩
    obtain ⟨N1, hN1⟩ : ∃ N1, N + 1 = N1 := ⟨_, rfl⟩
    have hW2 := hW.snoc hb4 hgN hbN
    rw [hN1] at hW2
    obtain ⟨bx, hbx⟩ : ∃ bx, bx = upd (rem bw gw) gN (some ⟨3, rqs N1 (eQ p n m i)⟩) := ⟨_, rfl⟩
    rw [← hbx] at hW2
    refine AW_at [(1, .ptr p.v), (3, .loc gT' 4 0 0), (5, .int .i64 i), (7, .lsl gN 3 0 N1)] 152 bx ⟨rfl, by simp [Pg.v, h.b, hN1], by rw [hbx, hN1]; exact sub_drop hb4 (fun e => (hbN e).1) n4w⟩ ?_
    clear hbx hW hbN hgN hsn tkw n4w hb4 hg4 hbw
    clear g4
    have hSx : SS bx ⟨gT', gR', gB', gC', ids⟩ ⟨i, N + 1, N, eQ p n m, coTo p n m i, fun q => n + q⟩ := hS.keep fun x y _ hx => hW2.sub x y hx
    have xw : bx gN = some ⟨3, rqs N1 (eQ p n m i)⟩ := hW2.blk
    have xT : bx gT' = _ := hSx.hd
    have xR : bx gR' = _ := hSx.top
    have xB : bx gB' = _ := hSx.ba
    have xC : bx gC' = _ := hSx.cst
    simp only [hN1] at xT xR xB xC
    have nd := hS.nd
    simp only [SG.all, List.nodup_cons, List.mem_cons, not_or] at nd
    obtain ⟨⟨nTR, nTB, nTC, nTi⟩, ⟨nRB, nRC, nRi⟩, ⟨nBC, nBi⟩, nCi, nds⟩ := nd
    have hin : ∀ x, x ∈ SG.all ⟨gT', gR', gB', gC', ids⟩ → ∃ y, b' x = some y := fun x hx => by
      simp only [SG.all, List.mem_cons] at hx
      rcases hx with rfl | rfl | rfl | rfl | hx
      · exact ⟨_, hS.hd⟩
      · exact ⟨_, hS.top⟩
      · exact ⟨_, hS.ba⟩
      · exact ⟨_, hS.cst⟩
      · obtain ⟨q, hq⟩ := List.mem_iff_getElem?.1 hx
        exact ⟨_, hS.row q x hq⟩
    have hnew : gN ∉ SG.all ⟨gT', gR', gB', gC', ids⟩ := fun hm2 => by
      obtain ⟨y, hy⟩ := hin gN hm2
      have := hW2.new
      simp only at this
      rw [this] at hy; cases hy
    simp only [SG.all, List.mem_cons, not_or] at hnew
    obtain ⟨wT, wR, wB', wC, wI⟩ := hnew
    refine AW_mid (fun _ : Unit => [(1, .ptr p.v), (3, .loc gT' 4 0 0), (5, .int .i64 i), (7, .lsl gN 3 0 N1)]) (fun _ => upd bx gC' (some ⟨3, rqs N1 (coTo p n m (i + 1))⟩)) (fun _ => True) 152 ?_ ?_
    · refine AW_run ?_
      simp
      refine AW_for (fun j : Nat => [(1, .ptr p.v), (3, .loc gT' 4 0 0), (5, .int .i64 i), (7, .lsl gN 3 0 N1), (93, .int .i64 N1), (94, .int .i64 j)]) (fun j => upd bx gC' (some ⟨3, rqs N1 fun c => if c < j then coTo p n m (i + 1) c else coTo p n m i c⟩)) (fun j => j ≤ N1) (fun j => N1 - j) _ 0 (Nat.zero_le _) ⟨rfl, by simp [Pg.v], sub_eq (by funext x; simp only [upd_apply]; split; rename_i e; rw [e, xC]; simp; rfl)⟩ ?_
      intro j hj
      have wj : IntKind.i64.wrap ((j : Int) + 1) = (j : Int) + 1 := i64_in (by omega) (by omega)
      refine AW_runA ?_
      simp
      refine AW_runA ?_
      simp
      refine ⟨fun hj1 => ?_, fun hj1 => ?_⟩
      · have hj1' : (j : Int) < N1 := by omega
        refine AW_seq (AW_block ?_)
        refine AW_runA ?_
        simp
        refine AW_seq ?_
        refine AW_way0 [(1, .ptr p.v), (3, .loc gT' 4 0 0), (5, .int .i64 i), (7, .lsl gN 3 0 N1), (93, .int .i64 N1), (94, .int .i64 j), (12, .int .i64 j)] _ (upd bx gC' (some ⟨3, rqs N1 fun c => if c < j then coTo p n m (i + 1) c else coTo p n m i c⟩)) 108 (.bool (decide (j < n ∨ j = N))) ⟨rfl, by simp [Pg.v], Sub.refl _⟩ rfl ?_ ?_
        · simp [Pg.v, h.cols, nTC, xT]
          by_cases e : j < n
          · simp [e]
            intro h9; omega
          · simp [e]
            intro _
            by_cases e2 : j = N
            · simp [e2]
            · have e3 : ¬ (j : Int) = N := by omega
              simp [e2, e3]
        simp
        have hccj : ∀ c, (if c < j then coTo p n m (i + 1) c else coTo p n m i c) = if c < j then coTo p n m (i + 1) c else coTo p n m i c := fun _ => rfl
        refine AW_run ?_
        simp
        refine ⟨fun hyes => ?_, fun hno hno2 => ?_⟩
        · have hyes' : j < n ∨ j = n + m := by omega
          have lA := l04Add_ro (some (coTo p n m i j)) (some (eQ p n m i j)) (okS (coTo_fits h hi j)) (okS (fits_int (by have := eZ_le h i j; omega)))
          rw [op2_fit (by rw [← coTo_yes hyes']; exact coTo_fits h (by omega) j), ← coTo_yes hyes'] at lA
          have hset : (rqs N1 fun c => if c < j then coTo p n m (i + 1) c else coTo p n m i c).set j (ro (some (coTo p n m (i + 1) j))).c = rqs N1 fun c => if c < j + 1 then coTo p n m (i + 1) c else coTo p n m i c := by
            rw [rqs_set _ _ hj1]
            exact rqs_congr fun c _ => by
              by_cases e : c = j
              · subst e; rw [if_pos rfl, if_pos (by omega)]
              · rw [if_neg e]
                by_cases e2 : c < j
                · rw [if_pos e2, if_pos (by omega)]
                · rw [if_neg e2, if_neg (by omega)]
          have l3 : ∀ q : Rat, (rq q).c.length = 3 := fun _ => rfl
          have t3 : ∀ q : Rat, (rq q).c.take 3 = (rq q).c := fun _ => rfl
          refine AW_mixedT mixedO [0, 1, 2, 3, 4, 5, 6, 7, 8, 9, 10, 11, 12, 13, 14, 15, 16, 17] 1 18 (by kernel_rfl) ?_
          simp [nTC, wC, xT, xw, hj1, hj1', l3, t3]
          refine hcQ_ro lA ?_
          simp [hj1, hj1']
          refine DAny_last (i := 18) (by kernel_rfl) rfl rfl rfl ?_
          generalize hy : coTo p n m (i + 1) j = y at hset
          simp [hj1, hj1', RT.c]
          refine DAny_done (by kernel_rfl) ?_
          simp
          refine AW_run ?_
          simp [wj, loopQ_normal]
          refine ⟨j + 1, by omega, by omega, rfl, by simp [Pg.v], ?_⟩
          rw [← hset]
          intro z b hz
          simp only [upd_apply, RT.c, ro_some] at hz ⊢
          grind
        · have hno' : ¬ (j < n ∨ j = n + m) := by omega
          refine AW_run ?_
          simp [wj, loopQ_normal]
          refine ⟨j + 1, by omega, by omega, rfl, by simp [Pg.v], sub_eq ?_⟩
          rw [rqs_congr (f := fun c => if c < j + 1 then coTo p n m (i + 1) c else coTo p n m i c) (g := fun c => if c < j then coTo p n m (i + 1) c else coTo p n m i c) fun c _ => by
            by_cases e : c = j
            · subst e; rw [if_pos (by omega), if_neg (by omega)]; exact coTo_no hno'
            · by_cases e2 : c < j
              · rw [if_pos e2, if_pos (by omega)]
              · rw [if_neg e2, if_neg (by omega)]]
      · have hje : j = N1 := by omega
        subst hje
        simp [midQ_normal]
        refine ⟨rfl, by simp [Pg.v], sub_eq ?_⟩
        rw [rqs_congr fun c hc => by rw [if_pos hc]]
    rintro ⟨⟩ -
    obtain ⟨by', hby⟩ : ∃ by', by' = upd bx gC' (some ⟨3, rqs N1 (coTo p n m (i + 1))⟩) := ⟨_, rfl⟩
    rw [← hby]
    have hSy : SS by' ⟨gT', gR', gB', gC', ids⟩ ⟨i, N + 1, N, eQ p n m, coTo p n m (i + 1), fun q => n + q⟩ := by
      have := hSx.putC (coTo p n m (i + 1))
      simp only [hN1] at this
      rw [hby, hN1]; exact this
    have yT : by' gT' = _ := hSy.hd
    have yR : by' gR' = _ := hSy.top
    have yB : by' gB' = _ := hSy.ba
    have yC : by' gC' = _ := hSy.cst
    have yw : by' gN = some ⟨3, rqs N1 (eQ p n m i)⟩ := by rw [hby, upd_ne _ _ _ _ wC]; exact xw
    have yx : ∀ x, x ≠ gC' → by' x = bx x := fun x hx => by rw [hby, upd_ne _ _ _ _ hx]
    simp only [hN1] at yT yR yB yC
    have hil := hS.len
    simp only at hil
    clear hby
    have yblk : ∀ x, by' x = none → x ≠ gT' ∧ x ≠ gR' ∧ x ≠ gB' ∧ x ≠ gC' ∧ x ≠ gN ∧ x ∉ ids := fun x hx => by
      refine ⟨fun e => ?_, fun e => ?_, fun e => ?_, fun e => ?_, fun e => ?_, fun e => ?_⟩
      · rw [e, yT] at hx; cases hx
      · rw [e, yR] at hx; cases hx
      · rw [e, yB] at hx; cases hx
      · rw [e, yC] at hx; cases hx
      · rw [e, yw] at hx; cases hx
      · obtain ⟨q, hq⟩ := List.mem_iff_getElem?.1 e
        rw [hSy.row q x hq] at hx; cases hx
    refine AW_runA ?_
    simp [yT, yR, appV, elsV, hil]
    intro g4 hg4 hb4
    obtain ⟨n4T, n4R, n4B, n4C, n4w, n4i⟩ := yblk g4 hb4
    have tk : (ids.map fun x => [V.lsl x 3 0 N1]).take i = ids.map fun x => [V.lsl x 3 0 N1] := List.take_of_length_le (by simp [hil])
    simp [Ne.symm n4T, Ne.symm n4R, n4T, n4R, Int.not_lt.2 hg4, yR, hil, tk]
    refine ⟨by omega, fun gQ hgQ hbQ => ?_⟩
    have nQ : gQ ≠ gT' ∧ gQ ≠ gB' ∧ gQ ≠ gC' ∧ gQ ≠ gN ∧ gQ ∉ ids ∧ gQ ≠ g4 := by
      by_cases e : gQ = gR'
      · subst e
        exact ⟨Ne.symm nTR, nRB, nRC, Ne.symm wR, nRi, Ne.symm n4R⟩
      · obtain ⟨q1, q2⟩ := hbQ e
        obtain ⟨w1, w2, w3, w4, w5, w6⟩ := yblk gQ q2
        exact ⟨w1, w3, w4, w5, w6, q1⟩
    obtain ⟨nQT, nQB, nQC, nQw, nQi, nQ4⟩ := nQ
    simp [Ne.symm nQT, nQT, Ne.symm n4T, nTR, yT]
    obtain ⟨b3, hb3⟩ : ∃ b3, b3 = upd (upd (rem by' gR') gQ (some ⟨1, (ids ++ [gN]).map fun x => [.lsl x 3 0 N1]⟩)) gT' (some ⟨4, [[.int .i64 N, .lsl gQ 1 0 (i + 1), .lsl gB' 1 0 i, .lsl gC' 3 0 N1]]⟩) := ⟨_, rfl⟩
    refine AW_at [(1, .ptr p.v), (3, .loc gT' 4 0 0), (5, .int .i64 i)] 152 b3 ⟨rfl, by simp [Pg.v], ?_⟩ ?_
    · rw [hb3]
      intro z y hz
      simp only [upd_apply, rem_apply] at hz ⊢
      grind
    have b3N : b3 gQ = some ⟨1, (ids ++ [gN]).map fun x => [.lsl x 3 0 N1]⟩ := by rw [hb3]; simp [nQT]
    have b3T : b3 gT' = some ⟨4, [[.int .i64 N, .lsl gQ 1 0 (i + 1), .lsl gB' 1 0 i, .lsl gC' 3 0 N1]]⟩ := by rw [hb3]; simp
    have b3x : ∀ x, x ≠ gT' → x ≠ gQ → x ≠ gR' → b3 x = by' x := fun x x1 x2 x3 => by rw [hb3, upd_ne _ _ _ _ x1, upd_ne _ _ _ _ x2, rem_apply, if_neg x3]
    have b3B := b3x gB' (Ne.symm nTB) (Ne.symm nQB) (Ne.symm nRB)
    rw [yB] at b3B
    clear hb3
    have wni : IntKind.i64.wrap ((n : Int) + (i : Int)) = ((n + i : Nat) : Int) := by rw [i64_in (by omega) (by omega)]; simp
    obtain ⟨ni, hni⟩ : ∃ x, n + i = x := ⟨_, rfl⟩
    rw [hni] at wni
    refine AW_mixedP mixedO (rem b3 gB') (sub_remS b3 gB') [0, 1, 2, 3, 4, 5, 6, 7, 8] 5 13 (by kernel_rfl) ?_
    simp [nTB, b3T, Pg.v, h.cols, wni]
    refine DL_one (i := 9) false (by kernel_rfl) rfl rfl (by kernel_rfl) ?_
    simp
    intro g5 hg5 hb5
    have n5 : g5 ≠ gT' ∧ g5 ≠ gQ ∧ g5 ≠ gB' := ⟨fun e => (by rw [e, b3T] at hb5; cases hb5), fun e => (by rw [e, b3N] at hb5; cases hb5), fun e => (by rw [e, b3B] at hb5; cases hb5)⟩
    obtain ⟨n5T, n5Q, n5B⟩ := n5
    have hsub5 : ∀ X, Sub (rem b3 gB') (upd b3 g5 X) := fun X z y hz => by
      rw [rem_apply] at hz
      rw [upd_apply]
      grind
    refine ⟨hsub5 _, DL_one (i := 10) false (by kernel_rfl) rfl rfl (by kernel_rfl) ?_⟩
    have tkB : (iv (lb i fun q => n + q)).take i = iv (lb i fun q => n + q) := List.take_of_length_le (by simp)
    simp [n5B, Ne.symm n5B, appV, elsV, Int.not_lt.2 hg5, b3B, tkB]
    have hlb : iv (lb i fun q => n + q) ++ [[.int .i64 ni]] = iv (lb (i + 1) fun q => n + q) := by rw [lb_snoc, iv_append, hni]; rfl
    rw [hlb]
    refine ⟨by omega, fun gM hgM hbM => ?_⟩
    have nM : gM ≠ gT' ∧ gM ≠ gQ ∧ gM ≠ gC' ∧ gM ≠ gN ∧ gM ∉ ids ∧ gM ≠ g5 := by
      by_cases e : gM = gB'
      · subst e
        exact ⟨Ne.symm nTB, Ne.symm nQB, nBC, Ne.symm wB', nBi, Ne.symm n5B⟩
      · obtain ⟨q1, q2⟩ := hbM e
        have q3 : gM ≠ gT' := fun e2 => by rw [e2, b3T] at q2; cases q2
        have q4 : gM ≠ gQ := fun e2 => by rw [e2, b3N] at q2; cases q2
        by_cases e3 : gM = gR'
        · subst e3
          exact ⟨q3, q4, nRC, Ne.symm wR, nRi, q1⟩
        · rw [b3x gM q3 q4 e3] at q2
          obtain ⟨w1, w2, w3, w4, w5, w6⟩ := yblk gM q2
          exact ⟨q3, q4, w4, w5, w6, q1⟩
    obtain ⟨nMT, nMQ, nMC, nMw, nMi, nM5⟩ := nM
    have hsubM : ∀ X Y, Sub (rem b3 gB') (upd (rem (upd b3 g5 X) gB') gM Y) := fun X Y z y hz => by
      rw [rem_apply] at hz
      rw [upd_apply, rem_apply, upd_apply]
      grind
    have hsubF : ∀ X Y Z, Sub (upd (upd (rem b3 gB') gM Y) gT' Z) (upd (upd (rem (upd b3 g5 X) gB') gM Y) gT' Z) := fun X Y Z z y hz => by
      simp only [upd_apply, rem_apply] at hz ⊢
      grind
    refine ⟨hsubM _ _, DL_one (i := 11) false (by kernel_rfl) rfl rfl (by kernel_rfl) ?_⟩
    simp
    refine ⟨hsubM _ _, DL_one (i := 12) false (by kernel_rfl) rfl rfl (by kernel_rfl) ?_⟩
    simp
    refine ⟨hsubM _ _, DL_one (i := 13) true (by kernel_rfl) rfl rfl (by kernel_rfl) ?_⟩
    simp [Ne.symm nMT, nTB, n5T, Ne.symm n5T, b3T]
    refine DL_done (by kernel_rfl) ?_
    simp
    refine AW_run ?_
    simp [wi, loopQ_normal]
    obtain ⟨b4, hb4'⟩ : ∃ b4, b4 = upd (upd (rem b3 gB') gM (some ⟨1, iv (lb (i + 1) fun q => n + q)⟩)) gT' (some ⟨4, [[.int .i64 N, .lsl gQ 1 0 (i + 1), .lsl gM 1 0 (i + 1), .lsl gC' 3 0 N1]]⟩) := ⟨_, rfl⟩
    have b4T : b4 gT' = some ⟨4, [[.int .i64 N, .lsl gQ 1 0 (i + 1), .lsl gM 1 0 (i + 1), .lsl gC' 3 0 N1]]⟩ := by rw [hb4']; simp
    have b4M : b4 gM = some ⟨1, iv (lb (i + 1) fun q => n + q)⟩ := by rw [hb4']; simp [nMT]
    have b4x : ∀ x, x ≠ gT' → x ≠ gM → x ≠ gB' → b4 x = b3 x := fun x x1 x2 x3 => by rw [hb4', upd_ne _ _ _ _ x1, upd_ne _ _ _ _ x2, rem_apply, if_neg x3]
    have b4o : ∀ x, x ≠ gT' → x ≠ gM → x ≠ gB' → x ≠ gQ → x ≠ gR' → b4 x = by' x := fun x x1 x2 x3 x4 x5 => by rw [b4x x x1 x2 x3, b3x x x1 x4 x5]
    have fr : ∀ x, by' x = none → bl x = none := fun x hx => by
      cases hv : bl x with
      | none => rfl
      | some y =>
        have h5 := hsb x y hv
        have h6 := hW2.sub x y h5
        simp only at h6
        by_cases e : x = gC'
        · rw [e, yC] at hx; cases hx
        · rw [yx x e, h6] at hx; cases hx
    have blT : bl gT' = none := hal gT' (by simp [SG.all])
    have blR : bl gR' = none := hal gR' (by simp [SG.all])
    have blB : bl gB' = none := hal gB' (by simp [SG.all])
    have blC : bl gC' = none := hal gC' (by simp [SG.all])
    have blw : bl gN = none := by
      cases hv : bl gN with
      | none => rfl
      | some y => have := hsb gN y hv; have h6 := hW2.new; simp only at h6; rw [h6] at this; cases this
    have blQ : bl gQ = none := by
      by_cases e : gQ = gR'
      · rw [e]; exact blR
      · exact fr gQ (hbQ e).2
    have blM : bl gM = none := by
      by_cases e : gM = gB'
      · rw [e]; exact blB
      · by_cases e3 : gM = gR'
        · rw [e3]; exact blR
        · have := (hbM e).2
          rw [b3x gM nMT nMQ e3] at this; exact fr gM this
    have hfin := hSy.snoc (b' := b4) gQ gM gN (by simp only; rw [hN1, b4x gQ nQT (Ne.symm nMQ) nQB, b3N]) (by exact b4M) (by simp only; rw [hN1, b4T])
      (by simp only; exact b4o gC' (Ne.symm nTC) (Ne.symm nMC) (Ne.symm nBC) (Ne.symm nQC) (Ne.symm nRC))
      (fun x hx => by simp only at hx; exact b4o x (fun e => nTi (e ▸ hx)) (fun e => nMi (e ▸ hx)) (fun e => nBi (e ▸ hx)) (fun e => nQi (e ▸ hx)) (fun e => nRi (e ▸ hx)))
      (by rw [hN1, b4o gN wT (Ne.symm nMw) wB' (Ne.symm nQw) wR, yw]) hW2.nn hgQ hgM (by
        simp only [SG.all, List.nodup_cons, List.mem_cons, not_or, List.mem_append, List.mem_singleton, List.nodup_append, List.not_mem_nil, or_false]
        refine ⟨⟨Ne.symm nQT, Ne.symm nMT, nTC, nTi, Ne.symm wT⟩, ⟨Ne.symm nMQ, nQC, nQi, nQw⟩, ⟨nMC, nMi, nMw⟩, ⟨nCi, Ne.symm wC⟩, nds, by simp, fun a ha c hc => ?_⟩
        rw [hc]; exact fun e => wI (e ▸ ha))
    refine ⟨⟨i + 1, ⟨gT', gQ, gM, gC', ids ++ [gN]⟩, b4⟩, ⟨by simp only; omega, hfin, rfl, fun x hx => ?_, fun x y hx => ?_⟩, by simp only; omega, rfl, by simp [Pg.v, h.cols, h.rows, h.b], by rw [hb4']; exact hsubF _ _ _⟩
    · simp only [SG.all, List.mem_cons, List.mem_append, List.not_mem_nil, or_false] at hx
      rcases hx with rfl | rfl | rfl | rfl | hx | rfl
      · exact blT
      · exact blQ
      · exact blM
      · exact blC
      · exact hal x (by simp [SG.all, hx])
      · exact blw
    · have nx : ∀ z, bl z = none → x ≠ z := fun z hz e => by rw [e, hz] at hx; cases hx
      simp only
      rw [b4o x (nx _ blT) (nx _ blM) (nx _ blB) (nx _ blQ) (nx _ blR), yx x (nx _ blC)]
      exact hW2.sub x y (hsb x y hx)
  · have hie : m = i := by omega
    refine AW_run ?_
    simp
    rw [retK_ret]
    refine ⟨[.loc gT' 4 0 0], by simp, hK b' ⟨gT', gR', gB', gC', ids⟩ ?_ hal hsb⟩
    unfold snV
    rw [← hie, ← hN] at hS
    rw [show (List.range m).length = m by simp]
    refine hS.congr (fun q c hq hc => ?_) (fun c hc => ?_) fun q hq => ?_
    · rw [atR_range hq]
      show eQ p n m q c = eQ p n m q _
      by_cases e : c < n + m
      · rw [if_pos e]
      · rw [if_neg e, show c = n + m by omega]
    · rw [coTo_rc h (by omega)]
      by_cases e : c < n + m
      · rw [if_pos e]
      · rw [if_neg e, show c = n + m by omega]
    · rw [atR_range hq]; rfl
end Go.Proofs.YticmgmemnpcbbaaGreat.Vm

namespace Go.Proofs.YticmgmemnpcbbaaGreat.Lp
set_option linter.unusedSimpArgs false
set_option linter.unusedVariables false

/-- None: no solution. Some none: no greatest one. Else the first of the best. -/
noncomputable def opt (n m : Nat) (E : Nat → Nat → Rat) (b : Nat) (C : Nat → Rat) : Option (Option (Nat → Rat)) :=
  open Classical in
  if h : ∃ x, Best n m E b C x then some (some fun c => if c < n then h.choose c else 0)
  else if ∃ x, Feas n m E b x then some none else none
end Go.Proofs.YticmgmemnpcbbaaGreat.Lp

namespace Go.Proofs.YticmgmemnpcbbaaGreat.Lp
set_option linter.unusedSimpArgs false
set_option linter.unusedVariables false

/-- Numbers with one small denominator. -/
def Den (L n : Nat) (x : Nat → Rat) : Prop := ∃ v : Int, v ≠ 0 ∧ v.natAbs ≤ L ∧ ∀ c, c < n → ∃ a : Int, x c * v = a ∧ a.natAbs ≤ L
theorem Den.congr {L n : Nat} {x y : Nat → Rat} (h : Den L n x) (e : ∀ c, c < n → x c = y c) : Den L n y := by
  obtain ⟨v, h1, h2, h3⟩ := h
  exact ⟨v, h1, h2, fun c hc => by rw [← e c hc]; exact h3 c hc⟩
theorem Den.sm {L n : Nat} {x : Nat → Rat} (h : Den L n x) {c : Nat} (hc : c < n) : Lp.sm L (x c) := by
  obtain ⟨v, h1, h2, h3⟩ := h
  obtain ⟨a, ha, hal⟩ := h3 c hc
  exact ⟨a, v, h1, ha, hal, h2⟩
/-- Sums of products with small whole numbers. -/
theorem Den.sum {L n W : Nat} {x : Nat → Rat} (h : Den L n x) {C : Nat → Int} (hC : ∀ c, c < n → (C c).natAbs ≤ W) (hW : 1 ≤ W) : ∀ k, k ≤ n → Lp.sm ((n + 1) * (W * L)) (S k fun c => (C c : Rat) * x c) := by
  obtain ⟨v, h1, h2, h3⟩ := h
  have key : ∀ k, k ≤ n → ∃ a : Int, (S k fun c => (C c : Rat) * x c) * v = a ∧ a.natAbs ≤ k * (W * L) := by
    intro k
    induction k with
    | zero => intro _; exact ⟨0, by rw [S]; grind, by simp⟩
    | succ k ih =>
      intro hk
      obtain ⟨a, ha, hal⟩ := ih (by omega)
      obtain ⟨z, hz, hzl⟩ := h3 k (by omega)
      refine ⟨a + C k * z, ?_, ?_⟩
      · rw [S, Rat.intCast_add, Rat.intCast_mul, ← ha, ← hz]; grind
      · have e1 := Int.natAbs_add_le a (C k * z)
        have e2 : (C k * z).natAbs ≤ W * L := by rw [Int.natAbs_mul]; exact Nat.mul_le_mul (hC k (by omega)) hzl
        rw [Nat.add_mul, Nat.one_mul]; omega
  intro k hk
  obtain ⟨a, ha, hal⟩ := key k hk
  refine ⟨a, v, h1, ha, Nat.le_trans hal (Nat.mul_le_mul_right _ (by omega)), Nat.le_trans h2 ?_⟩
  have e1 : 1 * L ≤ W * L := Nat.mul_le_mul_right _ hW
  have e2 : 1 * (W * L) ≤ (n + 1) * (W * L) := Nat.mul_le_mul_right _ (by omega)
  omega
/-- The run of the whole simplex ends. -/
theorem runs {n m K : Nat} {E : Nat → Nat → Rat} (C : Nat → Rat) (h : Init n m K E) : (∀ x, ¬ Feas n m E (n + m) x) ∨
    ∃ t rows, Inv n m (n + m) (n + m + 1) K E rows t ∧ (∀ i, i ∈ rows → t.bs i < n) ∧ nx n (n + m) rows (okL m n C) t = none := by
  obtain ⟨e, h1, h2, h3, h4⟩ := phase1_run (N' := n + m) (F := fun c => c < n) h (fun c hc => by omega) (Nat.le_refl _) (fun c hc => ⟨by omega, hc⟩)
  generalize orb (nx (n + m) (n + m) (List.range m) (okW m (wart n m) fun c => c < n)) (tab0 n E) e = t at *
  by_cases hp : rc m (wart n m) t (n + m) = 0
  · right
    have hk := (kicks_kick (h4.kick hp) (by omega) m (Nat.le_refl _)).inv
    have R : Rule n m (n + m) (n + 1) n (n + m + 1) (wl C) (fun c => c < n) (liveTo n (kicks n t m) m) (okL m n C) := ruleL (by omega) (by omega)
    obtain ⟨e2, g1, g2, g3⟩ := R.ends hk
    exact ⟨_, _, g3 e2 (Nat.le_refl _), R.low (fun c hc => hc) g3 (fun i hi => (live_mem.1 hi).2) e2 (Nat.le_refl _), g1⟩
  · exact .inl fun x => h4.no hp x
end Go.Proofs.YticmgmemnpcbbaaGreat.Lp

namespace Go.Proofs.YticmgmemnpcbbaaGreat.Vm
open Go Go.RowKit Go.Proofs
set_option linter.unusedSimpArgs false
set_option linter.unusedVariables false

/-- Numbers that a program may have. -/
structure Pg100 (p : Pg) (n m : Nat) : Prop where
  a : ∀ x, x ∈ p.a → x.natAbs ≤ 100
  b : ∀ x, x ∈ p.b → x.natAbs ≤ 100
  c : ∀ x, x ∈ p.c → x.natAbs ≤ 100
  m : m ≤ 20
  n : n ≤ 40
theorem l09In_ro (l : List Int) (h : ∀ x, x ∈ l → x.natAbs ≤ 100) (hl : l.length ≤ 1000000) : RO Tryz.prog 245 [.sl (iv l)] (.bool true) := by
  refine ro_of2 Tryz.func245 rfl rfl (by rw [Tryz.ntmps245]; simp) fun bl => ?_
  rw [Tryz.ntmps245, Tryz.results245]
  refine AW_run ?_
  simp
  refine AW_for (fun i : Nat => [(5, .sl (iv l)), (6, .int .i64 l.length), (7, .int .i64 i)]) (fun _ => bl) (fun i => i ≤ l.length) (fun i => l.length - i) _ 0 (Nat.zero_le _) ⟨rfl, by simp, Sub.refl _⟩ ?_
  intro i hi
  have wi : IntKind.i64.wrap ((i : Int) + 1) = (i : Int) + 1 := i64_in (by omega) (by omega)
  refine AW_run ?_
  simp
  refine ⟨fun hil => ?_, fun hil => ?_⟩
  · have hx := h l[i] (List.getElem_mem hil)
    simp [hil]
    refine callP_ro (l01In_ro _ _ _) ?_
    have h1 : -100 ≤ l[i] := by omega
    have h2 : l[i] ≤ 100 := by omega
    simp [h1, h2, wi, loopQ_normal]
    refine ⟨i + 1, by omega, by omega, rfl, by simp, Sub.refl _⟩
  · exact retRO0 (by simp) rfl rfl
theorem spec_ProgramOk_ro (p : Pg) (n m : Nat) (h : PgN p n m) (h1 : Pg100 p n m) : RO Tryz.prog 188 [.agg p.v] (.bool true) := by
  have hm := h1.m
  have hn := h1.n
  have hal := h.al
  have hmn : m * n ≤ 20 * 40 := Nat.mul_le_mul hm hn
  have w1 : IntKind.i64.wrap ((m : Int) * (n : Int)) = ((m * n : Nat) : Int) := by rw [← Int.natCast_mul]; exact i64_in (by omega) (by omega)
  have ia := l09In_ro p.a h1.a (by omega)
  have ib := l09In_ro p.b h1.b (by have := h.bl; omega)
  have ic := l09In_ro p.c h1.c (by have := h.cl; omega)
  have i1 := l01In_ro (m : Int) 0 20
  have i2 := l01In_ro (n : Int) 0 40
  rw [show (decide ((0 : Int) ≤ (m : Int)) && decide ((m : Int) ≤ 20)) = true by simp; omega] at i1
  rw [show (decide ((0 : Int) ≤ (n : Int)) && decide ((n : Int) ≤ 40)) = true by simp; omega] at i2
  obtain ⟨mn, hmn2⟩ : ∃ x, m * n = x := ⟨_, rfl⟩
  rw [hmn2] at w1 hal
  refine ro_of2 Tryz.func188 rfl rfl (by rw [Tryz.ntmps188]; simp) fun bl => ?_
  rw [Tryz.ntmps188, Tryz.results188]
  refine AW_run ?_
  simp [Pg.v]
  intro g hg hbg
  refine AW_run ?_
  refine AW_way [(1, .loc g 5 0 0)] _ (upd bl g (some ⟨5, [p.v]⟩)) 2 (.bool true) (upd bl g (some ⟨5, [p.v]⟩)) ⟨rfl, by simp, sub_eq (by simp [Pg.v])⟩ rfl ?_ ?_
  · simp [Pg.v, h.rows, h.cols]
    refine callP_ro i1 ?_
    simp
    refine callP_ro i2 ?_
    simp [w1, hal, h.bl, h.cl]
    refine callP_ro ia ?_
    simp
    refine callP_ro ib ?_
    simp
    refine callP_ro ic ?_
    simp
  simp
  exact retRO [.bool true] 0 (by simp) (by simp [frz]) (by simp [hbg])
/-- Is there a solution? -/
noncomputable def hasQ (n m : Nat) (E : Nat → Nat → Rat) : Bool := open Classical in decide (∃ x, Lp.Feas n m E (n + m) x)
theorem hasQ_iff {n m : Nat} {E : Nat → Nat → Rat} : hasQ n m E = true ↔ ∃ x, Lp.Feas n m E (n + m) x := by unfold hasQ; simp
theorem wart_int (n m c : Nat) : Lp.isInt (Lp.wart n m c) ∧ -((1000 : Nat) : Rat) ≤ Lp.wart n m c ∧ Lp.wart n m c ≤ ((1000 : Nat) : Rat) := by
  unfold Lp.wart
  split
  · exact ⟨⟨-1, rfl⟩, by decide, by decide⟩
  · exact ⟨⟨0, rfl⟩, by decide, by decide⟩
/-- The first phase's run, in the reference. -/
theorem first_run {bl : Int → Option Blk} {K : V → (Int → Option Blk) → Prop} (p : Pg) (n m : Nat) (h : PgN p n m) (g : SG) (hS : SS bl g (snV (List.range m) (n + m) (n + m) m (Lp.wart n m) (Lp.tab0 n (eQ p n m))))
    (hK : ∀ b' T r, Lp.End1 n m (n + m + 1) 1000 (eQ p n m) T → SS b' g (snV (List.range m) (n + m) (n + m) m (Lp.wart n m) T) → (∀ x y, bl x = some y → x ∉ g.all → b' x = some y) → K (.bool r) b') :
    CallP Tryz.prog 190 [.loc g.T 4 0 0, .bool false] bl K := by
  have hml := h.ml
  have hnl := h.nl
  obtain ⟨e, h1, h2, h3, h4⟩ := Lp.phase1_run (F := fun c => c < n + m) (N' := n + m) h.init (fun c hc => hc) (Nat.le_refl _) (fun c hc => ⟨by omega, by omega⟩)
  have hR : RunV n m (n + m) (eQ p n m) (List.range m) false (Lp.wart n m) (Lp.okW m (Lp.wart n m) fun c => c < n + m) := by
    refine ⟨hml, hnl, Nat.le_refl _, rows_range m, fun T _ i hi hn => absurd (by simpa using hi) hn, fun c _ => wart_int n m c, fun T hI j hj hb hok => ?_⟩
    obtain ⟨q, hq, e1⟩ := hb
    have hq' : q < m := by simpa using hq
    have e2 := Lp.rc_basic hI.z.ti (Lp.wart n m) hq'
    simp only at e1
    rw [atR_range hq'] at e1
    rw [e1] at e2
    have := hok.2
    rw [e2] at this; exact absurd this (by decide)
  have hnx : Lp.nx (n + m) (n + m) (List.range m) (Lp.okW m (Lp.wart n m) fun c => c < n + m) (Lp.orb (Lp.nx (n + m) (n + m) (List.range m) (Lp.okW m (Lp.wart n m) fun c => c < n + m)) (Lp.tab0 n (eQ p n m)) e) = none := by
    unfold Lp.nx at h1 ⊢
    rw [h1]
  refine l10Run_cp hR g (Lp.tab0 n (eQ p n m)) e (fun T hI j hj hnb => ?_) hnx h2 h3 hS (fun b' _ hS' hx => hK b' _ true h4 hS' hx) (fun b' k hk _ _ => absurd hk (by rw [h1]; simp))
  have hV := hR.view hI
  have hco : (snV (List.range m) (n + m) (n + m) m (Lp.wart n m) T).co j = Lp.rc m (Lp.wart n m) T j := by
    show Lp.rc m (Lp.wart n m) T (if j < n + m then j else n + m) = _
    rw [if_pos hj]
  have hfl := l10Sign_flat (snV (List.range m) (n + m) (n + m) m (Lp.wart n m) T) j (show j < n + m + 1 by omega) (tame_fits (hV.tm.co j (show j < n + m + 1 by omega)))
  refine ⟨_, ?_, hfl⟩
  rw [Lp.sign_pos, hco]
  unfold Lp.okW
  exact ⟨fun hp => ⟨hj, hp⟩, fun hp => hp.2⟩
theorem End1.has {p : Pg} {n m : Nat} {T : Lp.Tab} (h : Lp.End1 n m (n + m + 1) 1000 (eQ p n m) T) : (Lp.rc m (Lp.wart n m) T (n + m) = 0) ↔ hasQ n m (eQ p n m) = true := by
  rw [hasQ_iff]
  constructor
  · intro h0; exact ⟨_, h.feas h0⟩
  · rintro ⟨x, hx⟩
    exact Classical.byContradiction fun h0 => h.no h0 x hx
theorem spec_HasSolution_ro (p : Pg) (n m : Nat) (h : PgN p n m) (h1 : Pg100 p n m) : RO Tryz.prog 116 [.agg p.v] (.bool (hasQ n m (eQ p n m))) := by
  have hml := h.ml
  have hnl := h.nl
  refine ro_of2 Tryz.func116 rfl rfl (by rw [Tryz.ntmps116]; simp) fun bl => ?_
  rw [Tryz.ntmps116, Tryz.results116]
  refine AW_runA ?_
  simp [Pg.v]
  intro g1 hg1 hb1
  refine AW_frzAt 1 1 (.ptr p.v) bl (by intro z b hz; simp only [upd_apply] at hz ⊢; grind) (by simp [frz, dropB, hb1, V.cl, Pg.v]) ?_
  refine AW_run ?_
  simp [Pg.v]
  refine callP_ro (spec_ProgramOk_ro p n m h h1) ?_
  simp
  refine l10First_cp p n m h fun b g hS hal hsb => ?_
  simp
  refine first_run p n m h g hS fun b' T r h4 hS' hx => ?_
  have hV : tame ((snV (List.range m) (n + m) (n + m) m (Lp.wart n m) T).co (n + m)) := by
    show tame (Lp.rc m (Lp.wart n m) T (if n + m < n + m then n + m else n + m))
    exact Lp.sm_mono (h4.inv.z.rc (fun c _ => wart_int n m c) (c := if n + m < n + m then n + m else n + m) (by split <;> omega) (by decide)) (capB_rc hml)
  have hco : (snV (List.range m) (n + m) (n + m) m (Lp.wart n m) T).co (n + m) = Lp.rc m (Lp.wart n m) T (n + m) := by
    show Lp.rc m (Lp.wart n m) T (if n + m < n + m then n + m else n + m) = _
    rw [if_neg (by omega)]
  obtain ⟨co, hcD⟩ : ∃ co, (snV (List.range m) (n + m) (n + m) m (Lp.wart n m) T).co = co := ⟨_, rfl⟩
  rw [hcD] at hV hco
  obtain ⟨N, hN⟩ : ∃ N, n + m = N := ⟨_, rfl⟩
  have bT : b' g.T = some ⟨4, [[.int .i64 N, .lsl g.R 1 0 m, .lsl g.B 1 0 m, .lsl g.C 3 0 (N + 1)]]⟩ := by
    have := hS'.hd
    simp only [snV, List.length_range] at this
    rw [← hN]; exact this
  have bC : b' g.C = some ⟨3, rqs (N + 1) co⟩ := by
    rw [← hN, ← hcD]; exact hS'.cst
  have hhas := End1.has h4
  rw [hN] at hV hco
  have l3 : ∀ q : Rat, (rq q).c.length = 3 := fun _ => rfl
  have t3 : ∀ q : Rat, (rq q).c.take 3 = (rq q).c := fun _ => rfl
  have hN1 : (N : Int) < (N : Int) + 1 := by omega
  have hsub : Sub bl b' := fun x y hx2 => hx x y (hsb x y hx2) fun hm2 => by have := hal x hm2; rw [this] at hx2; cases hx2
  simp
  refine AW_quiet mixedO (by kernel_rfl) ?_
  simp [bT, bC, hN1, l3, t3]
  refine hcQ_ro (RatSign_at (tame_fits hV)) ?_
  simp
  have hdec : hasQ n m (eQ p n m) = ((co N).num.sign == 0) := by
    rw [Bool.eq_iff_iff, beq_iff_eq, Lp.sign_zero, hco, ← hN]
    exact hhas.symm
  exact retRO [.bool (hasQ n m (eQ p n m))] 0 (by simp [hdec]) (by simp [frz]) hsub
end Go.Proofs.YticmgmemnpcbbaaGreat.Vm

namespace Go.Proofs.YticmgmemnpcbbaaGreat.Vm
open Go Go.RowKit Go.Proofs
set_option linter.unusedSimpArgs false
set_option linter.unusedVariables false

/-- What is known behind the first phase. -/
def okA (n : Nat) : Nat → Bool := fun c => decide (c < n)
def oA (n m : Nat) : Nat → Int := fun c => if n ≤ c ∧ c < n + m then -1 else 0
theorem wO_oA (n m : Nat) : wO (oA n m) = Lp.wart n m := by
  funext c
  unfold wO oA Lp.wart
  split <;> rfl
/-- The tableau with the first rows. -/
def tbA (p : Pg) (n m i : Nat) (fr : Nat → Bool) : TN := ⟨i, n + m, eZ p n m, 1, fun q => n + q, fr⟩
theorem lv_false (N : Nat) : List.replicate N [V.bool false] = lv N fun _ => false := by
  unfold lv
  rw [List.map_const', List.length_range]
theorem iv_zeros (N : Nat) : List.replicate N [V.int .i64 0] = iv (lz N fun _ => 0) := by
  simp [iv, lz, List.map_const']
theorem lz_set {N k : Nat} (f : Nat → Int) (v : Int) (h : k < N) : (iv (lz N f)).set k [.int .i64 v] = iv (lz N fun c => if c = k then v else f c) := by
  apply List.ext_getElem
  · simp
  · intro j h1 h2
    rw [List.getElem_set, iv_getE, iv_getE, lz_getE, lz_getE]
    by_cases e : k = j
    · rw [if_pos e, if_pos e.symm]
    · rw [if_neg e, if_neg (Ne.symm e)]
theorem lz_congr {N : Nat} {f g : Nat → Int} (h : ∀ c, c < N → f c = g c) : lz N f = lz N g := List.map_congr_left fun c hc => by rw [h c (by simpa using hc)]
theorem lv_congr {N : Nat} {f g : Nat → Bool} (h : ∀ c, c < N → f c = g c) : lv N f = lv N g := List.map_congr_left fun c hc => by rw [h c (by simpa using hc)]
theorem TT.first {b : Int → Option Blk} {g : TG} {p : Pg} {n m : Nat} {fr : Nat → Bool} (h : PgN p n m) (ht : TT b g (tbA p n m m fr)) : TT b g (tnOf n m (eQ p n m) (List.range m) (Lp.tab0 n (eQ p n m)) fr) := by
  have hr : (List.range m).length = m := by simp
  have hd := dz0 h
  have hb : lb m (fun q => (Lp.tab0 n (eQ p n m)).bs (atR (List.range m) q)) = lb m fun q => n + q := List.map_congr_left fun q hq => by
    have hq' : q < m := by simpa using hq
    simp only [atR_range hq']; rfl
  refine ⟨?_, ?_, ?_, ht.fre, ht.pT, ?_, ?_, ht.pF, ht.nd⟩
  · have := ht.grid.congr (Z' := fun q c => Lp.zt m (eQ p n m) (Lp.tab0 n (eQ p n m)) (atR (List.range m) q) c) fun q c hq _ => by
      simp only [tbA] at hq ⊢
      rw [atR_range hq, zt0 h]
    simp only [tnOf]
    rw [hr]; exact this
  · have e := ht.hd
    simp only [tbA] at e
    simp only [tnOf, hd, hr]
    exact e
  · simp only [tnOf]; rw [hr, hb]; exact ht.ba
  · simp only [tnOf]; rw [hr]; exact ht.pR
  · simp only [tnOf]; rw [hr]; exact ht.pB
structure LoopB where
  i : Nat
  g : TG
  b : Int → Option Blk
theorem begin_cp {bl : Int → Option Blk} {K : V → (Int → Option Blk) → Prop} (p : Pg) (n m : Nat) (h : PgN p n m)
    (hN : ∀ b' t, Lp.End1 n m (n + m + 1) 1000 (eQ p n m) t → Lp.rc m (Lp.wart n m) t (n + m) ≠ 0 → Sub bl b' → K (.tup [.nilp, .bool false]) b')
    (hS : ∀ b' g t, Lp.End1 n m (n + m + 1) 1000 (eQ p n m) t → Lp.rc m (Lp.wart n m) t (n + m) = 0 → TT b' g (tnOf n m (eQ p n m) (Lp.liveTo n (Lp.kicks n t m) m) (Lp.kicks n t m) (okA n)) → (∀ x, x ∈ g.all → bl x = none) → Sub bl b' → K (.tup [.loc g.T 6 0 0, .bool true]) b') :
    CallP Tryz.prog 126 [.ptr p.v] bl K := by
  have hml := h.ml
  have hnl := h.nl
  have wnm : IntKind.i64.wrap ((n : Int) + (m : Int)) = ((n + m : Nat) : Int) := by rw [i64_in (by omega) (by omega)]; simp
  have hint : ∀ z : Int, z.natAbs ≤ 1000 → RO Tryz.prog 160 [.int .i64 z] (.agg (biC z)) := fun z hz => integer_ro z (by omega)
  refine callP_of Tryz.func126 rfl rfl (by rw [Tryz.ntmps126]; simp) ?_
  rw [Tryz.ntmps126, Tryz.results126]
  refine AW_run ?_
  simp
  refine AW_quiet mixedO (by kernel_rfl) ?_
  simp [Pg.v, h.rows, h.cols]
  rw [wnm]
  obtain ⟨N, hN0⟩ : ∃ N, n + m = N := ⟨_, rfl⟩
  rw [hN0]
  refine AW_run ?_
  simp
  refine AW_mixedB mixedO bl (Sub.refl _) [0, 1, 2] 4 (by kernel_rfl) ?_
  simp
  refine hcQ_ro (hint 1 (by decide)) ?_
  simp
  refine DAny_one (i := 3) (by kernel_rfl) rfl rfl ?_
  simp
  refine ⟨by omega, by unfold maxLen; omega, fun gF hgF hbF => ?_⟩
  have sF : Sub bl (upd bl gF (some ⟨1, List.replicate N [.bool false]⟩)) := by simp [hbF]
  refine ⟨sF, DAny_one (i := 4) (by kernel_rfl) rfl rfl ?_⟩
  simp
  refine ⟨sF, DAny_one (i := 5) (by kernel_rfl) rfl rfl ?_⟩
  simp
  intro gT hgT hTF hbT
  refine ⟨by simp [hbF, hbT, hTF], DAny_one (i := 6) (by kernel_rfl) rfl rfl ?_⟩
  simp
  refine ⟨by simp [hbF, hbT, hTF], DAny_done (by kernel_rfl) ?_⟩
  simp
  obtain ⟨b0, hb0⟩ : ∃ b0, b0 = upd (upd bl gF (some ⟨1, List.replicate N [.bool false]⟩)) gT (some ⟨6, [[.nils, .bool false, .sl (iv (lim 1)), .nils, .int .i64 N, .lsl gF 1 0 N]]⟩) := ⟨_, rfl⟩
  have b0T : b0 gT = some ⟨6, [[.nils, .bool false, .sl (iv (lim 1)), .nils, .int .i64 N, .lsl gF 1 0 N]]⟩ := by rw [hb0]; simp [biC_def]
  have b0F : b0 gF = some ⟨1, lv N fun _ => false⟩ := by rw [hb0]; simp [Ne.symm hTF, lv_false]
  have s0 : Sub bl b0 := by rw [hb0]; simp [hbF, hbT, hTF]
  refine AW_at [(0, .ptr p.v), (4, .int .i64 N), (5, .loc gT 6 0 0), (34, .int .i64 m), (35, .int .i64 0)] 205 b0 ⟨rfl, by simp [Pg.v, h.rows, h.cols], by rw [hb0]; exact sub_eq (by simp [biC_def])⟩ ?_
  clear hb0
  refine AW_ghostCell (g := gT) (s := 6) 0 0 1 b0T rfl rfl fun gR hgR hRT => ?_
  have hgR : b0 gR = none := hgR
  have hRF : gR ≠ gF := fun e => by rw [e, b0F] at hgR; cases hgR
  have b0R : bl gR = none := by
    cases hv : bl gR with
    | none => rfl
    | some y => have := s0 gR y hv; rw [hgR] at this; cases this
  refine AW_ghostCell (g := gT) (s := 6) (els := [[.lsl gR 1 0 0, .bool false, .sl (iv (lim 1)), .nils, .int .i64 N, .lsl gF 1 0 N]]) 0 3 1 (by simp [Ne.symm hRT]) rfl rfl fun gB hgB hBT => ?_
  simp [hBT] at hgB
  obtain ⟨hBR, hgB⟩ := hgB
  have hBF : gB ≠ gF := fun e => by rw [e, b0F] at hgB; cases hgB
  have b0B : bl gB = none := by
    cases hv : bl gB with
    | none => rfl
    | some y => have := s0 gB y hv; rw [hgB] at this; cases this
  obtain ⟨b1, hb1⟩ : ∃ b1, b1 = upd (upd (upd (upd b0 gT (some ⟨6, [[.lsl gR 1 0 0, .bool false, .sl (iv (lim 1)), .nils, .int .i64 N, .lsl gF 1 0 N]]⟩)) gR (some ⟨1, []⟩)) gT (some ⟨6, [[.lsl gR 1 0 0, .bool false, .sl (iv (lim 1)), .lsl gB 1 0 0, .int .i64 N, .lsl gF 1 0 N]]⟩)) gB (some ⟨1, []⟩) := ⟨_, rfl⟩
  have t1 : TT b1 ⟨gT, gR, gB, gF, []⟩ (tbA p n m 0 (fun _ => false)) := by
    refine TT.start rfl ?_ ?_ ?_ ?_ hgT hgF ?_
    · rw [hb1]; simp [hRT, Ne.symm hBR]
    · rw [hb1]; simp
    · rw [hb1]; simp [Ne.symm hBT, Ne.symm hRT, tbA, hN0]
    · rw [hb1]; simp [Ne.symm hBF, Ne.symm hRF, Ne.symm hTF, tbA, hN0, b0F]
    · simp; grind
  refine AW_at [(0, .ptr p.v), (4, .int .i64 N), (5, .loc gT 6 0 0), (34, .int .i64 m), (35, .int .i64 0)] 205 b1 ⟨rfl, by simp, by rw [hb1]; exact sub_eq (by simp)⟩ ?_
  have s1 : Sub bl b1 := by
    intro x y hx
    have := s0 x y hx
    have x1 : x ≠ gT := fun e => by rw [e, hbT] at hx; cases hx
    have x2 : x ≠ gR := fun e => by rw [e, b0R] at hx; cases hx
    have x3 : x ≠ gB := fun e => by rw [e, b0B] at hx; cases hx
    rw [hb1]
    simp [x1, x2, x3, this]
  clear hb1
  refine AW_for (fun q : LoopB => [(0, .ptr p.v), (4, .int .i64 N), (5, .loc gT 6 0 0), (34, .int .i64 m), (35, .int .i64 q.i)]) (fun q => q.b) (fun q => q.i ≤ m ∧ TT q.b q.g (tbA p n m q.i (fun _ => false)) ∧ q.g.T = gT ∧ q.g.F = gF ∧ (∀ x, x ∈ q.g.all → bl x = none) ∧ Sub bl q.b) (fun q => m - q.i) _ ⟨0, ⟨gT, gR, gB, gF, []⟩, b1⟩ ⟨Nat.zero_le _, t1, rfl, rfl, by simp [TG.all, hbT, b0R, b0B, hbF], s1⟩ ⟨rfl, by simp, Sub.refl _⟩ ?_
  clear s1 t1 hgB hgR s0 b0T b0F
  clear b0R b0B hBT hBF hBR hRT hRF
  rintro ⟨i, ⟨gT', gR, gB, gF', ids⟩, b⟩ ⟨him, hTb, e1, e2, hal, hsb⟩
  simp only at e1 e2 him hTb hsb
  subst e1 e2
  have bT : b gT' = _ := hTb.hd
  have bB : b gB = _ := hTb.ba
  have bG : b gR = _ := hTb.grid.top
  have bF : b gF' = _ := hTb.fre
  have hil := hTb.grid.len
  simp only [tbA] at bT bB bG bF hil
  rw [hN0] at bT bF bG
  have wi : IntKind.i64.wrap ((i : Int) + 1) = (i : Int) + 1 := i64_in (by omega) (by omega)
  obtain ⟨N1, hN1⟩ : ∃ x, N + 1 = x := ⟨_, rfl⟩
  rw [hN1] at bG
  have wN : IntKind.i64.wrap ((N : Int) + 1) = (N1 : Int) := by rw [i64_in (by omega) (by omega)]; omega
  refine AW_runA ?_
  simp
  refine AW_runA ?_
  simp
  refine ⟨fun hi => ?_, fun hi => ?_⟩
  · refine AW_seq (AW_block ?_)
    refine AW_runA ?_
    simp
    refine AW_runA ?_
    simp [wN]
    refine ⟨by omega, by unfold maxLen; omega, fun gr hgr hbr => ?_⟩
    refine AW_wk (g := gr) (s := 2) (els := List.replicate N1 [.bool false, .nils]) ?_ ?_
    · simp
    rw [zv_zero]
    refine AW_runA ?_
    simp
    have rT : ¬ gr = gT' := fun e => by rw [e, bT] at hbr; cases hbr
    have rR : ¬ gr = gR := fun e => by rw [e, bG] at hbr; cases hbr
    have rB : ¬ gr = gB := fun e => by rw [e, bB] at hbr; cases hbr
    have rF : ¬ gr = gF' := fun e => by rw [e, bF] at hbr; cases hbr
    have ri : gr ∉ ids := fun hm2 => by
      obtain ⟨q, hq⟩ := List.mem_iff_getElem?.1 hm2
      rw [hTb.grid.row q gr hq] at hbr; cases hbr
    have rbl : bl gr = none := by
      cases hv : bl gr with
      | none => rfl
      | some y => have := hsb gr y hv; rw [hbr] at this; cases this
    refine AW_mid (fun _ : Unit => [(0, .ptr p.v), (4, .int .i64 N), (5, .loc gT' 6 0 0), (34, .int .i64 m), (35, .int .i64 i), (6, .int .i64 i), (7, .lsl gr 2 0 N1), (8, .int .i64 (sgB p i))]) (fun _ => upd b gr (some ⟨2, zv N1 fun _ => 0⟩)) (fun _ => True) 205 ?_ ?_
    · refine AW_run ?_
      simp [Pg.v, h.b, hi]
      refine ⟨fun hneg => ?_, fun hneg => ?_⟩
      · simp [midQ_normal]
        exact ⟨rfl, by simp [Pg.v, h.b, sgB, hneg], sub_eq (by simp)⟩
      · simp [midQ_normal]
        exact ⟨rfl, by simp [Pg.v, h.b, sgB, hneg], sub_eq (by simp)⟩
    rintro ⟨⟩ -
    obtain ⟨sg, hsg⟩ : ∃ x, sgB p i = x := ⟨_, rfl⟩
    have sg1 : sg.natAbs = 1 := by rw [← hsg]; unfold sgB; split <;> rfl
    rw [hsg]
    have hpA : ∀ c, (sg * pA p n i c).natAbs ≤ 1000 := fun c => by rw [Int.natAbs_mul, sg1, Nat.one_mul]; exact getD_le h.am _
    have hpB : (sg * pB p i).natAbs ≤ 1000 := by rw [Int.natAbs_mul, sg1, Nat.one_mul]; exact getD_le h.bm _
    refine AW_mid (fun _ : Unit => [(0, .ptr p.v), (4, .int .i64 N), (5, .loc gT' 6 0 0), (34, .int .i64 m), (35, .int .i64 i), (6, .int .i64 i), (7, .lsl gr 2 0 N1), (8, .int .i64 sg)]) (fun _ => upd b gr (some ⟨2, zv N1 fun c => if c < n then sg * pA p n i c else 0⟩)) (fun _ => True) 205 ?_ ?_
    · refine AW_run ?_
      simp
      refine callP_ro (row_ro p n m i h hi) ?_
      simp
      refine AW_for (fun j : Nat => [(0, .ptr p.v), (4, .int .i64 N), (5, .loc gT' 6 0 0), (34, .int .i64 m), (35, .int .i64 i), (6, .int .i64 i), (7, .lsl gr 2 0 N1), (8, .int .i64 sg), (51, .sl (iv (lz n (pA p n i)))), (52, .int .i64 n), (53, .int .i64 j)]) (fun j => upd b gr (some ⟨2, zv N1 fun c => if c < j then sg * pA p n i c else 0⟩)) (fun j => j ≤ n) (fun j => n - j) _ 0 (Nat.zero_le _) ⟨rfl, by simp, sub_eq (by simp)⟩ ?_
      intro j hj
      have wj : IntKind.i64.wrap ((j : Int) + 1) = (j : Int) + 1 := i64_in (by omega) (by omega)
      have wa : ∀ c, IntKind.i64.wrap (sg * pA p n i c) = sg * pA p n i c := fun c => i64_in (by have := hpA c; omega) (by have := hpA c; omega)
      refine AW_run ?_
      simp
      refine ⟨fun hjn => ?_, fun hjn => ?_⟩
      · simp [hjn, wa]
        refine callP_ro (hint _ (hpA j)) ?_
        simp [wj, loopQ_normal, show j < N1 by omega, zvset]
        refine ⟨j + 1, by omega, by omega, rfl, by simp, ?_⟩
        refine sub_eq ?_
        funext x
        simp only [upd_apply]
        split
        · congr 2
          exact zv_congr fun c hc => by
            by_cases e : c = j
            · rw [if_pos e, if_pos (by omega), e]
            · rw [if_neg e]; grind
        · rfl
      · rw [show j = n by omega]
        simp [midQ_normal]
        exact ⟨rfl, by simp, Sub.refl _⟩
    rintro ⟨⟩ -
    refine AW_runA ?_
    have wni : IntKind.i64.wrap ((n : Int) + (i : Int)) = ((n + i : Nat) : Int) := by rw [i64_in (by omega) (by omega)]; simp
    obtain ⟨ni, hni⟩ : ∃ x, n + i = x := ⟨_, rfl⟩
    rw [hni] at wni
    refine AW_mixedT mixedO [0, 1, 2, 3, 4, 5, 6, 7, 8] 1 9 (by kernel_rfl) ?_
    simp [Pg.v, h.cols, wni]
    refine hcQ_ro (hint 1 (by decide)) ?_
    simp [show ni < N1 by omega, show (ni : Int) < N1 by omega]
    refine DAny_last (i := 9) (by kernel_rfl) rfl rfl rfl ?_
    simp [show ni < N1 by omega, zvset]
    refine DAny_done (by kernel_rfl) ?_
    simp
    refine AW_runA ?_
    have wB : IntKind.i64.wrap (sg * pB p i) = sg * pB p i := i64_in (by omega) (by omega)
    have hNN : N < N1 := by omega
    have hNN' : (N : Int) < N1 := by omega
    simp [Pg.v, h.b, hi, wB]
    refine callP_ro (hint _ hpB) ?_
    simp [hNN, hNN', zvset]
    obtain ⟨b2, hb2⟩ : ∃ b2, b2 = upd b gr (some ⟨2, zv N1 (eZ p n m i)⟩) := ⟨_, rfl⟩
    refine AW_at [(0, .ptr p.v), (4, .int .i64 N), (5, .loc gT' 6 0 0), (34, .int .i64 m), (35, .int .i64 i), (6, .int .i64 i), (7, .lsl gr 2 0 N1)] 205 b2 ⟨rfl, by simp [Pg.v, h.b, h.cols], ?_⟩ ?_
    · rw [hb2]
      refine sub_eq ?_
      funext x
      simp only [upd_apply]
      split
      · congr 2
        exact zv_congr fun c hc => by
          unfold eZ
          rw [hN0, hni, hsg]
          grind
      · rfl
    have b2r : b2 gr = some ⟨2, zv N1 (eZ p n m i)⟩ := by rw [hb2]; simp
    have b2x : ∀ x, x ≠ gr → b2 x = b x := fun x hx => by rw [hb2, upd_ne _ _ _ _ hx]
    have b2T := b2x gT' (Ne.symm rT)
    have b2R := b2x gR (Ne.symm rR)
    have b2B := b2x gB (Ne.symm rB)
    have b2F := b2x gF' (Ne.symm rF)
    have b2i : ∀ x, x ∈ ids → b2 x = b x := fun x hx => b2x x fun e => ri (e ▸ hx)
    rw [bT] at b2T
    rw [bG] at b2R
    rw [bB] at b2B
    rw [bF] at b2F
    clear hb2
    have nds := hTb.nd
    simp only [List.nodup_cons, List.mem_cons, not_or] at nds
    obtain ⟨⟨nTR, nTB, nTF, nTi⟩, ⟨nRB, nRF, nRi⟩, ⟨nBF, nBi⟩, nFi, nds2⟩ := nds
    have b2blk : ∀ x, b2 x = none → x ≠ gT' ∧ x ≠ gR ∧ x ≠ gB ∧ x ≠ gF' ∧ x ≠ gr ∧ x ∉ ids := fun x hx => by
      refine ⟨fun e => ?_, fun e => ?_, fun e => ?_, fun e => ?_, fun e => ?_, fun e => ?_⟩
      · rw [e, b2T] at hx; cases hx
      · rw [e, b2R] at hx; cases hx
      · rw [e, b2B] at hx; cases hx
      · rw [e, b2F] at hx; cases hx
      · rw [e, b2r] at hx; cases hx
      · rw [b2i x e] at hx
        obtain ⟨q, hq⟩ := List.mem_iff_getElem?.1 e
        rw [hTb.grid.row q x hq] at hx; cases hx
    refine AW_runA ?_
    simp [b2T, b2R, appV, elsV, hil]
    intro g4 hg4 hb4
    obtain ⟨n4T, n4R, n4B, n4F, n4r, n4i⟩ := b2blk g4 hb4
    have tk : (ids.map fun g => [V.lsl g 2 0 N1]).take i = ids.map fun g => [V.lsl g 2 0 N1] := List.take_of_length_le (by simp [hil])
    simp [Ne.symm n4T, Ne.symm n4R, n4T, n4R, Int.not_lt.2 hg4, b2R, hil, tk]
    refine ⟨by omega, fun gN hgN hbN => ?_⟩
    have nN : gN ≠ gT' ∧ gN ≠ gB ∧ gN ≠ gF' ∧ gN ≠ gr ∧ gN ∉ ids ∧ gN ≠ g4 := by
      by_cases e : gN = gR
      · subst e
        exact ⟨Ne.symm nTR, nRB, nRF, Ne.symm rR, nRi, Ne.symm n4R⟩
      · obtain ⟨q1, q2⟩ := hbN e
        obtain ⟨w1, w2, w3, w4, w5, w6⟩ := b2blk gN q2
        exact ⟨w1, w3, w4, w5, w6, q1⟩
    obtain ⟨nNT, nNB, nNF, nNr, nNi, nN4⟩ := nN
    simp [Ne.symm nNT, nNT, Ne.symm n4T, nTR, b2T]
    obtain ⟨b3, hb3⟩ : ∃ b3, b3 = upd (upd (rem b2 gR) gN (some ⟨1, (ids ++ [gr]).map fun g => [.lsl g 2 0 N1]⟩)) gT' (some ⟨6, [[.lsl gN 1 0 (i + 1), .bool false, .sl (iv (lim 1)), .lsl gB 1 0 i, .int .i64 N, .lsl gF' 1 0 N]]⟩) := ⟨_, rfl⟩
    refine AW_at [(0, .ptr p.v), (4, .int .i64 N), (5, .loc gT' 6 0 0), (34, .int .i64 m), (35, .int .i64 i), (6, .int .i64 i)] 205 b3 ⟨rfl, by simp [Pg.v, h.b, h.cols], ?_⟩ ?_
    · rw [hb3]
      intro z y hz
      simp only [upd_apply, rem_apply] at hz ⊢
      grind
    have b3N : b3 gN = some ⟨1, (ids ++ [gr]).map fun g => [.lsl g 2 0 N1]⟩ := by rw [hb3]; simp [nNT]
    have b3T : b3 gT' = some ⟨6, [[.lsl gN 1 0 (i + 1), .bool false, .sl (iv (lim 1)), .lsl gB 1 0 i, .int .i64 N, .lsl gF' 1 0 N]]⟩ := by rw [hb3]; simp
    have b3x : ∀ x, x ≠ gT' → x ≠ gN → x ≠ gR → b3 x = b2 x := fun x x1 x2 x3 => by rw [hb3, upd_ne _ _ _ _ x1, upd_ne _ _ _ _ x2, rem_apply, if_neg x3]
    have b3B := b3x gB (Ne.symm nTB) (Ne.symm nNB) (Ne.symm nRB)
    rw [b2B] at b3B
    clear hb3
    refine AW_mixedP mixedO (rem b3 gB) (sub_remS b3 gB) [0, 1, 2, 3, 4, 5, 6, 7, 8, 9, 10] 5 15 (by kernel_rfl) ?_
    simp [nTB, b3T, Pg.v, h.cols, wni]
    refine DL_one (i := 11) false (by kernel_rfl) rfl rfl (by kernel_rfl) ?_
    simp
    intro g5 hg5 hb5
    have n5 : g5 ≠ gT' ∧ g5 ≠ gN ∧ g5 ≠ gB := ⟨fun e => (by rw [e, b3T] at hb5; cases hb5), fun e => (by rw [e, b3N] at hb5; cases hb5), fun e => (by rw [e, b3B] at hb5; cases hb5)⟩
    obtain ⟨n5T, n5N, n5B⟩ := n5
    have r5 : rem b3 gB g5 = none := by rw [rem_apply, if_neg n5B]; exact hb5
    have hsub5 : ∀ X, Sub (rem b3 gB) (upd b3 g5 X) := fun X z y hz => by
      rw [rem_apply] at hz
      rw [upd_apply]
      grind
    refine ⟨hsub5 _, DL_one (i := 12) false (by kernel_rfl) rfl rfl (by kernel_rfl) ?_⟩
    have tkB : (iv (lb i fun q => n + q)).take i = iv (lb i fun q => n + q) := List.take_of_length_le (by simp)
    simp [n5B, Ne.symm n5B, appV, elsV, Int.not_lt.2 hg5, b3B, tkB]
    have hlb : iv (lb i fun q => n + q) ++ [[.int .i64 ni]] = iv (lb (i + 1) fun q => n + q) := by rw [lb_snoc, iv_append, hni]; rfl
    rw [hlb]
    refine ⟨by omega, fun gM hgM hbM => ?_⟩
    have nM : gM ≠ gT' ∧ gM ≠ gN ∧ gM ≠ gF' ∧ gM ≠ gr ∧ gM ∉ ids ∧ gM ≠ g5 := by
      by_cases e : gM = gB
      · subst e
        exact ⟨Ne.symm nTB, Ne.symm nNB, nBF, Ne.symm rB, nBi, Ne.symm n5B⟩
      · obtain ⟨q1, q2⟩ := hbM e
        have q3 : gM ≠ gT' := fun e2 => by rw [e2, b3T] at q2; cases q2
        have q4 : gM ≠ gN := fun e2 => by rw [e2, b3N] at q2; cases q2
        by_cases e3 : gM = gR
        · subst e3
          exact ⟨q3, q4, nRF, Ne.symm rR, nRi, q1⟩
        · rw [b3x gM q3 q4 e3] at q2
          obtain ⟨w1, w2, w3, w4, w5, w6⟩ := b2blk gM q2
          exact ⟨q3, q4, w4, w5, w6, q1⟩
    obtain ⟨nMT, nMN, nMF, nMr, nMi, nM5⟩ := nM
    have hsubM : ∀ X Y, Sub (rem b3 gB) (upd (rem (upd b3 g5 X) gB) gM Y) := fun X Y z y hz => by
      rw [rem_apply] at hz
      rw [upd_apply, rem_apply, upd_apply]
      grind
    have hsubF : ∀ X Y Z, Sub (upd (upd (rem b3 gB) gM Y) gT' Z) (upd (upd (rem (upd b3 g5 X) gB) gM Y) gT' Z) := fun X Y Z z y hz => by
      simp only [upd_apply, rem_apply] at hz ⊢
      grind
    refine ⟨hsubM _ _, DL_one (i := 13) false (by kernel_rfl) rfl rfl (by kernel_rfl) ?_⟩
    simp
    refine ⟨hsubM _ _, DL_one (i := 14) false (by kernel_rfl) rfl rfl (by kernel_rfl) ?_⟩
    simp
    refine ⟨hsubM _ _, DL_one (i := 15) true (by kernel_rfl) rfl rfl (by kernel_rfl) ?_⟩
    simp [Ne.symm nMT, nTB, n5T, Ne.symm n5T, b3T]
    refine DL_done (by kernel_rfl) ?_
    simp
    refine AW_run ?_
    simp [wi, loopQ_normal]
    obtain ⟨b4, hb4'⟩ : ∃ b4, b4 = upd (upd (rem b3 gB) gM (some ⟨1, iv (lb (i + 1) fun q => n + q)⟩)) gT' (some ⟨6, [[.lsl gN 1 0 (i + 1), .bool false, .sl (iv (lim 1)), .lsl gM 1 0 (i + 1), .int .i64 N, .lsl gF' 1 0 N]]⟩) := ⟨_, rfl⟩
    have b4T : b4 gT' = some ⟨6, [[.lsl gN 1 0 (i + 1), .bool false, .sl (iv (lim 1)), .lsl gM 1 0 (i + 1), .int .i64 N, .lsl gF' 1 0 N]]⟩ := by rw [hb4']; simp
    have b4M : b4 gM = some ⟨1, iv (lb (i + 1) fun q => n + q)⟩ := by rw [hb4']; simp [nMT]
    have b4x : ∀ x, x ≠ gT' → x ≠ gM → x ≠ gB → b4 x = b3 x := fun x x1 x2 x3 => by rw [hb4', upd_ne _ _ _ _ x1, upd_ne _ _ _ _ x2, rem_apply, if_neg x3]
    have b4o : ∀ x, x ≠ gT' → x ≠ gM → x ≠ gB → x ≠ gN → x ≠ gR → x ≠ gr → b4 x = b x := fun x x1 x2 x3 x4 x5 x6 => by rw [b4x x x1 x2 x3, b3x x x1 x4 x5, b2x x x6]
    have fr : ∀ x, b x = none → bl x = none := fun x hx => by
      cases hv : bl x with
      | none => rfl
      | some y => have := hsb x y hv; rw [hx] at this; cases this
    have blR : bl gR = none := hal gR (by simp [TG.all])
    have blB : bl gB = none := hal gB (by simp [TG.all])
    have blN : bl gN = none := by
      by_cases e : gN = gR
      · rw [e]; exact blR
      · have := (hbN e).2
        rw [b2x gN nNr] at this; exact fr gN this
    have blM : bl gM = none := by
      by_cases e : gM = gB
      · rw [e]; exact blB
      · by_cases e3 : gM = gR
        · rw [e3]; exact blR
        · have := (hbM e).2
          rw [b3x gM nMT nMN e3, b2x gM nMr] at this; exact fr gM this
    have hnew := hTb.snoc (b' := b4) gN gM gr (by simp only [tbA]; rw [hN0, hN1, b4x gN nNT (Ne.symm nMN) nNB, b3N]) (by simp only [tbA]; exact b4M) (by simp only [tbA]; rw [hN0, b4T]; rfl)
      (by simp only; exact b4o gF' (Ne.symm nTF) (Ne.symm nMF) (Ne.symm nBF) (Ne.symm nNF) (Ne.symm nRF) (Ne.symm rF))
      (fun x hx => by simp only at hx; exact b4o x (fun e => nTi (e ▸ hx)) (fun e => nMi (e ▸ hx)) (fun e => nBi (e ▸ hx)) (fun e => nNi (e ▸ hx)) (fun e => nRi (e ▸ hx)) (fun e => ri (e ▸ hx)))
      (by simp only [tbA]; rw [hN0, hN1, b4x gr rT (Ne.symm nMr) rB, b3x gr rT (Ne.symm nNr) rR, b2r]) hgr hgN hgM (by
        simp only [List.nodup_cons, List.mem_cons, not_or, List.mem_append, List.mem_singleton, List.nodup_append, List.not_mem_nil, or_false]
        refine ⟨⟨Ne.symm nNT, Ne.symm nMT, nTF, nTi, Ne.symm rT⟩, ⟨Ne.symm nMN, nNF, nNi, nNr⟩, ⟨nMF, nMi, nMr⟩, ⟨nFi, Ne.symm rF⟩, nds2, by simp, fun a ha c hc => ?_⟩
        rw [hc]; exact fun e => ri (e ▸ ha))
    refine ⟨⟨i + 1, ⟨gT', gN, gM, gF', ids ++ [gr]⟩, b4⟩, ⟨by simp only; omega, hnew, rfl, rfl, fun x hx => ?_, fun x y hx => ?_⟩, by simp only; omega, rfl, by simp [h.cols, h.b], by rw [hb4']; exact hsubF _ _ _⟩
    · simp only [TG.all, List.mem_cons, List.mem_append, List.not_mem_nil, or_false] at hx
      rcases hx with rfl | rfl | rfl | rfl | hx | rfl
      · exact hbT
      · exact blN
      · exact blM
      · exact hbF
      · exact hal x (by simp [TG.all, hx])
      · exact rbl
    · have nx : ∀ z, bl z = none → x ≠ z := fun z hz e => by rw [e, hz] at hx; cases hx
      simp only
      rw [b4o x (nx _ hbT) (nx _ blM) (nx _ blB) (nx _ blN) (nx _ blR) (nx _ rbl)]
      exact hsb x y hx
  · have hie : i = m := by omega
    subst hie
    clear hi him
    refine ⟨by omega, by unfold maxLen; omega, fun gO hgO hbO => ?_⟩
    have oT : ¬ gO = gT' := fun e => by rw [e, bT] at hbO; cases hbO
    have oR : ¬ gO = gR := fun e => by rw [e, bG] at hbO; cases hbO
    have oB : ¬ gO = gB := fun e => by rw [e, bB] at hbO; cases hbO
    have oF : ¬ gO = gF' := fun e => by rw [e, bF] at hbO; cases hbO
    have oi : gO ∉ ids := fun hm2 => by
      obtain ⟨q, hq⟩ := List.mem_iff_getElem?.1 hm2
      rw [hTb.grid.row q gO hq] at hbO; cases hbO
    have nds := hTb.nd
    simp only [List.nodup_cons, List.mem_cons, not_or] at nds
    obtain ⟨⟨nTR, nTB, nTF, nTi⟩, ⟨nRB, nRF, nRi⟩, ⟨nBF, nBi⟩, nFi, nds2⟩ := nds
    refine AW_for (fun k : Nat => [(0, .ptr p.v), (4, .int .i64 N), (5, .loc gT' 6 0 0), (11, .lsl gO 1 0 N), (117, .int .i64 N), (118, .int .i64 k)]) (fun k => upd (upd b gF' (some ⟨1, lv N fun c => decide (c < k ∧ c < n)⟩)) gO (some ⟨1, iv (lz N fun c => if c < k then oA n i c else 0)⟩)) (fun k => k ≤ N) (fun k => N - k) _ 0 (Nat.zero_le _) ⟨rfl, by simp [Pg.v, h.b, h.cols], ?_⟩ ?_
    · refine sub_eq ?_
      funext x
      simp only [upd_apply]
      rw [iv_zeros]
      split
      · simp
      · split
        · rename_i e; rw [e, bF]; simp
        · rfl
    intro k hk
    have wk : IntKind.i64.wrap ((k : Int) + 1) = (k : Int) + 1 := i64_in (by omega) (by omega)
    refine AW_runA ?_
    simp
    refine AW_runA ?_
    simp
    refine ⟨fun hkn => ?_, fun hkn => ?_⟩
    · refine AW_seq (AW_block ?_)
      refine AW_runA ?_
      simp
      refine AW_seq ?_
      refine AW_mixedT mixedO [0, 1, 2, 3, 4, 5, 6, 7, 8, 9, 10, 11] 1 12 (by kernel_rfl) ?_
      have nOT := Ne.symm oT
      simp [Pg.v, h.cols, bT, nOT, nTF, hkn]
      refine DAny_last (i := 12) (by kernel_rfl) rfl rfl rfl ?_
      simp [Ne.symm oF, hkn, lv_set, -Bool.decide_and]
      refine DAny_done (by kernel_rfl) ?_
      simp
      refine AW_run ?_
      simp [Pg.v, h.cols, oF, hkn, wk, loopQ_normal, lz_set]
      refine ⟨fun hnk => ?_, fun hnk => ?_⟩
      · refine AW_run ?_
        simp [wk, loopQ_normal]
        refine ⟨k + 1, by omega, by omega, rfl, by simp [h.cols], sub_eq ?_⟩
        have e1 : (lv N fun c => decide (c < k + 1) && decide (c < n)) = lv N fun c => if c = k then decide (k < n) else decide (c < k) && decide (c < n) := lv_congr fun c _ => by
          by_cases e : c = k
          · subst e; simp
          · rw [if_neg e, show decide (c < k + 1) = decide (c < k) from by simp; omega]
        have e2 : (lz N fun c => if c < k + 1 then oA n i c else 0) = lz N fun c => if c = k then -1 else if c < k then oA n i c else 0 := lz_congr fun c hc => by
          by_cases e : c = k
          · subst e; rw [if_pos (by omega), if_pos rfl]; unfold oA; rw [if_pos ⟨hnk, by omega⟩]
          · rw [if_neg e]; grind
        funext x
        simp only [upd_apply]
        rw [e1, e2]
        grind
      · refine AW_run ?_
        simp [wk, loopQ_normal]
        refine ⟨k + 1, by omega, by omega, rfl, by simp [h.cols], sub_eq ?_⟩
        have e1 : (lv N fun c => decide (c < k + 1) && decide (c < n)) = lv N fun c => if c = k then decide (k < n) else decide (c < k) && decide (c < n) := lv_congr fun c _ => by
          by_cases e : c = k
          · subst e; simp
          · rw [if_neg e, show decide (c < k + 1) = decide (c < k) from by simp; omega]
        have e2 : (lz N fun c => if c < k + 1 then oA n i c else 0) = lz N fun c => if c < k then oA n i c else 0 := lz_congr fun c hc => by
          by_cases e : c = k
          · subst e; rw [if_pos (by omega), if_neg (by omega)]; unfold oA; rw [if_neg (by omega)]
          · grind
        funext x
        simp only [upd_apply]
        rw [e1, e2]
        grind
    · have hke : k = N := by omega
      subst hke
      clear hkn hk
      obtain ⟨bM, hbM⟩ : ∃ bM, bM = upd (upd b gF' (some ⟨1, lv k fun c => decide (c < k) && decide (c < n)⟩)) gO (some ⟨1, iv (lz k fun c => if c < k then oA n i c else 0)⟩) := ⟨_, rfl⟩
      rw [← hbM]
      have bMF : bM gF' = some ⟨1, lv k (okA n)⟩ := by
        rw [hbM]
        simp [Ne.symm oF]
        exact lv_congr fun c hc => by unfold okA; simp [hc]
      have bMO : bM gO = some ⟨1, iv (lz k (oA n i))⟩ := by
        rw [hbM]
        simp
        rw [lz_congr fun c hc => by rw [if_pos hc]]
      have bMx : ∀ x, x ≠ gF' → x ≠ gO → bM x = b x := fun x x1 x2 => by rw [hbM, upd_ne _ _ _ _ x2, upd_ne _ _ _ _ x1]
      clear hbM
      have hTM := (hTb.setF (b' := bM) (okA n) (by simp only [tbA]; rw [hN0]; exact bMF) (fun x y hx hx2 hy => by
        rw [bMx x hx2 fun e => ?_]; exact hy
        have := hal x hx
        rw [e] at hy; rw [hbO] at hy; cases hy)).first h
      obtain ⟨e, h1, h2, h3, h4⟩ := Lp.phase1_run (F := fO (n + i) (okA n)) (N' := n + i) h.init (fun c hc => hc.1) (Nat.le_refl _) (fun c hc => ⟨by omega, by omega, by unfold okA; simpa using hc⟩)
      rw [← wO_oA] at h1 h2 h3
      have hnx : Lp.nx (n + i) (n + i) (List.range i) (Lp.okW i (wO (oA n i)) (fO (n + i) (okA n))) (Lp.orb (Lp.nx (n + i) (n + i) (List.range i) (Lp.okW i (wO (oA n i)) (fO (n + i) (okA n)))) (Lp.tab0 n (eQ p n i)) e) = none := by
        unfold Lp.nx at h1 ⊢
        rw [h1]
      have hoA : ∀ c, (oA n i c).natAbs ≤ 1000 := fun c => by unfold oA; split <;> decide
      have hcall := fun K' => maximize_cp (bl := bM) (K := K') n i (eQ p n i) (List.range i) ⟨gT', gR, gB, gF', ids⟩ (Lp.tab0 n (eQ p n i)) (okA n) (oA n i) gO e hml hnl (rows_range i) hoA (.inl fun q hq => by simpa using hq) hnx h2 h3 hTM (by rw [hN0]; exact bMO) hgO (by simp [TG.all, oT, oR, oB, oF, oi])
      rw [wO_oA] at h1
      simp only [wO_oA] at hcall
      obtain ⟨t, ht⟩ : ∃ t, Lp.orb (Lp.nx (n + i) (n + i) (List.range i) (Lp.okW i (Lp.wart n i) (fO (n + i) (okA n)))) (Lp.tab0 n (eQ p n i)) e = t := ⟨_, rfl⟩
      rw [ht] at h1 h4
      simp only [ht] at hcall
      simp only [hN0] at hcall
      rw [hN0] at h1
      refine hcall _ (fun b' _ hT2 hx2 => ?_) (fun b' k' hk' => absurd hk' (by rw [h1]; simp))
      clear hcall
      generalize frK i (oA n i) t (okA n) k = fr at hT2
      simp
      have hNN' : k < N1 := by omega
      have hNN'2 : (k : Int) < N1 := by omega
      have cT : b' gT' = _ := hT2.hd
      have cB : b' gB = _ := hT2.ba
      have cG : b' gR = _ := hT2.grid.top
      have cF : b' gF' = _ := hT2.fre
      have hrl : (List.range i).length = i := by simp
      simp only [tnOf, hrl, hN0, hN1] at cT cB cG cF
      have cB2 : lb i (fun q => t.bs (atR (List.range i) q)) = lb i t.bs := List.map_congr_left fun q hq => by
        have hq' : q < i := by simpa using hq
        simp only [atR_range hq']
      rw [cB2] at cB
      simp [cT]
      have cS : Sub bl b' := fun x y hx => by
        have h9 := hsb x y hx
        have x1 : x ∉ TG.all ⟨gT', gR, gB, gF', ids⟩ := fun hm2 => by have := hal x hm2; rw [this] at hx; cases hx
        have x2 : x ≠ gF' := fun e => x1 (by rw [e]; simp [TG.all])
        have x3 : x ≠ gO := fun e => by rw [e, hbO] at h9; cases h9
        exact hx2 x y (by rw [bMx x x2 x3]; exact h9) x1
      refine AW_for (fun j : Nat => [(0, .ptr p.v), (4, .int .i64 k), (5, .loc gT' 6 0 0), (149, .lsl gB 1 0 i), (150, .int .i64 i), (151, .int .i64 j)]) (fun _ => b') (fun j => j ≤ i ∧ ∀ q, q < j → ¬ (n ≤ t.bs q ∧ 0 < t.X q (n + i))) (fun j => i - j) _ 0 ⟨Nat.zero_le _, fun q hq => by omega⟩ ⟨rfl, by simp [Pg.v, h.b, h.cols], Sub.refl _⟩ ?_
      rintro j ⟨hj, hall⟩
      have wj : IntKind.i64.wrap ((j : Int) + 1) = (j : Int) + 1 := i64_in (by omega) (by omega)
      refine AW_runA ?_
      simp
      refine AW_runA ?_
      simp
      refine ⟨fun hji => ?_, fun hji => ?_⟩
      · refine AW_seq (AW_block ?_)
        refine AW_runA ?_
        simp [cB, hji]
        obtain ⟨gi, hgi, hgim, hgi0, hgib⟩ := hT2.grid.at j (by simp only [tnOf, hrl]; exact hji)
        simp only [tnOf] at hgib
        rw [hN0, hN1, atR_range hji] at hgib
        obtain ⟨zx, hzx⟩ : ∃ zx, Lp.zt i (eQ p n i) t j k = zx := ⟨_, rfl⟩
        refine AW_runA ?_
        simp
        refine AW_way0 [(0, .ptr p.v), (4, .int .i64 k), (5, .loc gT' 6 0 0), (149, .lsl gB 1 0 i), (150, .int .i64 i), (151, .int .i64 j), (13, .int .i64 j), (14, .int .i64 (t.bs j))] _ b' 175 (.bool (decide (n ≤ t.bs j ∧ 0 < zx))) ⟨rfl, by simp [Pg.v, h.b, h.cols], Sub.refl _⟩ rfl ?_ ?_
        · simp [Pg.v, h.cols]
          by_cases hnb : n ≤ t.bs j
          · have hgj : ∀ h, ids[j]'h = gi := fun h => by rw [List.getElem?_eq_getElem h] at hgi; exact Option.some.inj hgi
            simp [hnb, Nat.not_lt.2 hnb, cT, cG, hji, hgj, hgib, hNN', hNN'2, hil]
            refine callP_ro (sign_ro _) ?_
            rw [hzx]
            have hsp : 0 < zx.sign ↔ 0 < zx := by
              rcases Int.lt_trichotomy zx 0 with q | q | q
              · rw [Int.sign_eq_neg_one_of_neg q]; omega
              · rw [q]; decide
              · rw [Int.sign_eq_one_of_pos q]; omega
            simp [hsp]
          · simp [hnb]
        have hzs := Lp.zt_sign h4.inv.z hji (show n + i < n + i + 1 by omega)
        rw [hN0, hzx] at hzs
        have hzero : Lp.rc i (Lp.wart n i) t (n + i) = 0 → t.bs j < n ∨ t.X j (n + i) = 0 := fun h0 => by
          rcases Nat.lt_or_ge (t.bs j) n with g | g
          · exact .inl g
          · exact .inr (h4.zero h0 j hji (by omega))
        refine AW_run ?_
        simp
        refine ⟨fun c1 c2 => ?_, fun hno => ?_⟩
        · rw [retK_ret]
          refine ⟨[.nilp, .bool false], by simp, hN b' t h4 (fun h0 => ?_) cS⟩
          have := hzs.1.1 c2
          rw [← hN0] at this
          rcases hzero h0 with g | g
          · omega
          · rw [g] at this; exact absurd this (by decide)
        · refine AW_run ?_
          simp [wj, loopQ_normal]
          refine ⟨j + 1, ⟨by omega, fun q hq c1 c2 => ?_⟩, by omega, rfl, by simp [h.cols, h.b], Sub.refl _⟩
          by_cases e : q = j
          · subst e
            rw [hN0] at c2
            have g1 := hno c1
            have g2 := hzs.1.2 c2
            omega
          · exact hall q (by omega) ⟨c1, c2⟩
      · have hje : j = i := by omega
        subst hje
        have hp0 : Lp.rc j (Lp.wart n j) t (n + j) = 0 := by
          rw [Lp.rc_wart_b rfl]
          refine Lp.S_zero fun q hq => ?_
          split
          · rename_i hb
            have h8 := h4.inv.nn q hq
            have h9 : ¬ 0 < t.X q (n + j) := fun g => hall q hq ⟨hb.1, g⟩
            grind
          · rfl
        simp [cT]
        refine AW_for (fun c : Nat => [(0, .ptr p.v), (4, .int .i64 k), (5, .loc gT' 6 0 0), (181, .int .i64 k), (182, .int .i64 c)]) (fun c => upd b' gF' (some ⟨1, lv k fun x => if x < c then okA n x else fr x⟩)) (fun c => c ≤ k) (fun c => k - c) _ 0 (Nat.zero_le _) ⟨rfl, by simp [Pg.v, h.b, h.cols], ?_⟩ ?_
        · refine sub_eq ?_
          funext x
          simp only [upd_apply]
          split
          · rename_i e; rw [e, cF]; simp
          · rfl
        intro c hc
        have wc : IntKind.i64.wrap ((c : Int) + 1) = (c : Int) + 1 := i64_in (by omega) (by omega)
        refine AW_runA ?_
        simp
        refine AW_runA ?_
        simp
        refine ⟨fun hck => ?_, fun hck => ?_⟩
        · refine AW_seq (AW_block ?_)
          refine AW_runA ?_
          simp
          refine AW_mixedT mixedO [0, 1, 2, 3, 4, 5, 6, 7, 8, 9, 10, 11] 1 12 (by kernel_rfl) ?_
          simp [Pg.v, h.cols, cT, nTF, hck]
          refine DAny_last (i := 12) (by kernel_rfl) rfl rfl rfl ?_
          simp [hck, lv_set]
          refine DAny_done (by kernel_rfl) ?_
          simp
          refine AW_run ?_
          simp [wc, loopQ_normal]
          refine ⟨c + 1, by omega, by omega, rfl, by simp [h.cols], sub_eq ?_⟩
          funext x
          simp only [upd_apply]
          split
          · congr 2
            exact lv_congr fun y hy => by
              by_cases e : y = c
              · subst e; simp [okA]
              · rw [if_neg e]; grind
          · rfl
        · have hce : c = k := by omega
          subst hce
          obtain ⟨bL, hbL⟩ : ∃ bL, bL = upd b' gF' (some ⟨1, lv c fun x => if x < c then okA n x else fr x⟩) := ⟨_, rfl⟩
          rw [← hbL]
          have bLF : bL gF' = some ⟨1, lv c (okA n)⟩ := by rw [hbL, upd_same, lv_congr fun x hx => by rw [if_pos hx]]
          have bLx : ∀ x, x ≠ gF' → bL x = b' x := fun x x1 => by rw [hbL, upd_ne _ _ _ _ x1]
          clear hbL
          have hTL := hT2.setF (b' := bL) (okA n) (by simp only [tnOf]; rw [hN0]; exact bLF) (fun x y hx hx2 hy => by rw [bLx x hx2]; exact hy)
          simp [Pg.v, h.cols]
          refine leave_cp n j (eQ p n j) ⟨gT', gR, gB, gF', ids⟩ t (okA n) hml hnl (h4.kick hp0) hTL fun b5 g5 e1 e2 hT5 hal5 hb5 => ?_
          simp
          rw [retK_ret]
          have n5 : ∀ x y, bl x = some y → x ∉ TG.all ⟨gT', gR, gB, gF', ids⟩ := fun x y hx hm2 => by have := hal x hm2; rw [this] at hx; cases hx
          refine ⟨[.loc g5.T 6 0 0, .bool true], by simp [e1], hS b5 g5 t h4 hp0 hT5 (fun x hx => ?_) fun x y hx => ?_⟩
          · rcases hal5 x hx with g1 | g1
            · exact hal x g1
            · cases hv : bl x with
              | none => rfl
              | some y =>
                have g2 := n5 x y hv
                rw [bLx x fun e => g2 (by rw [e]; simp [TG.all]), cS x y hv] at g1
                cases g1
          · have g2 := n5 x y hx
            exact hb5 x y (by rw [bLx x fun e => g2 (by rw [e]; simp [TG.all])]; exact cS x y hx) g2
end Go.Proofs.YticmgmemnpcbbaaGreat.Vm

namespace Go.Proofs.YticmgmemnpcbbaaGreat.Vm
open Go Go.RowKit Go.Proofs
set_option linter.unusedSimpArgs false
set_option linter.unusedVariables false

theorem frees_le (s : Str) : (frees s.js).length ≤ s.js.length := by
  unfold frees freesTo
  rw [List.length_map]
  exact Nat.le_trans (List.length_filter_le _ _) (by simp)
theorem nR_le {s : Str} (h : SOk s) : nR s ≤ 12 := by have := frees_le s; have := h.nj; unfold nR; omega
theorem nC_le {s : Str} (h : SOk s) : nC s ≤ 16 := by
  have := colsTo_le s.ms s.ms.length; have := h.nm
  unfold nC cols; omega
theorem lat_le {l : List Int} {n : Nat} (h : ∀ i, i < l.length → -100 ≤ lat l i ∧ lat l i ≤ 100) : (lat l n).natAbs ≤ 100 := by
  by_cases hn : n < l.length
  · have := h n hn; omega
  · have : lat l n = 0 := by simp [lat, hn]
    rw [this]; decide
theorem right_le {s : Str} {l : List Int} (h : LOk s l) : ∀ x, x ∈ right s l → x.natAbs ≤ 100 := by
  intro x hx
  unfold right at hx
  obtain ⟨j, -, hx⟩ := List.mem_flatMap.1 hx
  have h1 := lat_le (n := (2 * j).toNat) h.f
  have h2 := lat_le (n := (2 * j + 1).toNat) h.f
  rcases List.mem_cons.1 hx with rfl | hx
  · omega
  · have := List.mem_singleton.1 hx; subst this; omega
theorem ent_le {s : Str} (h : SOk s) (i c : Nat) (hc : c < nC s) : (ent s i c).natAbs ≤ 100 := by
  obtain ⟨-, h2⟩ := colAt_ok s c hc
  have h3 := rowsF_le h (i * s.ms.length + (colAt s c).1.toNat)
  unfold ent
  rw [Int.natAbs_mul]
  rcases h2 with e | e <;> rw [e] <;> simp <;> omega
theorem aTo_le {s : Str} (h : SOk s) : ∀ x, x ∈ aTo s (nR s * nC s) → x.natAbs ≤ 100 := by
  intro x hx
  unfold aTo at hx
  obtain ⟨t, ht, rfl⟩ := List.mem_map.1 hx
  have ht' : t < nR s * nC s := by simpa using ht
  refine ent_le h _ _ (Nat.mod_lt _ ?_)
  rcases Nat.eq_zero_or_pos (nC s) with e | e
  · rw [e] at ht'; omega
  · exact e
theorem fprog_pg {s : Str} {l : List Int} (h : LOk s l) : PgN (fprog s l) (nC s) (nR s) := by
  have h1 := nR_le h.sok
  have h2 := nC_le h.sok
  refine ⟨rfl, rfl, by simp [fprog], right_length s l, by simp [fprog], fun x hx => ?_, fun x hx => ?_, fun x hx => ?_, by omega, by omega⟩
  · have := aTo_le h.sok x hx; omega
  · have := right_le h x hx; omega
  · have : x = 0 := by
      simp only [fprog] at hx
      exact (List.mem_replicate.1 hx).2
    rw [this]; decide
end Go.Proofs.YticmgmemnpcbbaaGreat.Vm

namespace Go.Proofs.YticmgmemnpcbbaaGreat.Vm
open Go Go.RowKit Go.Proofs
set_option linter.unusedSimpArgs false
set_option linter.unusedVariables false

theorem fprog_100 {s : Str} {l : List Int} (h : LOk s l) : Pg100 (fprog s l) (nC s) (nR s) := by
  have h1 := nR_le h.sok
  have h2 := nC_le h.sok
  refine ⟨aTo_le h.sok, right_le h, fun x hx => ?_, by omega, by omega⟩
  have : x = 0 := by
    simp only [fprog] at hx
    exact (List.mem_replicate.1 hx).2
  rw [this]; decide
theorem forceProgram_ro (s : Str) (l : List Int) (hL : LOk s l) : RO Tryz.prog 72 [.ptr s.c, .sl (iv l), .int .i64 0, .int .i64 0] (.agg (fprog s l).v) := by
  have := ro_of_nw 2 (forceProgram_nw s l hL) (dPg_dep _)
  rwa [dPg_fz] at this
noncomputable def carQ (s : Str) (l : List Int) : Bool := hasQ (nC s) (nR s) (eQ (fprog s l) (nC s) (nR s))
noncomputable def canC (s : Str) (l : List Int) : Bool := lOk s l && carQ s l
theorem carries_ro (s : Str) (l : List Int) (hL : LOk s l) : RO Tryz.prog 75 [.ptr s.c, .sl (iv l)] (.bool (carQ s l)) := by
  have hpg := fprog_pg hL
  obtain ⟨p, hp⟩ : ∃ p, fprog s l = p := ⟨_, rfl⟩
  have hF := forceProgram_ro s l hL
  have hq : carQ s l = hasQ (nC s) (nR s) (eQ p (nC s) (nR s)) := by rw [← hp]; rfl
  rw [hp] at hpg hF
  rw [hq]
  refine ro_of2 Tryz.func75 rfl rfl (by rw [Tryz.ntmps75]; simp) fun bl => ?_
  rw [Tryz.ntmps75, Tryz.results75]
  refine AW_runA ?_
  simp
  refine AW_runA ?_
  simp
  refine callP_ro hF ?_
  simp [Pg.v]
  intro g hg hbg
  refine AW_frzAt 1 5 (.ptr p.v) bl (by intro z b hz; simp only [upd_apply] at hz ⊢; grind) (by simp [frz, dropB, hbg, V.cl, Pg.v]) ?_
  refine AW_run ?_
  simp
  refine begin_cp p (nC s) (nR s) hpg (fun b' t h4 h0 hb => ?_) (fun b' g' t h4 h0 _ _ hb => ?_)
  · have hno : hasQ (nC s) (nR s) (eQ p (nC s) (nR s)) = false := by
      rw [Bool.eq_false_iff]; exact fun e => h0 ((End1.has h4).2 e)
    simp
    exact retRO [.bool false] 0 (by simp) (by simp [frz, hno]) hb
  · have hyes := (End1.has h4).1 h0
    simp
    exact retRO [.bool true] 0 (by simp) (by simp [frz, hyes]) hb
theorem impl_CanCarry_ro (s : Str) (l : List Int) (hs : s.sz) (hl : l.length ≤ 1048576) : RO Tryz.prog 18 [.agg s.c, .sl (iv l)] (.bool (canC s l)) := by
  refine ro_of2 Tryz.func18 rfl rfl (by rw [Tryz.ntmps18]; simp) fun bl => ?_
  rw [Tryz.ntmps18, Tryz.results18]
  refine AW_runA ?_
  simp [Str.c]
  intro g hg hbg
  refine AW_frzAt 1 2 (.ptr s.c) bl (by intro z b hz; simp only [upd_apply] at hz ⊢; grind) (by simp [frz, dropB, hbg, V.cl, Str.c]) ?_
  refine AW_seq ?_
  refine AW_way0 [(1, .sl (iv l)), (2, .ptr s.c)] _ bl 4 (.bool (canC s l)) ⟨rfl, by simp [Str.c], Sub.refl _⟩ rfl ?_ ?_
  · simp [Str.c]
    refine callP_ro (impl_LoadOk_ro s l hs.js hs.ms hs.nm (by omega)) ?_
    simp
    refine ⟨fun h => ?_, fun h => ?_⟩
    · simp [canC, h]
      refine callP_ro (carries_ro s l (lOk_of h)) ?_
      simp
    · simp [canC, h]
  simp
  refine AW_run ?_
  simp
  exact retRO0 (by simp) rfl rfl
theorem spec_CanCarry_ro (s : Str) (l : List Int) (hs : s.sz) (hl : l.length ≤ 1048576) : RO Tryz.prog 47 [.agg s.c, .sl (iv l)] (.bool (canC s l)) := by
  refine ro_of2 Tryz.func47 rfl rfl (by rw [Tryz.ntmps47]; simp) fun bl => ?_
  rw [Tryz.ntmps47, Tryz.results47]
  refine AW_runA ?_
  simp [Str.c]
  intro g hg hbg
  refine AW_frzAt 1 2 (.ptr s.c) bl (by intro z b hz; simp only [upd_apply] at hz ⊢; grind) (by simp [frz, dropB, hbg, V.cl, Str.c]) ?_
  refine AW_seq ?_
  refine AW_way0 [(1, .sl (iv l)), (2, .ptr s.c)] _ bl 4 (.bool (canC s l)) ⟨rfl, by simp [Str.c], Sub.refl _⟩ rfl ?_ ?_
  · simp [Str.c]
    refine callP_ro (spec_LoadOk_ro s l hs.js hs.ms hs.nm (by omega)) ?_
    simp
    refine ⟨fun h => ?_, fun h => ?_⟩
    · simp [canC, h]
      refine callP_ro (l15Program_ro s l (lOk_of h)) ?_
      simp
      refine callP_ro (spec_HasSolution_ro (fprog s l) (nC s) (nR s) (fprog_pg (lOk_of h)) (fprog_100 (lOk_of h))) ?_
      simp [carQ]
    · simp [canC, h]
  simp
  refine AW_run ?_
  simp
  exact retRO0 (by simp) rfl rfl
end Go.Proofs.YticmgmemnpcbbaaGreat.Vm

namespace Go.Proofs.YticmgmemnpcbbaaGreat.Vm
open Go Go.Proofs
set_option linter.unusedSimpArgs false
set_option linter.unusedVariables false

theorem law_CanCarry_ro (s : Str) (l : List Int) (hs : s.sz) (hl : l.length ≤ 140737488351232) : RO Tryz.prog 8 [.agg s.c, .sl (iv l)] (.bool true) := by
  refine ro_of2 Tryz.func8 rfl rfl (by rw [Tryz.ntmps8]; simp) fun bl => ?_
  rw [Tryz.ntmps8, Tryz.results8]
  refine AW_run ?_
  simp [Str.c]
  intro gx0 hgx0 hbgx0
  have kp := kp_of (bl := bl) hbgx0 (some ⟨2, [[.sl (jv s.js), .sl (mv s.ms)]]⟩)
  have egx0 : upd bl gx0 (some ⟨2, [[.sl (jv s.js), .sl (mv s.ms)]]⟩) gx0 = some ⟨2, [[.sl (jv s.js), .sl (mv s.ms)]]⟩ := by simp
  have sb1 : Sub bl (upd bl gx0 (some ⟨2, [[.sl (jv s.js), .sl (mv s.ms)]]⟩)) := fun x y hx => kp x y ((Sub.refl _) x y hx)
  generalize upd bl gx0 (some ⟨2, [[.sl (jv s.js), .sl (mv s.ms)]]⟩) = b1 at *
  clear kp
  refine ⟨fun h => ?_, fun hl1 => ?_⟩
  · exact retRO [_] 0 rfl rfl sb1
  have hl2 : l.length ≤ 1048576 := by omega
  refine callP_ro (szStructure_ro s _ (by omega) hs.js hs.ms hs.nm) ?_
  try simp [egx0]
  refine ⟨fun h => ?_, fun hzs => ?_⟩
  · exact retRO [_] 0 rfl rfl sb1
  obtain ⟨l1s, l2s, l3s⟩ := szStr_le (s := s) (left := 1048576) (by omega) (by omega)
  have hles : -1 ≤ (szStr s 1048576) ∧ (szStr s 1048576) ≤ 1048576 := by omega
  have jss : s.js.length ≤ 1048576 := by omega
  have mss : s.ms.length ≤ 1048576 := by omega
  have ts := toStructure_ro s jss mss
  have tl := toIntS_ro l hl2
  have hS := spec_CanCarry_ro s l ⟨hs.js, hs.ms, hs.nm⟩ (by omega)
  have hJ := impl_CanCarry_ro s l ⟨hs.js, hs.ms, hs.nm⟩ (by omega)
  generalize canC s l = w at hS hJ
  refine callP_ro ts ?_
  try simp [egx0]
  refine callP_ro tl ?_
  try simp [egx0]
  refine callP_ro hS ?_
  try simp [egx0]
  refine callP_ro ts ?_
  simp [egx0, Str.c]
  intro gx1 hgx1 hbgx1
  have z_gx1_gx0 : gx0 ≠ gx1 := fun e => by rw [← e, egx0] at hbgx1; cases hbgx1
  try simp [z_gx1_gx0, Ne.symm z_gx1_gx0, egx0]
  have kp := kp_of (bl := b1) hbgx1 (some ⟨2, [[.sl (jv s.js), .sl (mv s.ms)]]⟩)
  have egx1 : upd b1 gx1 (some ⟨2, [[.sl (jv s.js), .sl (mv s.ms)]]⟩) gx1 = some ⟨2, [[.sl (jv s.js), .sl (mv s.ms)]]⟩ := by simp
  have sb2 : Sub bl (upd b1 gx1 (some ⟨2, [[.sl (jv s.js), .sl (mv s.ms)]]⟩)) := fun x y hx => kp x y (sb1 x y hx)
  generalize upd b1 gx1 (some ⟨2, [[.sl (jv s.js), .sl (mv s.ms)]]⟩) = b2 at *
  have egx0 := kp _ _ egx0
  clear kp
  try simp [egx0, egx1]
  refine callP_ro tl ?_
  try simp [egx0, egx1]
  refine callP_ro hJ ?_
  try simp [egx0, egx1]
  refine AW_quiet mixedO (by kernel_rfl) ?_
  simp [egx0, egx1]
  refine hcQ_ro ts ?_
  try simp
  refine hcQ_ro (eqStructure_ro s s hs.js hs.ms) ?_
  try simp [egx0, egx1]
  refine callP_ro tl ?_
  try simp
  refine callP_ro (eqIntS_ro l l hl) ?_
  try simp [egx0, egx1]
  exact retRO [_] 0 rfl rfl sb2

end Go.Proofs.YticmgmemnpcbbaaGreat.Vm
