/- The arguments of a law: what a reading of them says, as abstract values; and the way back. -/
import Derived.Test.YtpkphjoobeacfaaVmK
import Derived.OpenShut
import Derived.ShutString
import Derived.ChangeOld
import Derived.Carry
import Derived.SizedLaws
import Derived.Deep.Slices
namespace Go.Proofs.Ytpkphjoobeacfaa.Vm
open Go Go.RowKit Go.ChangeShapes Go.WideShapes
set_option linter.unusedSimpArgs false
set_option linter.unusedVariables false

/-- Cells of a type, as abstract values. -/
inductive CO (P : Program) : TypeId → List V → Prop
  | bool {t : TypeId} (b : Bool) (h : P.underlying t = some .bool) : CO P t [.bool b]
  | int {t : TypeId} {k : IntKind} (n : Int) (h : P.underlying t = some (.int k)) (hw : (Lit.int k n).wf = true) : CO P t [.int k n]
  | str {t : TypeId} (s : ByteArray) (h : P.underlying t = some .string) (hs : s.size ≤ reachBytes) : CO P t [.str s]
  | sl {t e : TypeId} (xs : List (List V)) (h : P.underlying t = some (.slice e)) (hx : ∀ x, x ∈ xs → CO P e x) (hl : xs.length * P.bytesOf e ≤ reachBytes) : CO P t [.sl xs]
  | struct {t : TypeId} {fs : Array Field} {cs : List V} (h : P.underlying t = some (.struct fs)) (hl : cs.length = P.cellsOf t)
      (hf : ∀ f, f ∈ fs.toList → CO P f.type ((cs.drop f.offset).take (P.cellsOf f.type))) : CO P t cs

def layFs (P : Program) : Nat → List Field → Option Nat
  | off, [] => some off
  | off, f :: fs => if f.offset = off then layFs P (off + P.cellsOf f.type) fs else none
def tyOk (P : Program) : Nat → TypeId → Bool
  | 0, _ => false
  | n + 1, t => match P.underlying t with
    | some .bool | some (.int _) | some .string => P.cellsOf t == 1
    | some (.slice e) => P.cellsOf t == 1 && tyOk P n e && (1 ≤ P.cellsOf e : Bool)
    | some (.struct fs) => (layFs P 0 fs.toList == some (P.cellsOf t)) && fs.toList.all fun f => tyOk P n f.type
    | _ => false

section
variable {H : Type} {enc : TypeId × Value → H} {P : Program} {w : World} {spare : Nat → Bool} {held : Bool} {F : Nat → Prop}

theorem weightsAll_mem {e : TypeId} : ∀ {l : List (DataW H)} {d : DataW H}, d ∈ l → (DataW.weightsAll P e l).all (· ≤ reachBytes) = true → (d.weights P e).all (· ≤ reachBytes) = true
  | x :: l, d, hm, h => by
    simp only [DataW.weightsAll, List.all_append, Bool.and_eq_true] at h
    rcases List.mem_cons.1 hm with rfl | hm
    · exact h.1
    · exact weightsAll_mem hm h.2

theorem layFs_le : ∀ {fs : List Field} {off e : Nat}, layFs P off fs = some e → off ≤ e ∧ ∀ f, f ∈ fs → off ≤ f.offset ∧ f.offset + P.cellsOf f.type ≤ e
  | [], off, e, h => by cases h; exact ⟨Nat.le_refl _, fun f hf => by cases hf⟩
  | f :: fs, off, e, h => by
    simp only [layFs] at h
    split at h
    · rename_i ho
      obtain ⟨h1, h2⟩ := layFs_le h
      refine ⟨by omega, fun g hg => ?_⟩
      rcases List.mem_cons.1 hg with rfl | hg
      · omega
      · have := h2 g hg; omega
    · cases h

theorem weightsEach_get : ∀ {ts : List TypeId} {ds : List (DataW H)} (i : Nat) {t : TypeId} {d : DataW H}, ts[i]? = some t → ds[i]? = some d → (DataW.weightsEach P ts ds).all (· ≤ reachBytes) = true → (d.weights P t).all (· ≤ reachBytes) = true
  | [], _, i, t, d, h, _, _ => by cases h
  | _ :: _, [], i, t, d, _, h, _ => by cases h
  | t' :: ts, d' :: ds, i, t, d, h1, h2, h => by
    simp only [DataW.weightsEach, List.all_append, Bool.and_eq_true] at h
    cases i with
    | zero => cases h1; cases h2; exact h.1
    | succ i => exact weightsEach_get i h1 h2 h.2

theorem glue {cs : List Value} : ∀ {fs : List Field} {off e : Nat}, layFs P off fs = some e →
    (∀ f, f ∈ fs → ∃ ys : List V, ys.length = P.cellsOf f.type ∧ (∀ (j : Nat) x, ys[j]? = some x → ∃ v, cs[f.offset + j]? = some v ∧ Rep F w x v) ∧ CO P f.type ys) →
    ∃ g : Nat → V, (∀ i, off ≤ i → i < e → ∃ v, cs[i]? = some v ∧ Rep F w (g i) v) ∧ ∀ f, f ∈ fs → CO P f.type ((List.range (P.cellsOf f.type)).map fun j => g (f.offset + j))
  | [], off, e, h, _ => by
    cases h
    exact ⟨fun _ => .junk, fun i h1 h2 => by omega, fun f hf => by cases hf⟩
  | f :: fs, off, e, h, hall => by
    simp only [layFs] at h
    split at h
    · rename_i ho
      obtain ⟨g, hg1, hg2⟩ := glue h fun f' hf' => hall f' (List.mem_cons_of_mem _ hf')
      obtain ⟨ys, hy1, hy2, hy3⟩ := hall f List.mem_cons_self
      have hle := layFs_le h
      refine ⟨fun i => if i < off + P.cellsOf f.type then ys.getD (i - off) .junk else g i, fun i h1 h2 => ?_, fun f' hf' => ?_⟩
      · by_cases hi : i < off + P.cellsOf f.type
        · simp only [if_pos hi]
          have hlt : i - off < ys.length := by omega
          obtain ⟨v, hv, hr⟩ := hy2 (i - off) ys[i - off] (List.getElem?_eq_getElem hlt)
          refine ⟨v, by rw [← hv]; congr 1; omega, ?_⟩
          rw [List.getD_eq_getElem?_getD, List.getElem?_eq_getElem hlt]
          exact hr
        · simp only [if_neg hi]
          exact hg1 i (by omega) h2
      · rcases List.mem_cons.1 hf' with rfl | hf'
        · have : ((List.range (P.cellsOf f'.type)).map fun j => if f'.offset + j < off + P.cellsOf f'.type then ys.getD (f'.offset + j - off) .junk else g (f'.offset + j)) = ys := by
            apply List.ext_getElem?
            intro j
            rcases Nat.lt_or_ge j (P.cellsOf f'.type) with hj | hj
            · rw [List.getElem?_map, List.getElem?_range hj, Option.map_some, if_pos (by omega), List.getD_eq_getElem?_getD, show f'.offset + j - off = j by omega, List.getElem?_eq_getElem (by omega)]; rfl
            · rw [List.getElem?_eq_none (by simpa using hj), List.getElem?_eq_none (by omega)]
          rw [this]; exact hy3
        · have hb := hle.2 f' hf'
          have : ((List.range (P.cellsOf f'.type)).map fun j => if f'.offset + j < off + P.cellsOf f.type then ys.getD (f'.offset + j - off) .junk else g (f'.offset + j)) = (List.range (P.cellsOf f'.type)).map fun j => g (f'.offset + j) :=
            List.map_congr_left fun j hj => by rw [if_neg (by omega)]
          rw [this]; exact hg2 f' hf'
    · cases h

theorem rep_of_trod (hF : ∀ b, b < w.heap.size → F b) : ∀ (n : Nat) (t : TypeId) (fuel : Nat) (cs : List Value) (d : DataW H) (ps : List MemPlace), tyOk P n t = true →
    DataW.trod enc P w 0 spare held fuel t cs = some (d, ps) → (d.weights P t).all (· ≤ reachBytes) = true →
    ∃ xs : List V, xs.length = cs.length ∧ cs.length = P.cellsOf t ∧ (∀ (i : Nat) x, xs[i]? = some x → ∃ v, cs[i]? = some v ∧ Rep F w x v) ∧ CO P t xs := by
  intro n
  induction n with
  | zero => intro t fuel cs d ps h; cases h
  | succ n ih =>
    intro t fuel cs d ps hT ht hw
    have one : ∀ {x : V} {v : Value}, cs = [v] → P.cellsOf t = 1 → Rep F w x v → CO P t [x] → ∃ xs : List V, xs.length = cs.length ∧ cs.length = P.cellsOf t ∧ (∀ (i : Nat) x, xs[i]? = some x → ∃ v, cs[i]? = some v ∧ Rep F w x v) ∧ CO P t xs := by
      intro x v hcs h1 hr hc
      subst hcs
      refine ⟨[x], rfl, h1.symm, fun i y hy => ?_, hc⟩
      cases i with
      | zero => cases hy; exact ⟨v, rfl, hr⟩
      | succ i => cases hy
    unfold tyOk at hT
    split at hT
    · rename_i hu
      obtain ⟨b, rfl, hx⟩ := DataW.trod_bool hu ht
      exact one rfl (by simpa using hT) (.bool b) (.bool b hu)
    · rename_i k hu
      obtain ⟨z, rfl, hx, hwf⟩ := DataW.trod_int hu ht
      exact one rfl (by simpa using hT) (.int k z) (.int z hu hwf)
    · rename_i hu
      obtain ⟨s, rfl, hx, hsz⟩ := DataW.trod_string hu ht
      obtain ⟨rfl, _⟩ := Prod.mk.inj hx
      simp only [DataW.weights, List.all_cons, List.all_nil, Bool.and_true, decide_eq_true_eq] at hw
      exact one rfl (by simpa using hT) (.str s) (.str s hu (by
        have : s.data.toList.length = s.size := Array.length_toList
        omega))
    · rename_i e hu
      simp only [Bool.and_eq_true, beq_iff_eq, decide_eq_true_eq] at hT
      obtain ⟨⟨hc, hTe⟩, hpos⟩ := hT
      rcases Deep.open_slice hu ht with ⟨rfl, _⟩ | ⟨a, len, cap, m, fu, D, Pl, rfl, _, hlen, hcap, hm, hx, hel⟩
      · exact one rfl hc (.sl0 none 0 (fun _ => rfl)) (.sl [] hu (fun x hx => by cases hx) (by rw [List.length_nil, Nat.zero_mul]; exact Nat.zero_le _))
      · obtain ⟨hd, _⟩ := Prod.mk.inj hx
        subst hd
        simp only [DataW.weights, hu, List.all_cons, List.all_append, Bool.and_eq_true, decide_eq_true_eq, List.length_map, List.length_range] at hw
        obtain ⟨hw0, hw1, _⟩ := hw
        have hlm : len ≤ m := by rw [hm]; split <;> omega
        have hget : ∀ i, i < len → ∃ xs : List V, xs.length = P.cellsOf e ∧ (∀ (j : Nat) x, xs[j]? = some x → ∃ v, w.cell? ((a.add (i * P.cellsOf e)).add j) = some v ∧ Rep F w x v) ∧ CO P e xs := by
          intro i hi
          obtain ⟨cs', h1, h2⟩ := hel i (by omega)
          obtain ⟨xs, g1, g2, g3, g4⟩ := ih e fu cs' (D i) (Pl i) hTe h2 (weightsAll_mem (List.mem_map.2 ⟨i, by simpa using hi, rfl⟩) hw1)
          obtain ⟨_, c1, c2⟩ := World.cells?_some h1
          refine ⟨xs, by omega, fun j x hx => ?_, g4⟩
          obtain ⟨v, hv, hr⟩ := g3 j x hx
          have hj : j < P.cellsOf e := by
            have := (List.getElem?_eq_some_iff.1 hx).1
            omega
          exact ⟨v, by rw [c2 j hj]; exact hv, hr⟩
        rcases Nat.eq_zero_or_pos len with h0 | h0
        · subst h0
          exact one rfl hc (.sl0 (some a) cap (fun h => by cases h)) (.sl [] hu (fun x hx => by cases hx) (by rw [List.length_nil, Nat.zero_mul]; exact Nat.zero_le _))
        · obtain ⟨X, hX⟩ := Deep.choose_lt (α := List V) (n := len) hget
          have hspot : a = ⟨a.block, a.off, none⟩ := by
            obtain ⟨g1, g2, _⟩ := hX 0 h0
            obtain ⟨x, hx⟩ : ∃ x, (X 0)[0]? = some x := ⟨(X 0)[0], List.getElem?_eq_getElem (by omega)⟩
            obtain ⟨v, hv, _⟩ := g2 0 x hx
            simp only [Nat.zero_mul, Addr.add, if_pos] at hv
            unfold World.cell? at hv
            split at hv
            · split at hv
              · cases hv
              · rename_i hs
                cases a with
                | mk b o s => cases s <;> simp at hs ⊢
            · cases hv
          have hadd : ∀ i j, (a.add (i * P.cellsOf e)).add j = ⟨a.block, a.off + i * P.cellsOf e + j, none⟩ := by
            intro i j
            rw [Deep.add_add]
            unfold Addr.add
            split
            · rename_i h; rw [hspot]; simp only [Addr.mk.injEq, true_and, and_true]; omega
            · simp only [Addr.mk.injEq, true_and, and_true]; omega
          have hblk : a.block < w.heap.size := by
            obtain ⟨g1, g2, _⟩ := hX 0 h0
            obtain ⟨x, hx⟩ : ∃ x, (X 0)[0]? = some x := ⟨(X 0)[0], List.getElem?_eq_getElem (by omega)⟩
            obtain ⟨v, hv, _⟩ := g2 0 x hx
            rw [hadd] at hv
            unfold World.cell? at hv
            split at hv
            · rename_i hh; exact (Array.getElem?_eq_some_iff.1 hh).1
            · cases hv
          have hxs : ∀ i c, ((List.range len).map X)[i]? = some c → i < len ∧ c = X i := by
            intro i c h
            rw [List.getElem?_map] at h
            rcases Nat.lt_or_ge i len with hi | hi
            · rw [List.getElem?_range hi] at h; cases h; exact ⟨hi, rfl⟩
            · rw [List.getElem?_eq_none (by simpa using hi)] at h; cases h
          have hrep : Rep F w (.sl ((List.range len).map X)) (.slice (some a) len cap) := by
            have hl : ((List.range len).map X).length = len := by simp
            rw [hspot]
            have := Rep.sl (F := F) (w := w) a.block a.off cap (P.cellsOf e) ((List.range len).map X) (fun i j => (w.cell? ⟨a.block, a.off + i * P.cellsOf e + j, none⟩).getD undef) (hF _ hblk) (by omega) hcap ?_ ?_ ?_
            · rw [hl] at this; exact this
            · intro c hcm
              obtain ⟨i, hi, rfl⟩ := List.mem_map.1 hcm
              exact (hX i (by simpa using hi)).1
            · intro i c j x h1 h2
              obtain ⟨hi, rfl⟩ := hxs i c h1
              obtain ⟨v, hv, _⟩ := (hX i hi).2.1 j x h2
              rw [hadd] at hv
              rw [hv]; rfl
            · intro i c j x h1 h2
              obtain ⟨hi, rfl⟩ := hxs i c h1
              obtain ⟨v, hv, hr⟩ := (hX i hi).2.1 j x h2
              rw [hadd] at hv
              rw [hv]; exact hr
          refine one rfl hc hrep (.sl _ hu (fun x hx => ?_) ?_)
          · obtain ⟨i, hi, rfl⟩ := List.mem_map.1 hx
            exact (hX i (by simpa using hi)).2.2
          · simp only [List.length_map, List.length_range]
            exact Nat.le_trans (Nat.mul_le_mul_right _ (by omega)) hw0
    · rename_i fs hu
      simp only [Bool.and_eq_true, beq_iff_eq, List.all_eq_true] at hT
      obtain ⟨hlay, hTf⟩ := hT
      obtain ⟨ys, fu, _, hx, hlen, hys, hel⟩ := DataW.trod_struct hu ht
      obtain ⟨hd, _⟩ := Prod.mk.inj hx
      subst hd
      simp only [DataW.weights, hu] at hw
      have hle := layFs_le hlay
      obtain ⟨g, hg1, hg2⟩ := glue (F := F) (w := w) (cs := cs) hlay (fun f hf => by
        obtain ⟨i, hi⟩ := List.mem_iff_getElem?.1 hf
        have hi' : fs[i]? = some f := by rw [← Array.getElem?_toList]; exact hi
        have hsome := hel i f hi'
        have hilt : i < ys.length := by rw [hys]; exact (Array.getElem?_eq_some_iff.1 hi').1
        rw [List.getElem?_eq_getElem hilt] at hsome
        have hb := hle.2 f hf
        obtain ⟨xs, g1, g2, g3, g4⟩ := ih f.type fu _ ys[i].1 ys[i].2 (hTf f hf) (by rw [hsome]) (weightsEach_get i (by rw [List.getElem?_map, hi]; rfl) (by rw [List.getElem?_map, List.getElem?_eq_getElem hilt]; rfl) hw)
        refine ⟨xs, by omega, fun j x hx => ?_, g4⟩
        obtain ⟨v, hv, hr⟩ := g3 j x hx
        have hj : j < P.cellsOf f.type := by
          have := (List.getElem?_eq_some_iff.1 hx).1
          omega
        rw [List.getElem?_take_of_lt hj, List.getElem?_drop] at hv
        exact ⟨v, hv, hr⟩)
      refine ⟨(List.range (P.cellsOf t)).map g, by simp [hlen], hlen, fun i x hx => ?_, .struct hu (by simp) fun f hf => ?_⟩
      · rw [List.getElem?_map] at hx
        rcases Nat.lt_or_ge i (P.cellsOf t) with hi | hi
        · rw [List.getElem?_range hi] at hx; cases hx
          exact hg1 i (Nat.zero_le _) hi
        · rw [List.getElem?_eq_none (by simpa using hi)] at hx; cases hx
      · have hb := hle.2 f hf
        have : (((List.range (P.cellsOf t)).map g).drop f.offset).take (P.cellsOf f.type) = (List.range (P.cellsOf f.type)).map fun j => g (f.offset + j) := by
          apply List.ext_getElem?
          intro j
          rcases Nat.lt_or_ge j (P.cellsOf f.type) with hj | hj
          · rw [List.getElem?_take_of_lt hj, List.getElem?_drop, List.getElem?_map, List.getElem?_range (by omega), List.getElem?_map, List.getElem?_range hj]; rfl
          · rw [List.getElem?_take_eq_none hj, List.getElem?_eq_none (by simpa using hj)]
        rw [this]; exact hg2 f hf
    · cases hT

/-- A value of a type, as an abstract value. -/
def toV (P : Program) (t : TypeId) (cs : List V) : V := match P.underlying t with | some (.struct _) => .agg cs | _ => cs.headD .junk
def ArgsOk (P : Program) : List TypeId → List V → Prop
  | [], [] => True
  | t :: ts, x :: xs => (∃ cs, CO P t cs ∧ x = toV P t cs) ∧ ArgsOk P ts xs
  | _, _ => False

theorem rep_of_arg {b0 : Nat} {n : Nat} {t : TypeId} {v : Value} {d : DataW H} {ps : List MemPlace} (hF : ∀ b, b < w.heap.size → F b) (hT : tyOk P n t = true) (hv : Value.okWide P w .any b0 t v)
    (h : DataW.Trod enc P w 0 spare held t v d ps) (hw : (d.weights P t).all (· ≤ reachBytes) = true) : ∃ cs, CO P t cs ∧ Rep F w (toV P t cs) v := by
  obtain ⟨fuel, hf⟩ := h
  obtain ⟨xs, h1, h2, h3, h4⟩ := rep_of_trod hF n t fuel _ d ps hT hf hw
  refine ⟨xs, h4, ?_⟩
  have one : P.cellsOf t = 1 → v.cells.toList = [v] → Rep F w (xs.headD .junk) v := by
    intro hc hcells
    rw [hcells] at h1 h3
    obtain ⟨x, hx⟩ : ∃ x, xs[0]? = some x := ⟨xs[0]'(by rw [h1]; exact Nat.zero_lt_one), List.getElem?_eq_getElem _⟩
    obtain ⟨v', hv', hr⟩ := h3 0 x hx
    cases hv'
    cases xs with
    | nil => cases hx
    | cons y ys => cases hx; exact hr
  unfold tyOk at hT
  cases n with
  | zero => cases hT
  | succ n =>
    simp only at hT
    unfold toV
    split at hT
    · rename_i hu
      obtain ⟨b, rfl⟩ := okWide_bool hu hv
      simp only [hu]
      exact one (by simpa using hT) rfl
    · rename_i k hu
      obtain ⟨b, rfl⟩ := okWide_int hu hv
      simp only [hu]
      exact one (by simpa using hT) rfl
    · rename_i hu
      obtain ⟨b, rfl⟩ := okWide_string hu hv
      simp only [hu]
      exact one (by simpa using hT) rfl
    · rename_i e hu
      obtain ⟨a, l, c, rfl⟩ := okWide_slice hu hv
      simp only [hu]
      simp only [Bool.and_eq_true, beq_iff_eq] at hT
      exact one hT.1.1 rfl
    · rename_i fs hu
      simp only [hu]
      simp only [Value.okWide, hu] at hv
      obtain ⟨cs, rfl, _, _⟩ := hv
      refine .agg xs cs (by simp only [Value.cells] at h1; simpa using h1.symm) fun i x hx => ?_
      obtain ⟨u, hu', hr⟩ := h3 i x hx
      simp only [Value.cells, Array.getElem?_toList] at hu'
      rw [Array.getD_eq_getD_getElem?, hu']
      exact hr
    · cases hT

theorem reps_of_args {b0 : Nat} (hF : ∀ b, b < w.heap.size → F b) : ∀ {ts : List TypeId} {vs : List Value} {ds : List (DataW H)} {ps : List MemPlace}, (∀ t, t ∈ ts → tyOk P 9 t = true) →
    (∀ (j : Nat) t v, ts[j]? = some t → vs[j]? = some v → Value.okWide P w .any b0 t v) → DataW.TrodAll enc P w 0 spare held ts vs ds ps → (DataW.weightsEach P ts ds).all (· ≤ reachBytes) = true →
    ds.length = ts.length ∧ ∃ xs, ArgsOk P ts xs ∧ vs.length = xs.length ∧ ∀ (i : Nat) x, xs[i]? = some x → ∃ v, vs[i]? = some v ∧ Rep F w x v
  | [], vs, ds, ps, _, _, h, _ => by
    obtain ⟨rfl, rfl, rfl⟩ := trodAll_nil h
    exact ⟨rfl, [], trivial, rfl, fun i x hx => by cases hx⟩
  | t :: ts, vs, ds, ps, hT, hv, h, hw => by
    obtain ⟨v0, vs0, d0, ds0, p0, q0, rfl, rfl, rfl, h0, r0⟩ := trodAll_cons h
    simp only [DataW.weightsEach, List.all_append, Bool.and_eq_true] at hw
    obtain ⟨cs, hc, hr⟩ := rep_of_arg hF (hT t List.mem_cons_self) (hv 0 t v0 rfl rfl) h0 hw.1
    obtain ⟨hd, xs, h1, h2, h3⟩ := reps_of_args hF (fun t' ht => hT t' (List.mem_cons_of_mem _ ht)) (fun j t' v h1 h2 => hv (j + 1) t' v h1 h2) r0 hw.2
    refine ⟨by simp [hd], toV P t cs :: xs, ⟨⟨cs, hc, rfl⟩, h1⟩, by simp [h2], fun i x hx => ?_⟩
    cases i with
    | zero => cases hx; exact ⟨v0, rfl, hr⟩
    | succ i => exact h3 i x hx

theorem stays {W W' : World} (hl : laidOutB P = true) (hb : Below W.heap.size W W') : ∀ {ts : List TypeId} {vs : List Value} {ds : List (DataW H)} {ps : List MemPlace}, (∀ t, t ∈ ts → P.readableRec t = true ∧ t < P.types.size) →
    DataW.TrodAll enc P W 0 (fun _ => true) true ts vs ds ps → ∃ qs, DataW.TrodAll enc P W' 0 (fun b => decide (b < W.heap.size)) true ts vs ds qs
  | [], vs, ds, ps, _, h => by
    obtain ⟨rfl, rfl, rfl⟩ := trodAll_nil h
    exact ⟨[], rfl⟩
  | t :: ts, vs, ds, ps, hT, h => by
    obtain ⟨v0, vs0, d0, ds0, p0, q0, rfl, rfl, rfl, h0, r0⟩ := trodAll_cons h
    obtain ⟨qs, hq⟩ := stays hl hb (fun t' ht => hT t' (List.mem_cons_of_mem _ ht)) r0
    have hlt : ∀ x ∈ p0, x.block < W.heap.size := by obtain ⟨m, hm⟩ := h0; exact DataW.trod_lt m _ _ _ hm
    exact ⟨_, trodAll_cons_mk (Below.trod hl (hT t List.mem_cons_self).1 (hT t List.mem_cons_self).2 h0 hb hlt) hq⟩

theorem law_calls {f : FuncId} {fn : Func} {s : ChangeSpec} {tb : TypeId} (hvars : s.vars = []) (hres : fn.resultTypes = #[tb]) (hb : P.underlying tb = some .bool) (hl : laidOutB P = true)
    (hT : (fn.params.toList.all fun t => tyOk P 9 t && P.readableRec t && decide (t < P.types.size)) = true)
    (hfn : ∀ ds : List (DataW H), ds.length = fn.params.toList.length → s.fn H ds = { results := [.lit (.bool true)], args := ds })
    (hro : ∀ xs, ArgsOk P fn.params.toList xs → RO P f xs (.bool true))
    (W : World) (base : Nat) (args : Array Value) (ds gs : List (DataW H)) (before : List MemPlace)
    (hval : ∀ (j : Nat) t v, fn.params[j]? = some t → args[j]? = some v → Value.okWide P W .any base t v)
    (hW : DataW.Whole enc P fn.params.toList s.vars false W args.toList ds gs before)
    (hsz : (DataW.weightsEach P (fn.params.toList ++ s.plain.varTypes P) (ds ++ gs)).all (· ≤ reachBytes) = true) :
    Calls P f args W fun e W' => ∃ v, e = .returned v ∧ s.post enc P fn false true false false W args v W' := by
  have hW' := hW
  obtain ⟨p, q, hA, hV, rfl, hfz, hnd⟩ := hW
  rw [hvars] at hV
  obtain ⟨rfl, rfl⟩ := trodVars_none hV
  have hty : ∀ t, t ∈ fn.params.toList → tyOk P 9 t = true ∧ P.readableRec t = true ∧ t < P.types.size := fun t ht => by
    have := List.all_eq_true.1 hT t ht
    simp only [Bool.and_eq_true, decide_eq_true_eq] at this
    exact ⟨this.1.1, this.1.2, this.2⟩
  have hvt : s.plain.varTypes P = [] := by
    unfold DataSpec.varTypes ChangeSpec.plain
    rw [hvars]; rfl
  rw [hvt, List.append_nil, List.append_nil] at hsz
  obtain ⟨hdl, xs, hok, hlen, hreps⟩ := reps_of_args (F := fun b => b < W.heap.size) (fun b hb => hb) (fun t ht => (hty t ht).1) (b0 := base) (fun j t v h1 h2 => hval j t v (by rw [← Array.getElem?_toList]; exact h1) (by rw [← Array.getElem?_toList]; exact h2)) hA hsz
  have hm : Mem W (fun _ => False) (fun b => b < W.heap.size) (fun _ => none) W :=
    ⟨rfl, rfl, rfl, Nat.le_refl _, fun _ _ _ => rfl, .refl W, fun _ h => h, ⟨0, fun _ _ => rfl⟩, fun g b h _ => (by cases h), fun g b h => (by cases h)⟩
  refine ((hro xs hok (fun _ => none)).2 W (fun _ => False) _ W args hm ⟨by simpa using hlen, fun i x hx => ?_⟩).mono fun e W' hpost => ?_
  · obtain ⟨v, hv, hr⟩ := hreps i x hx
    rw [Array.getElem?_toList] at hv
    rw [Array.getD_eq_getD_getElem?, hv]
    exact hr
  · obtain ⟨v, r, bl', F', rfl, _, _, _, hm', hr, hrr, _⟩ := hpost
    subst hrr
    have hbel : Below W.heap.size W W' := ⟨hm'.os, hm'.tape, hm'.output, hm'.size, fun k hk => hm'.frame k hk (fun h => h)⟩
    cases hr
    obtain ⟨qs, hqs⟩ := stays hl hbel (fun t ht => (hty t ht).2) hA
    refine ⟨_, rfl, ds, [], _, [], qs, [], hW', ?_, ?_, ?_, hbel.frame _, fun h => by cases h⟩
    · rw [List.append_nil, hfn ds hdl, hres]
      exact trodAll_mk1 (shut_bool hb _)
    · rw [List.append_nil, hfn ds hdl]; exact hqs
    · rw [List.append_nil, hfn ds hdl, hvars]; exact rfl

end

section
variable {P : Program}
theorem co_int {t : TypeId} {k : IntKind} {cs : List V} (hu : P.underlying t = some (.int k)) (h : CO P t cs) : ∃ n, cs = [.int k n] ∧ (Lit.int k n).wf = true := by
  cases h <;> rename_i h0 <;> simp_all
theorem co_bool {t : TypeId} {cs : List V} (hu : P.underlying t = some .bool) (h : CO P t cs) : ∃ b, cs = [.bool b] := by
  cases h <;> rename_i h0 <;> simp_all
theorem co_str {t : TypeId} {cs : List V} (hu : P.underlying t = some .string) (h : CO P t cs) : ∃ s, cs = [.str s] ∧ s.size ≤ 140737488351232 := by
  cases h with
  | str s h0 hs => exact ⟨s, rfl, hs⟩
  | bool b h0 => rw [hu] at h0; cases h0
  | int n h0 => rw [hu] at h0; cases h0
  | sl xs h0 => rw [hu] at h0; cases h0
  | struct h0 => rw [hu] at h0; cases h0
theorem co_slice {t e : TypeId} {cs : List V} (hu : P.underlying t = some (.slice e)) (h : CO P t cs) : ∃ xs, cs = [.sl xs] ∧ (∀ x, x ∈ xs → CO P e x) ∧ xs.length * P.bytesOf e ≤ 140737488351232 := by
  cases h with
  | sl xs h0 hx hl => rw [hu] at h0; cases h0; exact ⟨xs, rfl, hx, hl⟩
  | bool b h0 => rw [hu] at h0; cases h0
  | int n h0 => rw [hu] at h0; cases h0
  | str s h0 => rw [hu] at h0; cases h0
  | struct h0 => rw [hu] at h0; cases h0
theorem co_struct {t : TypeId} {fs : Array Field} {cs : List V} (hu : P.underlying t = some (.struct fs)) (h : CO P t cs) :
    cs.length = P.cellsOf t ∧ ∀ f, f ∈ fs.toList → CO P f.type ((cs.drop f.offset).take (P.cellsOf f.type)) := by
  cases h with
  | sl xs h0 hx hl => rw [hu] at h0; cases h0
  | bool b h0 => rw [hu] at h0; cases h0
  | int n h0 => rw [hu] at h0; cases h0
  | str s h0 => rw [hu] at h0; cases h0
  | struct h0 hl hf => rw [hu] at h0; cases h0; exact ⟨hl, hf⟩
theorem toV_int {t : TypeId} {k : IntKind} {cs : List V} (hu : P.underlying t = some (.int k)) : toV P t cs = cs.headD .junk := by unfold toV; rw [hu]
theorem toV_bool {t : TypeId} {cs : List V} (hu : P.underlying t = some .bool) : toV P t cs = cs.headD .junk := by unfold toV; rw [hu]
theorem toV_str {t : TypeId} {cs : List V} (hu : P.underlying t = some .string) : toV P t cs = cs.headD .junk := by unfold toV; rw [hu]
theorem toV_slice {t e : TypeId} {cs : List V} (hu : P.underlying t = some (.slice e)) : toV P t cs = cs.headD .junk := by unfold toV; rw [hu]
theorem toV_struct {t : TypeId} {fs : Array Field} {cs : List V} (hu : P.underlying t = some (.struct fs)) : toV P t cs = .agg cs := by unfold toV; rw [hu]
theorem args_nil {xs : List V} (h : ArgsOk P [] xs) : xs = [] := by cases xs with | nil => rfl | cons => exact h.elim
theorem args_cons {t : TypeId} {ts : List TypeId} {xs : List V} (h : ArgsOk P (t :: ts) xs) : ∃ cs ys, xs = toV P t cs :: ys ∧ CO P t cs ∧ ArgsOk P ts ys := by
  cases xs with
  | nil => exact h.elim
  | cons x xs => obtain ⟨⟨cs, h1, rfl⟩, h2⟩ := h; exact ⟨cs, xs, rfl, h1, h2⟩
theorem wf_i64 {n : Int} (h : (Lit.int .i64 n).wf = true) : -9223372036854775808 ≤ n ∧ n ≤ 9223372036854775807 := bounds_i64 h
theorem wf_u8 {n : Int} (h : (Lit.int .u8 n).wf = true) : 0 ≤ n ∧ n ≤ 255 := bounds_u8 h
end
end Go.Proofs.Ytpkphjoobeacfaa.Vm
