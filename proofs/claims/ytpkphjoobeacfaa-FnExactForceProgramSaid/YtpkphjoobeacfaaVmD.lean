/- Soundness of the transformer: the operations that neither call nor append. -/
import Derived.Test.YtpkphjoobeacfaaVmC
namespace Go.Proofs.Ytpkphjoobeacfaa.Vm
open Go Go.RowKit

section types
variable {P : Program} {w : World} {t : TypeId}
theorem slE_some {e : TypeId} (h : slE P t = some e) : P.underlying t = some (.slice e) := by
  unfold slE at h; split at h <;> simp_all
theorem isStr_some (h : isStr P t = true) : P.underlying t = some .string := by
  unfold isStr at h; split at h <;> simp_all
theorem isInt_some {k : IntKind} (h : isInt P t = some k) : P.underlying t = some (.int k) := by
  unfold isInt at h; split at h <;> simp_all
theorem isPtr_some (h : isPtr P t = true) : ∃ e, P.underlying t = some (.pointer e) := by
  unfold isPtr at h; split at h <;> simp_all
theorem run_underlying {d : TypeDesc} (h : P.underlying t = some d) : (underlying t).run P w = .ok d w := by simp [underlying, h]
theorem run_sizeOf {n : Nat} (h : csz P t = some n) : (sizeOf t).run P w = .ok n w := by
  unfold csz at h; split at h
  · rename_i i hi; simp at h; simp [sizeOf, typeInfo, hi, h]
  · cases h
theorem run_isAgg {b : Bool} (h : aggT P t = some b) : (isAgg t).run P w = .ok b w := by
  unfold aggT at h
  split at h <;> simp at h <;> subst h <;> simp [isAgg, underlying, *]
theorem csz_cellsOf {n : Nat} (h : csz P t = some n) : P.cellsOf t = n := by
  unfold csz at h; split at h
  · rename_i i hi; simp at h; simp [Program.cellsOf, hi, h]
  · cases h
theorem zeroC_some {cs : List V} (h : zeroC P t = some cs) : ∃ i z, P.info? t = some i ∧ i.zero = some z ∧ cs = z.cells.toList.map ofCell ∧ cs.all V.one = true ∧ cs.length = i.size := by
  unfold zeroC at h
  split at h
  · rename_i i hi
    split at h
    · rename_i z hz
      split at h
      · rename_i hc
        simp only [Option.some.injEq] at h
        subst h
        simp only [Bool.and_eq_true, beq_iff_eq] at hc
        exact ⟨i, z, hi, hz, rfl, hc.1, hc.2⟩
      · cases h
    · cases h
  · cases h
theorem run_zeroValue {i : TypeInfo} {z : Value} (hi : P.info? t = some i) (hz : i.zero = some z) : (zeroValue t).run P w = .ok z w := by simp [zeroValue, typeInfo, hi, hz]
theorem run_newRow {e : TypeId} {cs : Array Value} : (newRow e cs).run P w = .ok ⟨w.heap.size, 0, none⟩ (w.alloc (.cells cs e)) := rfl
end types

/-- What the next operation is handed. -/
def Nx (w0 : World) (M F : Nat → Prop) (K : St → Prop) : Act → World → Prop := fun a' w' => ∃ σ' F', (∀ b, F b → F' b) ∧ Sim w0 M F' σ' a' w' ∧ K σ'

theorem wp_value {P : Program} {o : Oper} {a : Act} {w w' : World} {v : Value} {next : Act → World → Prop} {Q : Exit → Act → World → Prop} (hr : (execOp a.eval o).run P w = .ok (.value v) w')
    (h : next (a.put o.dst v) w') : o.wp P a w next Q := by
  unfold Oper.wp; rw [hr]; exact h
theorem wp_skipv {P : Program} {o : Oper} {a : Act} {w w' : World} {next : Act → World → Prop} {Q : Exit → Act → World → Prop} (hr : (execOp a.eval o).run P w = .ok .skip w')
    (h : next (a.put o.dst undef) w') : o.wp P a w next Q := by
  unfold Oper.wp; rw [hr]; exact h

section
variable {P : Program} {K : St → Prop} {σ : St} {w0 : World} {M F : Nat → Prop} {a : Act} {w : World}

theorem nx_put (hs : Sim w0 M F σ a w) {d : Option Nat} {x : V} {v : Value} (hv : Rep F w x v) (hK : K (σ.put d x)) : Nx w0 M F K (a.put d v) w :=
  ⟨_, F, fun _ h => h, hs.put hv, hK⟩

theorem repeatRep {w : World} {cs : List V} {z : Value} (hz : cs = z.cells.toList.map ofCell) (i : Nat) (x : V) (hx : cs[i]? = some x) : ∃ v, z.cells.toList[i]? = some v ∧ Rep F w x v := by
  subst hz
  rw [List.getElem?_map] at hx
  rcases h : z.cells.toList[i]? with _ | y
  · rw [h] at hx; cases hx
  · rw [h] at hx; cases hx
    exact ⟨y, rfl, rep_ofCell _ _ _⟩

/-- A new block whose one element is these cells. -/
theorem nx_box (hs : Sim w0 M F σ a w) {d : Option Nat} (c : Array Value) (t : TypeId) (cs : List V) (hone : cs.all V.one = true) (hlen : c.size = cs.length)
    (hr : ∀ (j : Nat) (x : V), cs[j]? = some x → ∃ v, c[j]? = some v ∧ Rep F w x v)
    (hK : ∀ g : Int, 0 ≤ g → σ.bl g = none → K (({ σ with bl := upd σ.bl g (some ⟨cs.length, [cs]⟩) } : St).put d (.loc g cs.length 0 0))) :
    Nx w0 M F K (a.put d (.pointer (some ⟨w.heap.size, 0, none⟩))) (w.alloc (.cells c t)) := by
  obtain ⟨hn, hm⟩ := hs.mem.alloc c t cs.length [cs] (by simp [hlen]) (fun k e he => by
    have hk : k = 0 := by have := (List.getElem?_eq_some_iff.1 he).1; simp at this; omega
    subst hk
    simp at he
    subst he
    refine ⟨rfl, fun j x hx => ⟨List.all_eq_true.1 hone _ (List.mem_of_getElem? hx), ?_⟩⟩
    obtain ⟨v, h1, h2⟩ := hr j x hx
    exact ⟨v, by simpa using h1, h2⟩)
  have hsame : ∀ k, k < w.heap.size → (w.alloc (.cells c t)).heap[k]? = w.heap[k]? := fun k hk => Below.heap_alloc _ _ _ hk
  have hs' : Sim w0 M F ({ σ with bl := upd σ.bl (w.heap.size : Int) (some ⟨cs.length, [cs]⟩) } : St) a (w.alloc (.cells c t)) :=
    ⟨hm, hs.size, fun t ht => (hs.sl t ht).mono (fun _ h => h) (fun k hk => hsame k (hs.mem.fr k hk)) (.of_same hsame), hs.defers⟩
  refine ⟨_, F, fun _ h => h, hs'.put ?_, hK _ (by omega) hn⟩
  have := Rep.loc (F := F) (w := w.alloc (.cells c t)) (w.heap.size : Int) cs.length 0 0
  simpa using this

theorem sound_alloc {o : Oper} {t : TypeId} (ho : o.op = .alloc t) (hT : T P o K σ) (hs : Sim w0 M F σ a w) {Q : Exit → Act → World → Prop} : o.wp P a w (Nx w0 M F K) Q := by
  unfold T at hT; rw [ho] at hT
  obtain ⟨cs, hz, hK⟩ := hT
  obtain ⟨i, z, hi, hzz, hcs, hone, hlen⟩ := zeroC_some hz
  refine wp_value (v := .pointer (some ⟨w.heap.size, 0, none⟩)) (w' := w.alloc (.cells z.cells t)) ?_ (nx_box hs z.cells t cs hone (by rw [hcs]; simp) (fun j x hx => ?_) hK)
  · simp only [execOp, ho, Instr.alloc, Sem.run_bind, run_zeroValue hi hzz, Result.andThen_ok, newVar, run_newRow, Sem.run_pure]
  · obtain ⟨v, h1, h2⟩ := repeatRep (F := F) (w := w) hcs j x hx
    exact ⟨v, by simpa using h1, h2⟩

theorem sound_box {o : Oper} {t : TypeId} {x : Operand} (ho : o.op = .box t x) (hT : T P o K σ) (hs : Sim w0 M F σ a w) {Q : Exit → Act → World → Prop} : o.wp P a w (Nx w0 M F K) Q := by
  unfold T at hT; rw [ho] at hT
  obtain ⟨hone, hK⟩ := hT
  obtain ⟨h1, h2, h3⟩ := (hs.ev x).cells hone
  refine wp_value (v := .pointer (some ⟨w.heap.size, 0, none⟩)) (w' := w.alloc (.cells (a.eval x).cells t)) ?_ (nx_box hs _ t _ hone (by simpa using h1) (fun j y hy => ?_) hK)
  · simp only [execOp, ho, Instr.box, Sem.run_bind, newVar, run_newRow, Result.andThen_ok, Sem.run_pure]
  · obtain ⟨u, h4, h5⟩ := h2 j y hy
    exact ⟨u, by simpa using h4, h5⟩

theorem run_loadVar {t : TypeId} {b o : Nat} {cs : List V} {v : V} (u : Nat → Value) (hc : ∀ i x, cs[i]? = some x → w.cell? ⟨b, o + i, none⟩ = some (u i) ∧ Rep F w x (u i)) (hv : loadV P t cs = some v) :
    ∃ r, (loadVar t ⟨b, o, none⟩).run P w = .ok r w ∧ Rep F w v r := by
  unfold loadV at hv
  split at hv
  · rename_i n ha hn
    split at hv
    · rename_i hle
      simp only [Option.some.injEq] at hv
      subst hv
      have hget : ∀ j, j < n → w.cell? ⟨b, o + (0 + j), none⟩ = some (u (0 + j)) := fun j hj => by
        have := (hc j (cs[j]'(by omega)) (List.getElem?_eq_getElem (by omega))).1
        simpa using this
      refine ⟨.agg ((List.range n).map fun j => u (0 + j)).toArray, ?_, .agg _ _ (by simp; omega) fun i x hx => ?_⟩
      · simp only [loadVar, Sem.run_bind, run_isAgg ha, Result.andThen_ok, if_true, run_sizeOf hn, loadCells, run_loadCellsFrom u n 0 #[] hget, Sem.run_pure]
        simp
      · have hi : i < n := by have := (List.getElem?_eq_some_iff.1 hx).1; simp at this; omega
        have hx' : cs[i]? = some x := by rw [List.getElem?_take_of_lt hi] at hx; exact hx
        have := (hc i x hx').2
        simpa [hi] using this
    · cases hv
  · rename_i ha
    have h0 : cs[0]? = some v := by rw [← hv]; cases cs <;> rfl
    obtain ⟨h1, h2⟩ := hc 0 v h0
    refine ⟨u 0, ?_, h2⟩
    simp only [loadVar, Sem.run_bind, run_isAgg ha, Result.andThen_ok]
    exact run_load_cell h1
  · cases hv

/-- The cells behind a pointer. -/
theorem rdP_cells (hm : Mem w0 M F σ.bl w) {x : V} {v : Value} (hv : Rep F w x v) {cs : List V} (h : rdP σ.bl x = some cs) :
    cs = [] ∨ ∃ (b o : Nat) (u : Nat → Value), v = .pointer (some ⟨b, o, none⟩) ∧ ∀ i y, cs[i]? = some y → w.cell? ⟨b, o + i, none⟩ = some (u i) ∧ Rep F w y (u i) := by
  cases hv <;> simp only [rdP] at h <;> try (cases h; done)
  case ptr b o cs' u hF hc hr =>
    cases h
    exact .inr ⟨b, o, u, rfl, fun i y hy => ⟨hc i y hy, hr i y hy⟩⟩
  case loc g sz k j =>
    split at h
    · rename_i b hb
      split at h
      · rename_i hsz
        split at h
        · rename_i e he
          simp only [Option.some.injEq] at h
          subst h hsz
          have hkl := (List.getElem?_eq_some_iff.1 he).1
          obtain ⟨hg0, hFg, c, t, hc, hlen, hcell⟩ := (hm.blk g b hb).at hkl
          refine .inr ⟨g.toNat, k * b.sz + j, fun i => c.getD (k * b.sz + j + i) undef, rfl, fun i y hy => ?_⟩
          rw [List.getElem?_drop] at hy
          obtain ⟨_, v, hv, hr⟩ := (hcell k e he).2 (j + i) y hy
          rw [cell_of_block hc]
          have hv' : c[k * b.sz + j + i]? = some v := by rw [Nat.add_assoc]; exact hv
          have : c.getD (k * b.sz + j + i) undef = v := by simp [Array.getD_eq_getD_getElem?, hv']
          refine ⟨?_, ?_⟩
          · show c[k * b.sz + j + i]? = some (c.getD (k * b.sz + j + i) undef)
            rw [hv', this]
          · show Rep F w y (c.getD (k * b.sz + j + i) undef)
            rw [this]; exact hr
        · cases h
      · cases h
    · cases h

theorem sound_load {o : Oper} {t : TypeId} {x : Operand} (ho : o.op = .load t x) (hT : T P o K σ) (hs : Sim w0 M F σ a w) {Q : Exit → Act → World → Prop} : o.wp P a w (Nx w0 M F K) Q := by
  unfold T at hT; rw [ho] at hT
  obtain ⟨cs, hcs, v, hv, hK⟩ := hT
  have hx := hs.ev x
  rcases rdP_cells hs.mem hx hcs with rfl | ⟨b, off, u, he, hc⟩
  · -- nothing is read: a struct without cells
    cases hxe : σ.ev x with
    | ptr cs' =>
      rw [hxe] at hcs hx
      generalize hav : a.eval x = av at hx
      cases hx
      rename_i b off u hF hc hr
      obtain ⟨r, hrun, hrep⟩ := run_loadVar (F := F) (w := w) (P := P) (b := b) (o := off) (cs := []) u (fun i y hy => by cases hy) hv
      refine wp_value (v := r) (w' := w) ?_ (nx_put hs hrep hK)
      simp only [execOp, ho, hav, Instr.loadAt, Instr.sureAddr, Sem.run_bind, Sem.run_pure, Result.andThen_ok, hrun]
    | loc g sz k j =>
      rw [hxe] at hcs hx
      generalize hav : a.eval x = av at hx
      cases hx
      obtain ⟨r, hrun, hrep⟩ := run_loadVar (F := F) (w := w) (P := P) (b := g.toNat) (o := k * sz + j) (cs := []) (fun _ => undef) (fun i y hy => by cases hy) hv
      refine wp_value (v := r) (w' := w) ?_ (nx_put hs hrep hK)
      simp only [execOp, ho, hav, Instr.loadAt, Instr.sureAddr, Sem.run_bind, Sem.run_pure, Result.andThen_ok, hrun]
    | _ => rw [hxe] at hcs; cases hcs
  · obtain ⟨r, hrun, hrep⟩ := run_loadVar (P := P) u hc hv
    refine wp_value (v := r) (w' := w) ?_ (nx_put hs hrep hK)
    simp only [execOp, ho, he, Instr.loadAt, Instr.sureAddr, Sem.run_bind, Sem.run_pure, Result.andThen_ok, hrun]

theorem sound_store {o : Oper} {t : TypeId} {x y : Operand} (ho : o.op = .store t x y) (hT : T P o K σ) (hs : Sim w0 M F σ a w) {Q : Exit → Act → World → Prop} : o.wp P a w (Nx w0 M F K) Q := by
  unfold T at hT; rw [ho] at hT
  simp only at hT
  split at hT
  · rename_i g sz k j hxe
    obtain ⟨b, hb, e, he, hsz, hcz, hj, hone, hK⟩ := hT
    subst hsz
    have hx := hs.ev x
    rw [hxe] at hx
    generalize hav : a.eval x = av at hx
    cases hx
    obtain ⟨h1, h2, h3⟩ := (hs.ev y).cells hone
    obtain ⟨w', hrun, hm, hFs, hsh⟩ := hs.mem.store (P := P) hb he hj (fun z hz => List.all_eq_true.1 hone z hz) h1 h2 h3
    have hs' : Sim w0 M F ({ σ with bl := upd σ.bl g (some ⟨b.sz, b.els.set k (splice e j (σ.ev y).cells)⟩) } : St) a w' := ⟨hm, hs.size, fun t ht => (hs.sl t ht).mono (fun _ h => h) hFs hsh, hs.defers⟩
    refine wp_skipv (w' := w') ?_ ⟨_, F, fun _ h => h, hs'.put (v := undef) (.junk _), hK⟩
    have hsz' : (a.eval y).cells.size = (σ.ev y).cells.length := by simpa using h1
    simp only [execOp, ho, hav, Instr.storeAt, Instr.sureAddr, storeVar, Sem.run_bind, Sem.run_pure, Result.andThen_ok, run_sizeOf hcz, hsz', ne_eq, not_true, if_false, hrun]
  · exact hT.elim

theorem rep_int {x : V} {v : Value} (h : Rep F w x v) {k : IntKind} {n : Int} (hx : x = .int k n) : v = .int k n := by subst hx; cases h; rfl
theorem rep_bool {x : V} {v : Value} (h : Rep F w x v) {b : Bool} (hx : x = .bool b) : v = .bool b := by subst hx; cases h; rfl
theorem rep_str {x : V} {v : Value} (h : Rep F w x v) {s : ByteArray} (hx : x = .str s) : v = .string s := by subst hx; cases h; rfl

theorem rep_pick {t : Bool} {x y : V} {u v : Value} (hx : t = true → Rep F w x u) (hy : t = false → Rep F w y v) : Rep F w (pickV t x y) (if t then u else v) := by
  unfold pickV
  split
  · cases t
    · have := hy rfl; cases this; exact .bool _
    · have := hx rfl; cases this; exact .bool _
  · cases t
    · exact hy rfl
    · exact hx rfl

theorem sound_pick {o : Oper} {c x y : Operand} (ho : o.op = .pick c x y) (hT : T P o K σ) (hs : Sim w0 M F σ a w) {Q : Exit → Act → World → Prop} : o.wp P a w (Nx w0 M F K) Q := by
  unfold T at hT; rw [ho] at hT
  obtain ⟨t, ht, hK⟩ := onB_some hT
  have hc := rep_bool (hs.ev c) ht
  refine wp_value (v := if t then a.eval x else a.eval y) (w' := w) ?_ (nx_put hs (rep_pick (fun _ => hs.ev x) (fun _ => hs.ev y)) hK)
  simp only [execOp, ho, hc, asBool, Sem.run_bind, Sem.run_pure, Result.andThen_ok]

end
end Go.Proofs.Ytpkphjoobeacfaa.Vm
