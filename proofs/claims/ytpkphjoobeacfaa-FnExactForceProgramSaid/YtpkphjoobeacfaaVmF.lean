/- Soundness of the transformer: addresses, slices, structs, new slices. -/
import Derived.Test.YtpkphjoobeacfaaVmE
namespace Go.Proofs.Ytpkphjoobeacfaa.Vm
open Go Go.RowKit
set_option linter.unusedSimpArgs false
set_option linter.unusedVariables false

section
variable {P : Program} {K : St → Prop} {σ : St} {w0 : World} {M F : Nat → Prop} {a : Act} {w : World}

theorem sound_makeFunc {o : Oper} {f : Fn} {first cap : Array Operand} (ho : o.op = .makeFunc f first cap) (hT : T P o K σ) (hs : Sim w0 M F σ a w) {Q : Exit → Act → World → Prop} : o.wp P a w (Nx w0 M F K) Q := by
  unfold T at hT; rw [ho] at hT
  cases f <;> simp only at hT <;> try exact hT.elim
  rename_i f
  obtain ⟨rfl, hK⟩ := hT
  refine wp_value (v := .func (.func f) #[] (cap.map a.eval)) (w' := w) ?_ (nx_put hs (.fn f _ _ (by simp) fun i x hx => ?_) hK)
  · simp only [execOp, ho, Instr.makeFunc, Sem.run_bind, Sem.run_pure, Result.andThen_ok]; simp
  · rw [List.getElem?_map] at hx
    rcases h : cap.toList[i]? with _ | y
    · rw [h] at hx; cases hx
    · rw [h] at hx; cases hx
      rw [Array.getElem?_toList] at h
      have : (cap.map a.eval).getD i undef = a.eval y := by simp [Array.getD_eq_getD_getElem?, h]
      rw [this]; exact hs.ev y

theorem sound_extract {o : Oper} {x : Operand} {i : Nat} (ho : o.op = .extract x i) (hT : T P o K σ) (hs : Sim w0 M F σ a w) {Q : Exit → Act → World → Prop} : o.wp P a w (Nx w0 M F K) Q := by
  unfold T at hT; rw [ho] at hT
  obtain ⟨v, hv, hK⟩ := hT
  have hx := hs.ev x
  have : ∃ r, (Instr.extract (a.eval x) i).run P w = .ok r w ∧ Rep F w v r := by
    generalize σ.ev x = xv at hv hx
    generalize a.eval x = av at hx
    cases hx <;> simp only [extV] at hv <;> try (cases hv; done)
    rename_i cs arr hlen hr
    have hlt : i < arr.size := by have := (List.getElem?_eq_some_iff.1 hv).1; omega
    refine ⟨arr[i], by simp [Instr.extract, hlt], ?_⟩
    have := hr i v hv
    simpa [hlt] using this
  obtain ⟨r, hr, hrep⟩ := this
  refine wp_value (v := r) (w' := w) ?_ (nx_put hs hrep hK)
  simp only [execOp, ho, Sem.run_bind, hr, Result.andThen_ok, Sem.run_pure]

theorem fPl_some {t : TypeId} {i : Nat} {p : Nat × Nat} (h : fPl P t i = some p) : ∃ fs f, P.underlying t = some (.struct fs) ∧ fs[i]? = some f ∧ csz P f.type = some p.2 ∧ p.2 ≠ 0 ∧ p.1 = f.offset := by
  unfold fPl at h
  split at h
  · rename_i fs hfs
    split at h
    · rename_i f hf
      split at h
      · rename_i n hn
        split at h
        · cases h
        · rename_i hn0; cases h; exact ⟨fs, f, hfs, hf, hn, hn0, rfl⟩
      · cases h
    · cases h
  · cases h

theorem sound_fieldAddr {o : Oper} {t : TypeId} {x : Operand} {i : Nat} (ho : o.op = .fieldAddr t x i) (hT : T P o K σ) (hs : Sim w0 M F σ a w) {Q : Exit → Act → World → Prop} : o.wp P a w (Nx w0 M F K) Q := by
  unfold T at hT; rw [ho] at hT
  obtain ⟨v, hv, hK⟩ := hT
  have hx := hs.ev x
  have : ∃ r, (Instr.fieldAt t (a.eval x) i).run P w = .ok r w ∧ Rep F w v r := by
    generalize σ.ev x = xv at hv hx
    generalize a.eval x = av at hx
    cases hx <;> simp only [fldV] at hv <;> try (cases hv; done)
    case ptr b off cs u hF hc hr =>
      split at hv
      · rename_i p off' sz' hp
        obtain ⟨fs, f, hu, hf, hz, hz0, hoff⟩ := fPl_some hp
        cases hv
        refine ⟨.pointer (some ⟨b, off + off', none⟩), ?_, .ptr b (off + off') _ (fun j => u (off' + j)) hF (fun j y hy => ?_) (fun j y hy => ?_)⟩
        · simp only [Instr.fieldAt, Sem.run_bind, run_underlying hu, Result.andThen_ok, hf, Instr.sureAddr, Sem.run_pure, fieldPlace, run_sizeOf hz]
          rw [if_neg hz0]
          simp only [Sem.run_pure, Result.andThen_ok, add_none]
          rw [show f.offset = off' from hoff.symm]
        · rw [List.getElem?_drop] at hy
          rw [Nat.add_assoc]; exact hc _ y hy
        · rw [List.getElem?_drop] at hy
          exact hr _ y hy
      · cases hv
    case loc g sz k j =>
      split at hv
      · rename_i p off' sz' hp
        obtain ⟨fs, f, hu, hf, hz, hz0, hoff⟩ := fPl_some hp
        cases hv
        refine ⟨.pointer (some ⟨g.toNat, k * sz + (j + off'), none⟩), ?_, .loc _ _ _ _⟩
        simp only [Instr.fieldAt, Sem.run_bind, run_underlying hu, Result.andThen_ok, hf, Instr.sureAddr, Sem.run_pure, fieldPlace, run_sizeOf hz]
        rw [if_neg hz0]
        simp only [Sem.run_pure, Result.andThen_ok, add_none]
        rw [show f.offset = off' from hoff.symm, Nat.add_assoc]
      · cases hv
  obtain ⟨r, hr, hrep⟩ := this
  refine wp_value (v := r) (w' := w) ?_ (nx_put hs hrep hK)
  simp only [execOp, ho, Sem.run_bind, hr, Result.andThen_ok, Sem.run_pure]

theorem sound_field {o : Oper} {t : TypeId} {x : Operand} {i : Nat} (ho : o.op = .field t x i) (hT : T P o K σ) (hs : Sim w0 M F σ a w) {Q : Exit → Act → World → Prop} : o.wp P a w (Nx w0 M F K) Q := by
  unfold T at hT; rw [ho] at hT
  obtain ⟨v, hv, hK⟩ := hT
  have hx := hs.ev x
  have : ∃ r, (Instr.field t (a.eval x) i).run P w = .ok r w ∧ Rep F w v r := by
    generalize σ.ev x = xv at hv hx
    generalize a.eval x = av at hx
    cases hx <;> simp only [fieldV] at hv <;> try (cases hv; done)
    rename_i cs arr hlen hr
    split at hv
    · rename_i off _ ft hp hft
      obtain ⟨fs, f, hu, hf, hz, hz0, hoff⟩ := fPl_some hp
      unfold fTy at hft
      rw [hu] at hft
      simp only [hf] at hft
      cases hft
      obtain ⟨r, h1, h2⟩ := run_part (w := w) hlen hr hv
      refine ⟨r, ?_, h2⟩
      simp only [Instr.field, Sem.run_bind, run_underlying hu, Result.andThen_ok, hf, asAgg, Sem.run_pure]
      rw [show f.offset = off from hoff.symm]; exact h1
    · cases hv
  obtain ⟨r, hr, hrep⟩ := this
  refine wp_value (v := r) (w' := w) ?_ (nx_put hs hrep hK)
  simp only [execOp, ho, Sem.run_bind, hr, Result.andThen_ok, Sem.run_pure]

theorem sound_indexAddr {o : Oper} {t : TypeId} {x i : Operand} (ho : o.op = .indexAddr t x i) (hT : T P o K σ) (hs : Sim w0 M F σ a w) {Q : Exit → Act → World → Prop} : o.wp P a w (Nx w0 M F K) Q := by
  unfold T at hT; rw [ho] at hT
  obtain ⟨v, hv, hK⟩ := hT
  have hx := hs.ev x
  have hi := hs.ev i
  have run : ∀ {e : TypeId} {sz n len cap : Nat} {b off : Nat} {k : IntKind}, P.underlying t = some (.slice e) → csz P e = some sz → n < len →
      (Instr.indexAt t (.slice (some ⟨b, off, none⟩) len cap) (.int k n)).run P w = .ok (.pointer (some ⟨b, off + n * sz, none⟩)) w := by
    intro e sz n len cap b off k hu hz hn
    have h1 : (0 : Int) ≤ (n : Int) ∧ (n : Int) < (len : Int) := by omega
    simp only [Instr.indexAt, asIntOf, Sem.run_bind, Sem.run_pure, Result.andThen_ok, run_underlying hu]
    simp only [h1, and_self, if_true, Sem.run_bind, run_sizeOf hz, Result.andThen_ok, Sem.run_pure, Int.toNat_natCast, add_none]
  have : ∃ r, (Instr.indexAt t (a.eval x) (a.eval i)).run P w = .ok r w ∧ Rep F w v r := by
    generalize σ.ev x = xv at hv hx
    generalize a.eval x = av at hx
    generalize σ.ev i = iv at hv hi
    generalize a.eval i = bv at hi
    cases hx <;> cases hi <;> simp only [idxV] at hv <;> try (cases hv; done)
    case sl0.int ad cap ha k n =>
      split at hv
      · split at hv
        · simp at hv
        · cases hv
      · cases hv
    case sl.int b off cap sz xs u hF hle hcap hsz hc hr k n =>
      split at hv
      · rename_i e he
        split at hv
        · rename_i hn0
          split at hv
          · rename_i c hxs
            split at hv
            · rename_i hcz
              cases hv
              have hlt := (List.getElem?_eq_some_iff.1 hxs).1
              have hcl := hsz c (List.mem_of_getElem? hxs)
              rw [hcl] at hcz
              obtain ⟨m, rfl⟩ := Int.eq_ofNat_of_zero_le hn0
              simp only [Int.toNat_natCast] at hxs hlt
              refine ⟨_, run (slE_some he) hcz hlt, .ptr b (off + m * sz) c (fun j => u m j) hF (fun j y hy => hc m c j y hxs hy) (fun j y hy => hr m c j y hxs hy)⟩
            · cases hv
          · cases hv
        · cases hv
      · cases hv
    case lsl.int g sz off n cap hg hle hcap hb k m =>
      split at hv
      · rename_i e he
        split at hv
        · rename_i hcond
          cases hv
          obtain ⟨h0, h1, h2⟩ := hcond
          obtain ⟨m, rfl⟩ := Int.eq_ofNat_of_zero_le h0
          refine ⟨_, run (slE_some he) h2 (by omega), ?_⟩
          have := Rep.loc (F := F) (w := w) g sz (off + m) 0
          simpa [Nat.add_mul] using this
        · cases hv
      · cases hv
    case lsln.int g sz hg k m =>
      split at hv
      · split at hv
        · rename_i hcond; omega
        · cases hv
      · cases hv
  obtain ⟨r, hr, hrep⟩ := this
  refine wp_value (v := r) (w' := w) ?_ (nx_put hs hrep hK)
  simp only [execOp, ho, Sem.run_bind, hr, Result.andThen_ok, Sem.run_pure]

theorem sound_index {o : Oper} {t : TypeId} {x i : Operand} (ho : o.op = .index t x i) (hT : T P o K σ) (hs : Sim w0 M F σ a w) {Q : Exit → Act → World → Prop} : o.wp P a w (Nx w0 M F K) Q := by
  unfold T at hT; rw [ho] at hT
  obtain ⟨v, hv, hK⟩ := hT
  have hx := hs.ev x
  have hi := hs.ev i
  have : ∃ r, (Instr.index t (a.eval x) (a.eval i)).run P w = .ok r w ∧ Rep F w v r := by
    generalize σ.ev x = xv at hv hx
    generalize a.eval x = av at hx
    generalize σ.ev i = iv at hv hi
    generalize a.eval i = bv at hi
    cases hx <;> cases hi <;> simp only [idsV] at hv <;> try (cases hv; done)
    split at hv
    · rename_i hst
      split at hv
      · rename_i hn0
        split at hv
        · rename_i c hc
          cases hv
          refine ⟨.int .u8 c.toNat, ?_, .int _ _⟩
          simp only [Instr.index, asIntOf, Sem.run_bind, Sem.run_pure, Result.andThen_ok, run_underlying (isStr_some hst)]
          simp only [hn0, if_true, hc, Sem.run_pure]
        · cases hv
      · cases hv
    · cases hv
  obtain ⟨r, hr, hrep⟩ := this
  refine wp_value (v := r) (w' := w) ?_ (nx_put hs hrep hK)
  simp only [execOp, ho, Sem.run_bind, hr, Result.andThen_ok, Sem.run_pure]

theorem arr1 {α : Type} {xs : Array α} (h : xs.size = 1) : ∃ x, xs = #[x] := by
  obtain ⟨l⟩ := xs
  match l, h with
  | [x], _ => exact ⟨x, rfl⟩
theorem arr2 {α : Type} {xs : Array α} (h : xs.size = 2) : ∃ x y, xs = #[x, y] := by
  obtain ⟨l⟩ := xs
  match l, h with
  | [x, y], _ => exact ⟨x, y, rfl⟩

theorem sound_len {o : Oper} {c : Call} (ho : o.op = .call c) (hc : c.callee = .builtin .len) (hT : T P o K σ) (hs : Sim w0 M F σ a w) {Q : Exit → Act → World → Prop} : o.wp P a w (Nx w0 M F K) Q := by
  unfold T at hT; rw [ho] at hT
  simp only [hc] at hT
  obtain ⟨v, hv, h1, h2, hK⟩ := hT
  obtain ⟨x, hx1⟩ := arr1 h1
  obtain ⟨t, ht1⟩ := arr1 h2
  rw [hx1, ht1] at hv
  have hv' : lenV P t (σ.ev x) = some v := hv
  have hx := hs.ev x
  have : ∃ r, (Builtin.len_ #[t] o.type #[a.eval x]).run P w = .ok r w ∧ Rep F w v r := by
    generalize σ.ev x = xv at hv' hx
    generalize a.eval x = av at hx
    clear hv
    cases hx <;> simp only [lenV] at hv' <;> try (cases hv'; done)
    case str s =>
      split at hv' <;> cases hv'
      rename_i hst
      exact ⟨_, by simp [Builtin.len_, run_underlying (isStr_some hst), goInt], .int _ _⟩
    all_goals
      split at hv' <;> cases hv'
      rename_i e he
      refine ⟨_, ?_, .int _ _⟩
      simp only [Builtin.len_, List.getElem?_toArray, List.getElem?_cons_zero, Sem.run_bind, run_underlying (slE_some he), Result.andThen_ok, goInt, Sem.run_pure]
      try rfl
  obtain ⟨r, hr, hrep⟩ := this
  refine wp_value (v := r) (w' := w) ?_ (nx_put hs hrep hK)
  simp only [execOp, ho, resolve, hc, Sem.run_bind, Sem.run_pure, Result.andThen_ok, invoke, builtin, hx1, ht1, List.map_toArray, List.map_cons, List.map_nil, hr]

end
end Go.Proofs.Ytpkphjoobeacfaa.Vm
