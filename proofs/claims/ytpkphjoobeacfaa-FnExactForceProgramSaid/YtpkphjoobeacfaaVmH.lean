/- Soundness of the transformer: slice literals, slicing, append, calls; the whole. -/
import Derived.Test.YtpkphjoobeacfaaVmG
import Derived.Laws.Slices
namespace Go.Proofs.Ytpkphjoobeacfaa.Vm
open Go Go.RowKit
set_option linter.unusedSimpArgs false
set_option linter.unusedVariables false

section
variable {P : Program} {K : St → Prop} {σ : St} {w0 : World} {M F : Nat → Prop} {a : Act} {w : World}

theorem sound_buildSlice {o : Oper} {t : TypeId} {n : Nat} {ps : Array (Nat × Operand)} (ho : o.op = .buildSlice t n ps) (hT : T P o K σ) (hs : Sim w0 M F σ a w) {Q : Exit → Act → World → Prop} : o.wp P a w (Nx w0 M F K) Q := by
  unfold T at hT; rw [ho] at hT
  obtain ⟨e, he, cs, hz, h1c, h24, r, hr, hK⟩ := hT
  obtain ⟨i, z, hi, hzz, hcs, hone, hlen⟩ := zeroC_some hz
  have hsz : csz P e = some cs.length := by simp [csz, hi, hlen]
  have hzsz : z.cells.size = cs.length := by rw [hcs]; simp
  obtain ⟨arr', e1, e2⟩ := fill_sound _ _ _ _ _ r (zeros_repA (F := F) (w := w) hcs hone n) (by simp) (fun j u v hu hv => parts_rep hs ps j u v hu hv) hr
  have hrl : r.length = n * cs.length := by
    have key : ∀ (us : List (Nat × V)) (pl : Nat → Option (Nat × Nat)) (c r : List V), fillV pl c us = some r → r.length = c.length := by
      intro us pl
      induction us with
      | nil => intro c r h; cases h; rfl
      | cons u us ih =>
        intro c r h
        obtain ⟨j, x⟩ := u
        simp only [fillV] at h
        split at h
        · split at h
          · rw [ih _ _ h, splice_length]
          · cases h
        · cases h
    rw [key _ _ _ _ hr]
    simp
  refine wp_value (v := .slice (some ⟨w.heap.size, 0, none⟩) n n) (w' := w.alloc (.cells arr' e)) ?_ (nx_row hs arr' e cs.length n _ (by simp) ?_ (by rw [e2.1, hrl]; omega) (fun k e' he' => ?_) hK)
  · have h24' : ¬ (n * cs.length > 2 ^ 24) := by omega
    simp only [execOp, ho, Instr.buildSlice, Sem.run_bind, run_underlying (slE_some he), Result.andThen_ok, run_sizeOf hsz]
    rw [if_neg h24']
    simp only [Sem.run_bind, Sem.run_pure, Result.andThen_ok]
    by_cases h0 : n * cs.length = 0
    · rw [if_pos h0]
      have hn0 : n = 0 := by
        rcases Nat.mul_eq_zero.1 h0 with h | h
        · exact h
        · omega
      subst hn0
      simp only [Nat.zero_mul] at e1 ⊢
      have em : ∀ f : Nat → Value, (Array.range 0).map f = #[] := fun f => Array.eq_empty_of_size_eq_zero (by simp)
      rw [em] at e1
      simp only [pure_bind, em, e1, Sem.run_bind, run_newRow, Result.andThen_ok, Sem.run_pure]
    · rw [if_neg h0]
      simp only [Sem.run_bind, run_zeroValue hi hzz, Result.andThen_ok, Sem.run_pure]
      rw [e1]
      simp only [Sem.run_bind, run_newRow, Result.andThen_ok, Sem.run_pure]
  · have : n ≤ n * cs.length := Nat.le_mul_of_pos_right _ (by omega)
    simp only [maxLen]; omega
  · rw [List.getElem?_map] at he'
    rcases h : (List.range n)[k]? with _ | k'
    · rw [h] at he'; cases he'
    · rw [h] at he'; cases he'
      have hk : k < n := by have := (List.getElem?_eq_some_iff.1 h).1; simpa using this
      have hk' : k' = k := by rw [List.getElem?_range hk] at h; cases h; rfl
      subst hk'
      have hkl : (k' + 1) * cs.length ≤ n * cs.length := Nat.mul_le_mul_right _ hk
      rw [Nat.add_mul] at hkl
      refine ⟨by simp; omega, fun j x hx => ?_⟩
      have hj : j < cs.length := by have := (List.getElem?_eq_some_iff.1 hx).1; simp at this; omega
      rw [List.getElem?_take_of_lt hj, List.getElem?_drop] at hx
      exact e2.2 _ x hx

theorem run_bounds {b : Bool} {len cap : Nat} {lo hi : Option Value} {l h : Int} (hlo : (lo = none ∧ l = 0) ∨ ∃ k, lo = some (.int k l)) (hhi : (hi = none ∧ h = len) ∨ ∃ k, hi = some (.int k h))
    (h0 : 0 ≤ l) (h1 : l ≤ h) (h2 : h ≤ len) (h3 : len ≤ cap) : (Instr.sliceBounds b len cap lo hi none).run P w = .ok (l.toNat, h.toNat, cap) w := by
  have h4 : 0 ≤ h := by omega
  have h5 : h ≤ cap := by omega
  have eh : (h.toNat : Int) = h := Int.toNat_of_nonneg h4
  rcases hlo with ⟨rfl, rfl⟩ | ⟨k, rfl⟩ <;> rcases hhi with ⟨rfl, rfl⟩ | ⟨k', rfl⟩ <;>
    simp [Instr.sliceBounds, run_sliceBound, eh, h0, h1, h2, h4, h5]

/-- The bounds of a slicing, as the values say them. -/
def loI : Option V → Option Int | none => some 0 | some (.int _ n) => some n | _ => none
def hiI (len : Nat) : Option V → Option Int | none => some (len : Int) | some (.int _ n) => some n | _ => none

theorem lo_rep {lo : Option Operand} (hs : Sim w0 M F σ a w) {l : Int} (h : loI (lo.map σ.ev) = some l) : (lo.map a.eval = none ∧ l = 0) ∨ ∃ k, lo.map a.eval = some (.int k l) := by
  cases lo with
  | none => cases h; exact .inl ⟨rfl, rfl⟩
  | some x =>
    have hx := hs.ev x
    simp only [Option.map_some] at h ⊢
    generalize σ.ev x = xv at h hx
    generalize a.eval x = av at hx
    cases hx <;> simp only [loI] at h <;> try (cases h; done)
    cases h
    exact .inr ⟨_, rfl⟩
theorem hi_rep {hi : Option Operand} (hs : Sim w0 M F σ a w) {len : Nat} {l : Int} (h : hiI len (hi.map σ.ev) = some l) : (hi.map a.eval = none ∧ l = len) ∨ ∃ k, hi.map a.eval = some (.int k l) := by
  cases hi with
  | none => cases h; exact .inl ⟨rfl, rfl⟩
  | some x =>
    have hx := hs.ev x
    simp only [Option.map_some] at h ⊢
    generalize σ.ev x = xv at h hx
    generalize a.eval x = av at hx
    cases hx <;> simp only [hiI] at h <;> try (cases h; done)
    cases h
    exact .inr ⟨_, rfl⟩

theorem sound_slice {o : Oper} {t : TypeId} {x : Operand} {lo hi mx : Option Operand} (ho : o.op = .slice t x lo hi mx) (hT : T P o K σ) (hs : Sim w0 M F σ a w) {Q : Exit → Act → World → Prop} : o.wp P a w (Nx w0 M F K) Q := by
  unfold T at hT; rw [ho] at hT
  cases mx with
  | some _ => exact hT.elim
  | none =>
  obtain ⟨v, hv, hK⟩ := hT
  have hx := hs.ev x
  have : ∃ r, (Instr.sliceAt t (a.eval x) (lo.map a.eval) (hi.map a.eval) none).run P w = .ok r w ∧ Rep F w v r := by
    generalize σ.ev x = xv at hv hx
    generalize a.eval x = av at hx
    have hsl : ∀ {e sz len cap l h : Nat} {ad : Option Addr}, P.underlying t = some (.slice e) → csz P e = some sz → (Instr.sliceBounds true len cap (lo.map a.eval) (hi.map a.eval) none).run P w = .ok (l, h, cap) w →
        (Instr.sliceAt t (.slice ad len cap) (lo.map a.eval) (hi.map a.eval) none).run P w = .ok (.slice (if cap = l then ad else ad.map (·.add (l * sz))) (h - l) (cap - l)) w := by
      intro e sz len cap l h ad hu hz hb
      simp only [Instr.sliceAt, Sem.run_bind, run_underlying hu, Result.andThen_ok, Instr.slice, hb, run_sizeOf hz, Sem.run_pure]
    cases hx <;> simp only [sliV] at hv <;> try (cases hv; done)
    case str s =>
      split at hv
      · rename_i hst
        change (match loI (lo.map σ.ev), hiI s.size (hi.map σ.ev) with | some l, some h => if 0 ≤ l ∧ l ≤ h ∧ h ≤ s.size then some (V.str (s.extract l.toNat h.toNat)) else none | _, _ => none) = some v at hv
        split at hv
        · rename_i l h hl hh
          split at hv
          · rename_i hc
            cases hv
            refine ⟨.string (s.extract l.toNat h.toNat), ?_, .str _⟩
            have hb := run_bounds (P := P) (w := w) (b := false) (lo_rep hs hl) (hi_rep hs hh) hc.1 hc.2.1 hc.2.2 (Nat.le_refl _)
            simp only [Instr.sliceAt, Sem.run_bind, run_underlying (isStr_some hst), Result.andThen_ok, Instr.slice]
            rw [if_neg (by simp)]
            simp only [Sem.run_bind, hb, Result.andThen_ok, Sem.run_pure]
          · cases hv
        · cases hv
      · cases hv
    case sl0 ad cap ha =>
      split at hv
      · rename_i e he
        split at hv
        · rename_i hall
          simp only [List.all_nil, Bool.true_and] at hall
          obtain ⟨sz, hsz⟩ := Option.isSome_iff_exists.1 hall
          change (match loI (lo.map σ.ev), hiI 0 (hi.map σ.ev) with | some l, some h => if 0 ≤ l ∧ l ≤ h ∧ h ≤ ((0 : Nat) : Int) then some (V.sl ((([] : List (List V)).take h.toNat).drop l.toNat)) else none | _, _ => none) = some v at hv
          split at hv
          · rename_i l h hl hh
            split at hv
            · rename_i hc
              cases hv
              have hb := run_bounds (P := P) (w := w) (b := true) (lo_rep hs hl) (hi_rep hs hh) hc.1 hc.2.1 hc.2.2 (Nat.zero_le cap)
              refine ⟨_, hsl (slE_some he) hsz hb, ?_⟩
              have : ((([] : List (List V)).take h.toNat).drop l.toNat) = [] := by simp
              rw [this, show h.toNat - l.toNat = 0 from by omega]
              exact .sl0 _ _ (fun hn => by
                cases ad with
                | none => have := ha rfl; omega
                | some a => revert hn; split <;> simp)
            · cases hv
          · cases hv
        · cases hv
      · cases hv
    case sl b off cap sz xs u hF hle hcap hsz hc hr =>
      split at hv
      · rename_i e he
        split at hv
        · rename_i hall
          rw [Bool.and_eq_true] at hall
          obtain ⟨hall, hsome⟩ := hall
          obtain ⟨sz', hsz'⟩ := Option.isSome_iff_exists.1 hsome
          change (match loI (lo.map σ.ev), hiI xs.length (hi.map σ.ev) with | some l, some h => if 0 ≤ l ∧ l ≤ h ∧ h ≤ (xs.length : Int) then some (V.sl ((xs.take h.toNat).drop l.toNat)) else none | _, _ => none) = some v at hv
          split at hv
          · rename_i l h hl hh
            split at hv
            · rename_i hcc
              cases hv
              have hb := run_bounds (P := P) (w := w) (b := true) (lo_rep hs hl) (hi_rep hs hh) hcc.1 hcc.2.1 hcc.2.2 hle
              refine ⟨_, hsl (slE_some he) hsz' hb, ?_⟩
              obtain ⟨l, rfl⟩ := Int.eq_ofNat_of_zero_le hcc.1
              obtain ⟨h, rfl⟩ := Int.eq_ofNat_of_zero_le (Int.le_trans hcc.1 hcc.2.1)
              simp only [Int.toNat_natCast]
              have hlen : ((xs.take h).drop l).length = h - l := by simp; omega
              rcases Nat.eq_or_lt_of_le (show l ≤ h by omega) with rfl | hlt
              · have : ((xs.take l).drop l) = [] := List.eq_nil_of_length_eq_zero (by rw [hlen]; omega)
                rw [this, Nat.sub_self]
                exact .sl0 _ _ (fun hn => by revert hn; split <;> simp)
              · have hx0 : xs[l]? = some (xs[l]'(by omega)) := List.getElem?_eq_getElem (by omega)
                have hsze : sz' = sz := by
                  have h1 := List.all_eq_true.1 hall _ (List.mem_of_getElem? hx0)
                  have h2 := hsz _ (List.mem_of_getElem? hx0)
                  rw [hsz', h2] at h1
                  simpa using h1
                subst hsze
                rw [if_neg (by omega), ← hlen]
                simp only [Option.map_some, add_none]
                refine .sl b (off + l * sz') (cap - l) sz' _ (fun i j => u (l + i) j) hF (by rw [hlen]; omega) (by omega) (fun c hc => hsz c (List.mem_of_mem_take (List.mem_of_mem_drop hc))) (fun i c j x h1 h2 => ?_) (fun i c j x h1 h2 => ?_)
                · have hi : i < h - l := by rw [← hlen]; exact (List.getElem?_eq_some_iff.1 h1).1
                  rw [List.getElem?_drop, List.getElem?_take_of_lt (by omega)] at h1
                  have := hc (l + i) c j x h1 h2
                  rw [Nat.add_mul] at this
                  rw [← this]; congr 2; omega
                · have hi : i < h - l := by rw [← hlen]; exact (List.getElem?_eq_some_iff.1 h1).1
                  rw [List.getElem?_drop, List.getElem?_take_of_lt (by omega)] at h1
                  exact hr (l + i) c j x h1 h2
            · cases hv
          · cases hv
        · cases hv
      · cases hv
    case lsl g sz off n cap hg hle hcap hbk =>
      split at hv
      · rename_i e he
        change (match loI (lo.map σ.ev), hiI n (hi.map σ.ev) with | some l, some h => if 0 ≤ g ∧ 0 ≤ l ∧ l ≤ h ∧ h ≤ (n : Int) ∧ csz P e = some sz then (if l = 0 then some (V.lsl g sz off h.toNat) else if l = h then some (.sl []) else some (.lsl g sz (off + l.toNat) (h.toNat - l.toNat))) else none | _, _ => none) = some v at hv
        split at hv
        · rename_i l h hl hh
          split at hv
          · rename_i hcc
            obtain ⟨_, h0, h1, h2, hsz⟩ := hcc
            have hb := run_bounds (P := P) (w := w) (b := true) (lo_rep hs hl) (hi_rep hs hh) h0 h1 h2 hle
            refine ⟨_, hsl (slE_some he) hsz hb, ?_⟩
            obtain ⟨l, rfl⟩ := Int.eq_ofNat_of_zero_le h0
            obtain ⟨h, rfl⟩ := Int.eq_ofNat_of_zero_le (Int.le_trans h0 h1)
            simp only [Int.toNat_natCast] at hv ⊢
            obtain ⟨c, t', f, hheap, hfit⟩ := hbk
            split at hv
            · rename_i hl0
              have hl0 : l = 0 := by omega
              subst hl0
              cases hv
              have : (if cap = 0 then some (⟨g.toNat, off * sz, none⟩ : Addr) else Option.map (fun x : Addr => x.add (0 * sz)) (some ⟨g.toNat, off * sz, none⟩)) = some ⟨g.toNat, off * sz, none⟩ := by
                split
                · rfl
                · simp [add_none]
              rw [this]
              simp only [Nat.sub_zero]
              exact .lsl g sz off h cap hg (by omega) hcap ⟨c, t', f, hheap, hfit⟩
            · split at hv
              · rename_i hl0 hlh
                cases hv
                rw [show h - l = 0 from by omega]
                exact .sl0 _ _ (fun hn => by revert hn; split <;> simp)
              · rename_i hl0 hlh
                cases hv
                rw [if_neg (by omega)]
                simp only [Option.map_some, add_none]
                have := Rep.lsl (F := F) (w := w) g sz (off + l) (h - l) (cap - l) hg (by omega) (by omega) ⟨c, t', f, hheap, by rw [show off + l + (cap - l) = off + cap from by omega]; exact hfit⟩
                rw [Nat.add_mul] at this
                exact this
          · cases hv
        · cases hv
      · cases hv
    case lsln g sz hg =>
      split at hv
      · rename_i e he
        change (match loI (lo.map σ.ev), hiI 0 (hi.map σ.ev) with | some l, some h => if 0 ≤ g ∧ 0 ≤ l ∧ l ≤ h ∧ h ≤ ((0 : Nat) : Int) ∧ csz P e = some sz then (if l = 0 then some (V.lsl g sz 0 h.toNat) else if l = h then some (.sl []) else some (.lsl g sz (0 + l.toNat) (h.toNat - l.toNat))) else none | _, _ => none) = some v at hv
        split at hv
        · split at hv
          · rename_i hcc; omega
          · cases hv
        · cases hv
      · cases hv
  obtain ⟨r, hr, hrep⟩ := this
  refine wp_value (v := r) (w' := w) ?_ (nx_put hs hrep hK)
  simp only [execOp, ho, Sem.run_bind, hr, Result.andThen_ok, Sem.run_pure, Option.map_none]

end
end Go.Proofs.Ytpkphjoobeacfaa.Vm
