/- Soundness of the transformer: arithmetic, addresses, slices, structs, append and calls. -/
import Derived.Test.YtpkphjoobeacfaaVmD
import Derived.Laws.AppendOwn
import Derived.IntWalk
import Derived.Laws.StructEq
namespace Go.Proofs.Ytpkphjoobeacfaa.Vm
open Go Go.RowKit
set_option linter.unusedSimpArgs false
set_option linter.unusedVariables false

section
variable {P : Program} {K : St → Prop} {σ : St} {w0 : World} {M F : Nat → Prop} {a : Act} {w : World}

theorem sound_move {o : Oper} {x : Operand} (ho : o.op = .move x) (hT : T P o K σ) (hs : Sim w0 M F σ a w) {Q : Exit → Act → World → Prop} : o.wp P a w (Nx w0 M F K) Q := by
  unfold T at hT; rw [ho] at hT
  refine wp_value (v := a.eval x) (w' := w) ?_ (nx_put hs (hs.ev x) hT)
  simp only [execOp, ho, Sem.run_pure]
theorem sound_assign {o : Oper} {x : Operand} (ho : o.op = .assign x) (hT : T P o K σ) (hs : Sim w0 M F σ a w) {Q : Exit → Act → World → Prop} : o.wp P a w (Nx w0 M F K) Q := by
  unfold T at hT; rw [ho] at hT
  refine wp_value (v := a.eval x) (w' := w) ?_ (nx_put hs (hs.ev x) hT)
  simp only [execOp, ho, Sem.run_pure]

theorem sound_nilCheck {o : Oper} {x : Operand} (ho : o.op = .nilCheck x) (hT : T P o K σ) (hs : Sim w0 M F σ a w) {Q : Exit → Act → World → Prop} : o.wp P a w (Nx w0 M F K) Q := by
  unfold T at hT; rw [ho] at hT
  obtain ⟨v, hv, hK⟩ := hT
  have hx := hs.ev x
  have : v = σ.ev x ∧ ∃ ad, a.eval x = .pointer (some ad) := by
    generalize σ.ev x = xv at hv hx
    generalize a.eval x = av at hx
    cases hx <;> simp only [nilV] at hv <;> first | (cases hv; done) | (cases hv; exact ⟨rfl, _, rfl⟩)
  obtain ⟨rfl, ad, had⟩ := this
  refine wp_value (v := a.eval x) (w' := w) ?_ (nx_put hs (hs.ev x) hK)
  simp only [execOp, ho, had, Sem.run_pure]

theorem sound_unOp {o : Oper} {u : UnOp} {t : TypeId} {x : Operand} (ho : o.op = .unOp u t x) (hT : T P o K σ) (hs : Sim w0 M F σ a w) {Q : Exit → Act → World → Prop} : o.wp P a w (Nx w0 M F K) Q := by
  unfold T at hT; rw [ho] at hT
  obtain ⟨v, hv, hK⟩ := hT
  have hx := hs.ev x
  have : ∃ r, (Op.unary u (a.eval x)).run P w = .ok r w ∧ Rep F w v r := by
    generalize σ.ev x = xv at hv hx
    generalize a.eval x = av at hx
    cases hx <;> simp only [unV] at hv <;> try (cases hv; done)
    · split at hv
      · cases hv; exact ⟨_, rfl, .bool _⟩
      · cases hv
    · split at hv
      · cases hv; exact ⟨_, rfl, .int _ _⟩
      · cases hv
  obtain ⟨r, hr, hrep⟩ := this
  refine wp_value (v := r) (w' := w) ?_ (nx_put hs hrep hK)
  simp only [execOp, ho, Sem.run_bind, hr, Result.andThen_ok, Sem.run_pure]

theorem run_equal {t : TypeId} {x y : Value} {b : Bool} (h : ∀ d, (Op.equalIn (d + 1) t x y).run P w = .ok b w) : (Op.equal t x y).run P w = .ok b w := h 9999

theorem run_eq_nil {t e : TypeId} (he : P.underlying t = some (.slice e)) (a : Option Addr) (n cap : Nat) : (Op.equal t (.slice a n cap) (.slice none 0 0)).run P w = .ok a.isNone w := by
  refine run_equal fun d => ?_
  cases a <;> simp [Op.equalIn, run_underlying he]

theorem run_eq_ptr {t e : TypeId} (he : P.underlying t = some (.pointer e)) (x y : Option Addr) (h : x = none ∨ y = none) : (Op.equal t (.pointer x) (.pointer y)).run P w = .ok (x.isNone && y.isNone) w := by
  refine run_equal fun d => ?_
  rcases h with rfl | rfl
  · cases y <;> simp [Op.equalIn, run_underlying he]
  · cases x <;> simp [Op.equalIn, run_underlying he]

theorem run_part {t : TypeId} {cs : List V} {arr : Array Value} {off : Nat} {v : V} (hlen : arr.size = cs.length) (hr : ∀ i x, cs[i]? = some x → Rep F w x (arr.getD i undef)) (hv : partV P t cs off = some v) :
    ∃ r, (part t arr off).run P w = .ok r w ∧ Rep F w v r := by
  unfold partV at hv
  split at hv
  · rename_i n ha hn
    split at hv
    · rename_i hle
      cases hv
      refine ⟨.agg (arr.extract off (off + n)), ?_, .agg _ _ (by simp; omega) fun i x hx => ?_⟩
      · simp only [part, Sem.run_bind, run_isAgg ha, Result.andThen_ok, if_true, run_sizeOf hn, Sem.run_pure]
      · have hi : i < n := by have := (List.getElem?_eq_some_iff.1 hx).1; simp at this; omega
        rw [List.getElem?_take_of_lt hi, List.getElem?_drop] at hx
        have := hr _ x hx
        have h2 : (arr.extract off (off + n)).getD i undef = arr.getD (off + i) undef := by
          simp [Array.getD_eq_getD_getElem?, Array.getElem?_extract]
          rw [if_pos (by omega)]
        rw [h2]; exact this
    · cases hv
  · rename_i ha
    have hlt : off < arr.size := by have := (List.getElem?_eq_some_iff.1 hv).1; omega
    refine ⟨arr[off], ?_, ?_⟩
    · simp [part, run_isAgg ha, hlt]
    · have := hr off v hv
      simpa [hlt] using this
  · cases hv

theorem run_eq1 {f : Field} {o k d : Nat} {x y : V} {u v : Value} {r : Bool} (hf : eqField P f = some (o, k)) (he : eq1 k x y = some r) (hx : Rep F w x u) (hy : Rep F w y v) : (Op.equalIn (d + 1) f.type u v).run P w = .ok r w := by
  unfold eqField at hf
  split at hf
  · cases hf
  · split at hf <;> cases hf
    · rename_i hu
      unfold eq1 at he
      split at he <;> first | (cases he; done) | skip
      · cases he; cases hx; cases hy; simp [Op.equalIn, run_underlying hu]
      all_goals (rename_i hk; cases hk)
    · rename_i hu
      unfold eq1 at he
      split at he <;> first | (cases he; done) | skip
      · rename_i hk; cases hk
      · split at he
        · rename_i hkk; subst hkk
          cases he; cases hx; cases hy; simp [Op.equalIn, run_underlying hu]
        · cases he
      · rename_i hk; cases hk
    · rename_i hu
      unfold eq1 at he
      split at he <;> first | (cases he; done) | skip
      · rename_i hk; cases hk
      · rename_i hk; cases hk
      · cases he; cases hx; cases hy; simp [Op.equalIn, run_underlying hu, beq_toListBytes]

theorem part_of_field {f : Field} {o k : Nat} (hf : eqField P f = some (o, k)) : (f.name == "_") = false ∧ f.offset = o ∧ ∀ cs, partV P f.type cs o = cs[o]? := by
  unfold eqField at hf
  split at hf
  · cases hf
  · rename_i hn
    refine ⟨by simpa using hn, ?_, fun cs => ?_⟩
    · split at hf <;> cases hf <;> rfl
    · have : aggT P f.type = some false := by
        unfold aggT
        split at hf <;> first | (cases hf; done) | (rename_i hu; rw [hu])
      unfold partV
      rw [this]

theorem run_eqFields {d : Nat} {xs ys : Array Value} {a b : List V} (hlx : xs.size = a.length) (hly : ys.size = b.length) (hx : ∀ i x, a[i]? = some x → Rep F w x (xs.getD i undef)) (hy : ∀ i x, b[i]? = some x → Rep F w x (ys.getD i undef)) :
    ∀ {fs : List Field} {l : List (Nat × Nat)} {r : Bool}, fs.mapM (eqField P) = some l → eqV l a b = some r → (Op.eqFields (d + 1) xs ys fs).run P w = .ok r w
  | [], l, r, h, he => by
    cases h
    cases he
    simp [Op.eqFields]
  | f :: fs, l, r, h, he => by
    rw [List.mapM_cons] at h
    cases hf : eqField P f with
    | none => rw [hf] at h; cases h
    | some p =>
      obtain ⟨o, k⟩ := p
      rw [hf] at h
      cases hfs : fs.mapM (eqField P) with
      | none => rw [hfs] at h; cases h
      | some l' =>
        rw [hfs] at h
        cases h
        simp only [eqV] at he
        split at he
        · rename_i x y s h1 h2 h3
          split at he
          · rename_i q h4
            cases he
            obtain ⟨hn, ho, hp⟩ := part_of_field hf
            obtain ⟨u, hu1, hu2⟩ := run_part (P := P) (w := w) (F := F) hlx hx ((hp a).trans h1)
            obtain ⟨v, hv1, hv2⟩ := run_part (P := P) (w := w) (F := F) hly hy ((hp b).trans h2)
            have hq := run_eq1 (d := d) hf h4 hu2 hv2
            have hs := run_eqFields (d := d) hlx hly hx hy hfs h3
            have hn' : f.name ≠ "_" := by simpa using hn
            rw [Op.eqFields]
            rw [ho]
            simp only [if_pos hn', Sem.run_bind, hu1, hv1, hq, Result.andThen_ok]
            cases q
            · simp
            · simpa using hs
          · cases he
        · cases he

theorem run_eqA {t : TypeId} {xs ys : Array Value} {a b : List V} {r : Bool} (hlx : xs.size = a.length) (hly : ys.size = b.length) (hx : ∀ i x, a[i]? = some x → Rep F w x (xs.getD i undef)) (hy : ∀ i x, b[i]? = some x → Rep F w x (ys.getD i undef)) (h : eqA P t a b = some r) :
    (Op.equal t (.agg xs) (.agg ys)).run P w = .ok r w ∧ P.eqGuardType P.depth t = false := by
  unfold eqA at h
  split at h
  · rename_i l hl
    unfold eqFs at hl
    split at hl
    · rename_i fs hu
      split at hl
      · rename_i hc
        simp only [Bool.and_eq_true, Bool.not_eq_true'] at hc
        refine ⟨?_, hc.2⟩
        have hf : P.fieldsOf t = fs := by simp [Program.fieldsOf, hu]
        show (Op.equalIn 10000 t (.agg xs) (.agg ys)).run P w = _
        rw [run_equalIn_struct (P := P) w 9999 t xs ys (by rw [hf]; exact hu) hc.1, hf]
        exact run_eqFields (d := 9998) hlx hly hx hy hl h
      · cases hl
    · cases hl
  · cases h

theorem sound_binOp {o : Oper} {op : BinOp} {t t' : TypeId} {x y : Operand} (ho : o.op = .binOp op t x y t') (hT : T P o K σ) (hs : Sim w0 M F σ a w) {Q : Exit → Act → World → Prop} : o.wp P a w (Nx w0 M F K) Q := by
  unfold T at hT; rw [ho] at hT
  obtain ⟨v, hv, hK⟩ := hT
  have hx := hs.ev x
  have hy := hs.ev y
  have : ∃ r, (do eqGuard op t x y (a.eval x) (a.eval y); binOp op t (a.eval x) (a.eval y) : Sem Value).run P w = .ok r w ∧ Rep F w v r := by
    generalize σ.ev x = xv at hv hx
    generalize σ.ev y = yv at hv hy
    generalize a.eval x = av at hx
    generalize a.eval y = bv at hy
    cases hx <;> cases hy <;> simp only [binV] at hv <;> try (cases hv; done)
    case bool.bool p q =>
      split at hv <;> cases hv
      · rename_i hu
        refine ⟨.bool (p == q), ?_, .bool _⟩
        have := run_equal (P := P) (w := w) (t := t) (x := .bool p) (y := .bool q) (b := p == q) (fun d => by simp [Op.equalIn, run_underlying hu])
        simp [eqGuard, binOp, this]
      · rename_i hu
        refine ⟨.bool (p != q), ?_, .bool _⟩
        have := run_equal (P := P) (w := w) (t := t) (x := .bool p) (y := .bool q) (b := p == q) (fun d => by simp [Op.equalIn, run_underlying hu])
        simp [eqGuard, binOp, this, bne]
    case int.int k n k' n' =>
      split at hv
      · split at hv <;> cases hv
        rename_i hb
        exact ⟨_, by simp [eqGuard, binOp, Op.shift, hb], .int _ _⟩
      · split at hv <;> cases hv
        rename_i hb
        exact ⟨_, by simp [eqGuard, binOp, Op.shift, hb], .int _ _⟩
      · split at hv
        · rename_i h1 h2 hkk
          subst hkk
          unfold intV at hv
          split at hv <;> first
            | (cases hv; first | exact ⟨_, by simp [eqGuard, binOp, Op.intArith, Op.intBits, Op.intCmp], .int _ _⟩ | exact ⟨_, by simp [eqGuard, binOp, Op.intArith, Op.intBits, Op.intCmp], .bool _⟩)
            | (split at hv <;> cases hv; rename_i hb; exact ⟨_, by simp [eqGuard, binOp, Op.intDiv, hb], .int _ _⟩)
            | (cases hv; done)
        · cases hv
    case str.str s s' =>
      split at hv
      · cases hv; exact ⟨_, by simp [eqGuard, binOp, Op.stringOp], .bool _⟩
      · cases hv; exact ⟨_, by simp [eqGuard, binOp, Op.stringOp], .bool _⟩
      · split at hv <;> cases hv
        rename_i hb
        have h2 : IntKind.i64.max = 9223372036854775807 := by decide
        rw [h2] at hb
        have hb' : (s.size : Int) + (s'.size : Int) ≤ 9223372036854775807 := by omega
        exact ⟨.string (s ++ s'), by simp only [eqGuard, binOp, Op.stringOp, Sem.run_bind]; simp [hb'], .str _⟩
      · cases hv
    case agg.agg a1 arr1 hl1 hr1 a2 arr2 hl2 hr2 =>
      split at hv <;> cases hv
      · rename_i q hq
        obtain ⟨h1, h2⟩ := run_eqA (w := w) hl1 hl2 hr1 hr2 hq
        exact ⟨.bool q, by simp [eqGuard, binOp, h1, h2], .bool _⟩
      · rename_i q hq
        obtain ⟨h1, h2⟩ := run_eqA (w := w) hl1 hl2 hr1 hr2 hq
        exact ⟨.bool !q, by simp [eqGuard, binOp, h1, h2], .bool _⟩
    case nilp.nilp =>
      split at hv <;> cases hv <;>
      · rename_i hp
        obtain ⟨e, he⟩ := isPtr_some hp
        have he := run_eq_ptr (w := w) he none none (by simp)
        exact ⟨_, by simp [eqGuard, binOp, he], .bool _⟩
    case nilp.ptr =>
      split at hv <;> cases hv <;>
      · rename_i hp
        obtain ⟨e, he⟩ := isPtr_some hp
        have he := fun y => run_eq_ptr (w := w) he none y (.inl rfl)
        exact ⟨_, by simp [eqGuard, binOp, he], .bool _⟩
    case ptr.nilp =>
      split at hv <;> cases hv <;>
      · rename_i hp
        obtain ⟨e, he⟩ := isPtr_some hp
        have he := fun y => run_eq_ptr (w := w) he y none (.inr rfl)
        exact ⟨_, by simp [eqGuard, binOp, he], .bool _⟩
    case loc.nilp =>
      split at hv <;> cases hv <;>
      · rename_i hp
        obtain ⟨e, he⟩ := isPtr_some hp
        have he := fun y => run_eq_ptr (w := w) he y none (.inr rfl)
        exact ⟨_, by simp [eqGuard, binOp, he], .bool _⟩
    case nils.nils =>
      split at hv <;> cases hv <;>
      · rename_i e he
        have he := run_eq_nil (w := w) (slE_some he) none 0 0
        exact ⟨_, by simp [eqGuard, binOp, he], .bool _⟩
    case sle.nils a0 cap0 =>
      split at hv <;> cases hv <;>
      · rename_i e he
        have he := run_eq_nil (w := w) (slE_some he) (some a0) 0 cap0
        exact ⟨_, by simp [eqGuard, binOp, he], .bool _⟩
    case sl.nils b0 o0 cap0 sz0 xs0 u0 hF0 hle0 hcap0 hsz0 hc0 hr0 =>
      cases xs0 with
      | nil => simp at hv
      | cons x0 xs0 =>
        simp only at hv
        split at hv <;> cases hv <;>
        · rename_i e he
          have he := run_eq_nil (w := w) (slE_some he) (some ⟨b0, o0, none⟩) (xs0.length + 1) cap0
          exact ⟨_, by simp [eqGuard, binOp, he], .bool _⟩
    case lsl.nils g0 sz0 o0 n0 cap0 hg0 hle0 hcap0 hb0 =>
      split at hv <;> cases hv <;>
      · rename_i e he
        have he := run_eq_nil (w := w) (slE_some he) (some ⟨g0.toNat, o0 * sz0, none⟩) n0 cap0
        have hn : ¬ g0 < 0 := by omega
        exact ⟨_, by simp [eqGuard, binOp, he, hn], .bool _⟩
    case lsln.nils g0 sz0 hg0 =>
      split at hv <;> cases hv <;>
      · rename_i e he
        have he := run_eq_nil (w := w) (slE_some he) none 0 0
        exact ⟨_, by simp [eqGuard, binOp, he, hg0], .bool _⟩
  obtain ⟨r, hr, hrep⟩ := this
  refine wp_value (v := r) (w' := w) ?_ (nx_put hs hrep hK)
  simp only [execOp, ho]
  rw [Sem.run_bind, hr]; rfl

end
end Go.Proofs.Ytpkphjoobeacfaa.Vm
