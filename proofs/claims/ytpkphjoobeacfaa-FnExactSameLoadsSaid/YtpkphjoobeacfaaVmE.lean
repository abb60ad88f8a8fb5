/- Soundness of the transformer: arithmetic, addresses, slices, structs, append and calls. -/
import Derived.Test.YtpkphjoobeacfaaVmD
import Derived.Laws.AppendOwn
import Derived.IntWalk
namespace Go.Proofs.Ytpkphjoobeacfaa.Vm
open Go Go.RowKit
set_option linter.unusedSimpArgs false
set_option linter.unusedVariables false

section
variable {P : Program} {K : St → Prop} {σ : St} {w0 : World} {M F : Nat → Prop} {a : Act} {w : World}

theorem sound_move {o : Oper} {x : Operand} (ho : o.op = .move x) (hT : T P o K σ) (hs : Sim w0 M F σ a w) {Q : Exit → Act → World → Prop} : o.wp P a w (Nx w0 M F K) Q := by
  unfold T at hT; rw [ho] at hT
  refine wp_value (v := a.eval x) (w' := w) ?_ (nx_put hs (hs.ev x) hT)
  simp only [execOp, ho, Sem.run_pure]
theorem sound_assign {o : Oper} {x : Operand} (ho : o.op = .assign x) (hT : T P o K σ) (hs : Sim w0 M F σ a w) {Q : Exit → Act → World → Prop} : o.wp P a w (Nx w0 M F K) Q := by
  unfold T at hT; rw [ho] at hT
  refine wp_value (v := a.eval x) (w' := w) ?_ (nx_put hs (hs.ev x) hT)
  simp only [execOp, ho, Sem.run_pure]

theorem sound_nilCheck {o : Oper} {x : Operand} (ho : o.op = .nilCheck x) (hT : T P o K σ) (hs : Sim w0 M F σ a w) {Q : Exit → Act → World → Prop} : o.wp P a w (Nx w0 M F K) Q := by
  unfold T at hT; rw [ho] at hT
  obtain ⟨v, hv, hK⟩ := hT
  have hx := hs.ev x
  have : v = σ.ev x ∧ ∃ ad, a.eval x = .pointer (some ad) := by
    generalize σ.ev x = xv at hv hx
    generalize a.eval x = av at hx
    cases hx <;> simp only [nilV] at hv <;> first | (cases hv; done) | (cases hv; exact ⟨rfl, _, rfl⟩)
  obtain ⟨rfl, ad, had⟩ := this
  refine wp_value (v := a.eval x) (w' := w) ?_ (nx_put hs (hs.ev x) hK)
  simp only [execOp, ho, had, Sem.run_pure]

theorem sound_unOp {o : Oper} {u : UnOp} {t : TypeId} {x : Operand} (ho : o.op = .unOp u t x) (hT : T P o K σ) (hs : Sim w0 M F σ a w) {Q : Exit → Act → World → Prop} : o.wp P a w (Nx w0 M F K) Q := by
  unfold T at hT; rw [ho] at hT
  obtain ⟨v, hv, hK⟩ := hT
  have hx := hs.ev x
  have : ∃ r, (Op.unary u (a.eval x)).run P w = .ok r w ∧ Rep F w v r := by
    generalize σ.ev x = xv at hv hx
    generalize a.eval x = av at hx
    cases hx <;> simp only [unV] at hv <;> try (cases hv; done)
    · split at hv
      · cases hv; exact ⟨_, rfl, .bool _⟩
      · cases hv
    · split at hv
      · cases hv; exact ⟨_, rfl, .int _ _⟩
      · cases hv
  obtain ⟨r, hr, hrep⟩ := this
  refine wp_value (v := r) (w' := w) ?_ (nx_put hs hrep hK)
  simp only [execOp, ho, Sem.run_bind, hr, Result.andThen_ok, Sem.run_pure]

theorem sound_convert {o : Oper} {s d : TypeId} {x : Operand} (ho : o.op = .convert s d x) (hT : T P o K σ) (hs : Sim w0 M F σ a w) {Q : Exit → Act → World → Prop} : o.wp P a w (Nx w0 M F K) Q := by
  unfold T at hT; rw [ho] at hT
  obtain ⟨v, hv, hK⟩ := hT
  have hx := hs.ev x
  have : ∃ r, (convert s d (a.eval x)).run P w = .ok r w ∧ Rep F w v r := by
    generalize σ.ev x = xv at hv hx
    generalize a.eval x = av at hx
    cases hx <;> simp only [cvtV] at hv <;> try (cases hv; done)
    rename_i k n
    split at hv
    · rename_i k' ds hk hd
      cases hv
      refine ⟨.int k' (k'.wrap n), ?_, .int _ _⟩
      simp only [convert, Sem.run_bind, run_underlying hd, run_underlying (isInt_some hk), Result.andThen_ok]
      cases ds <;> rfl
    · cases hv
  obtain ⟨r, hr, hrep⟩ := this
  refine wp_value (v := r) (w' := w) ?_ (nx_put hs hrep hK)
  simp only [execOp, ho, Sem.run_bind, hr, Result.andThen_ok, Sem.run_pure]

theorem run_equal {t : TypeId} {x y : Value} {b : Bool} (h : ∀ d, (Op.equalIn (d + 1) t x y).run P w = .ok b w) : (Op.equal t x y).run P w = .ok b w := h 9999

theorem run_eq_ptr {t e : TypeId} (he : P.underlying t = some (.pointer e)) (x y : Option Addr) (h : x = none ∨ y = none) : (Op.equal t (.pointer x) (.pointer y)).run P w = .ok (x.isNone && y.isNone) w := by
  refine run_equal fun d => ?_
  rcases h with rfl | rfl
  · cases y <;> simp [Op.equalIn, run_underlying he]
  · cases x <;> simp [Op.equalIn, run_underlying he]

theorem sound_binOp {o : Oper} {op : BinOp} {t t' : TypeId} {x y : Operand} (ho : o.op = .binOp op t x y t') (hT : T P o K σ) (hs : Sim w0 M F σ a w) {Q : Exit → Act → World → Prop} : o.wp P a w (Nx w0 M F K) Q := by
  unfold T at hT; rw [ho] at hT
  obtain ⟨v, hv, hK⟩ := hT
  have hx := hs.ev x
  have hy := hs.ev y
  have : ∃ r, (do eqGuard op t x y (a.eval x) (a.eval y); binOp op t (a.eval x) (a.eval y) : Sem Value).run P w = .ok r w ∧ Rep F w v r := by
    generalize σ.ev x = xv at hv hx
    generalize σ.ev y = yv at hv hy
    generalize a.eval x = av at hx
    generalize a.eval y = bv at hy
    cases hx <;> cases hy <;> simp only [binV] at hv <;> try (cases hv; done)
    case bool.bool p q =>
      split at hv <;> cases hv
      · rename_i hu
        refine ⟨.bool (p == q), ?_, .bool _⟩
        have := run_equal (P := P) (w := w) (t := t) (x := .bool p) (y := .bool q) (b := p == q) (fun d => by simp [Op.equalIn, run_underlying hu])
        simp [eqGuard, binOp, this]
      · rename_i hu
        refine ⟨.bool (p != q), ?_, .bool _⟩
        have := run_equal (P := P) (w := w) (t := t) (x := .bool p) (y := .bool q) (b := p == q) (fun d => by simp [Op.equalIn, run_underlying hu])
        simp [eqGuard, binOp, this, bne]
    case int.int k n k' n' =>
      split at hv
      · split at hv <;> cases hv
        rename_i hb
        exact ⟨_, by simp [eqGuard, binOp, Op.shift, hb], .int _ _⟩
      · split at hv <;> cases hv
        rename_i hb
        exact ⟨_, by simp [eqGuard, binOp, Op.shift, hb], .int _ _⟩
      · split at hv
        · rename_i h1 h2 hkk
          subst hkk
          unfold intV at hv
          split at hv <;> first
            | (cases hv; first | exact ⟨_, by simp [eqGuard, binOp, Op.intArith, Op.intBits, Op.intCmp], .int _ _⟩ | exact ⟨_, by simp [eqGuard, binOp, Op.intArith, Op.intBits, Op.intCmp], .bool _⟩)
            | (split at hv <;> cases hv; rename_i hb; exact ⟨_, by simp [eqGuard, binOp, Op.intDiv, hb], .int _ _⟩)
            | (cases hv; done)
        · cases hv
    case str.str s s' =>
      split at hv
      · cases hv; exact ⟨_, by simp [eqGuard, binOp, Op.stringOp], .bool _⟩
      · cases hv; exact ⟨_, by simp [eqGuard, binOp, Op.stringOp], .bool _⟩
      · split at hv <;> cases hv
        rename_i hb
        have h2 : IntKind.i64.max = 9223372036854775807 := by decide
        rw [h2] at hb
        have hb' : (s.size : Int) + (s'.size : Int) ≤ 9223372036854775807 := by omega
        exact ⟨.string (s ++ s'), by simp only [eqGuard, binOp, Op.stringOp, Sem.run_bind]; simp [hb'], .str _⟩
      · cases hv
    case nilp.nilp =>
      split at hv <;> cases hv <;>
      · rename_i hp
        obtain ⟨e, he⟩ := isPtr_some hp
        have he := run_eq_ptr (w := w) he none none (by simp)
        exact ⟨_, by simp [eqGuard, binOp, he], .bool _⟩
    case nilp.ptr =>
      split at hv <;> cases hv <;>
      · rename_i hp
        obtain ⟨e, he⟩ := isPtr_some hp
        have he := fun y => run_eq_ptr (w := w) he none y (.inl rfl)
        exact ⟨_, by simp [eqGuard, binOp, he], .bool _⟩
    case ptr.nilp =>
      split at hv <;> cases hv <;>
      · rename_i hp
        obtain ⟨e, he⟩ := isPtr_some hp
        have he := fun y => run_eq_ptr (w := w) he y none (.inr rfl)
        exact ⟨_, by simp [eqGuard, binOp, he], .bool _⟩
    case loc.nilp =>
      split at hv <;> cases hv <;>
      · rename_i hp
        obtain ⟨e, he⟩ := isPtr_some hp
        have he := fun y => run_eq_ptr (w := w) he y none (.inr rfl)
        exact ⟨_, by simp [eqGuard, binOp, he], .bool _⟩
  obtain ⟨r, hr, hrep⟩ := this
  refine wp_value (v := r) (w' := w) ?_ (nx_put hs hrep hK)
  simp only [execOp, ho]
  rw [Sem.run_bind, hr]; rfl

end
end Go.Proofs.Ytpkphjoobeacfaa.Vm
