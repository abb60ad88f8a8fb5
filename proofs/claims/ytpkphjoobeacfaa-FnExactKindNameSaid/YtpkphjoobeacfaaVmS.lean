/- The rewrite rules by which a function is run. -/
import Derived.Test.YtpkphjoobeacfaaVmL
import Derived.Test.YtpkphjoobeacfaaVmTy
namespace Go.Proofs.Ytpkphjoobeacfaa.Vm
open Go Go.RowKit
set_option linter.unusedSimpArgs false
set_option linter.unusedVariables false

attribute [simp] Ops T St.ev St.put seqK_normal seqK_exit seqK_ret blockK_normal blockK_exit blockK_ret loopK_normal loopK_exit loopK_ret ofValue ofCell retV resV rdP loadV pickV intV binV unV lenV nilV fldV idxV idsV partV fieldV extV cvtV callV V.cells V.one frzL jn fillV splice
attribute [simp] upd_apply

section
variable {α : Type} {k : α → Prop}
@[simp high] theorem bindP_if (c : Prop) [Decidable c] (o : Option α) : bindP (if c then o else none) k = (c ∧ bindP o k) := by
  by_cases h : c <;> simp [h]
theorem bindP_eq {o : Option α} {x : α} (h : o = some x) : bindP o k = k x := by rw [h]; exact bindP_some x k
theorem i64_in {n : Int} (h1 : -9223372036854775808 ≤ n) (h2 : n ≤ 9223372036854775807) : IntKind.i64.wrap n = n := IntWalk.i64_in n ⟨h1, h2⟩
end
section
variable {P : Program} {σ : St} {K : Ex → St → Prop}

theorem AW_seq_ret {c : Code} (h : K .ret σ) : AW P (.seq .ret c) K σ := AW_seq (AW_ret (by rw [seqK_ret]; exact h))

/-- What is left of a call that reads: the value r, frozen. -/
def ROk (bl : Int → Option Blk) (r : V) (v : V) (bl' : Int → Option Blk) : Prop := ∃ n, frz (dropB bl' bl) n v = some r ∧ Sub bl bl'

theorem ro_of2 {f : FuncId} {fn : Func} {c : Code} {xs : List V} {r : V} (hf : P.funcs[f]? = some fn) (hb : fn.body = some c) (hn : (fn.name == "runtime.NumGoroutine") = false) (hl : xs.length ≤ fn.ntmps)
    (h : ∀ bl, AW P c (retK P fn.results.toList (ROk bl r)) ⟨fn.ntmps, fun t => xs.getD t .junk, bl⟩) : RO P f xs r := ro_of hf hb hn hl h

/-- The end of a function that reads. -/
theorem retRO {rs : List ResultVar} {bl : Int → Option Blk} {r : V} (vs : List V) (n : Nat) (h : resV P σ rs = some vs) (hf : frz (dropB σ.bl bl) n (retV vs) = some r) (hs : Sub bl σ.bl) :
    retK P rs (ROk bl r) .ret σ := by rw [retK_ret]; exact ⟨vs, h, n, hf, hs⟩
/-- .. that tells a value of one cell and has made nothing. -/
theorem retRO0 {rs : List ResultVar} {bl : Int → Option Blk} {r : V} (h : resV P σ rs = some [r]) (hb : σ.bl = bl) (hf : frz (dropB bl bl) 0 r = some r) : retK P rs (ROk bl r) .ret σ :=
  retRO [r] 0 h (by rw [hb]; exact hf) (by rw [hb]; exact Sub.refl _)

end
end Go.Proofs.Ytpkphjoobeacfaa.Vm
