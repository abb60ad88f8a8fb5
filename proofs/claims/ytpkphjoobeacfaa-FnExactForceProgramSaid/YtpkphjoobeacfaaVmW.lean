/- A law's row from its body: the closed facts of the row, asked so that they are cheap. -/
import Derived.Test.YtpkphjoobeacfaaRows
import Derived.Test.YtpkphjoobeacfaaVmM
import Derived.WalkKit
import Derived.ProofKit
import Derived.JoinedOf
namespace Go.Proofs.Ytpkphjoobeacfaa.Vm
open Go

def ws2 : List Char → List Char → List (List Char)
  | [], cur => [cur.reverse]
  | c :: r, cur => if c = Char.ofNat 32 then cur.reverse :: ws2 r [] else ws2 r (c :: cur)

theorem ws_ne : ∀ l : List Char, ∃ w ws, wordsSigns l = w :: ws
  | [] => ⟨[], [], rfl⟩
  | c :: r => by
    obtain ⟨w, ws, h⟩ := ws_ne r
    unfold wordsSigns
    split
    · cases ‹_ = ([] : List Char)›
    · exact ⟨_, _, rfl⟩
    · rename_i heq
      cases heq
      rw [h]
      exact ⟨_, _, rfl⟩

theorem ws_step : ∀ (l cur : List Char), ws2 l cur = match wordsSigns l with | w :: ws => (cur.reverse ++ w) :: ws | [] => []
  | [], cur => by simp [ws2, wordsSigns]
  | c :: r, cur => by
    obtain ⟨w, ws, h⟩ := ws_ne r
    unfold ws2
    by_cases hc : c = Char.ofNat 32
    · subst hc
      rw [if_pos rfl, ws_step r []]
      have : wordsSigns (Char.ofNat 32 :: r) = [] :: wordsSigns r := rfl
      rw [this, h]
      simp
    · rw [if_neg hc, ws_step r (c :: cur)]
      have : wordsSigns (c :: r) = match wordsSigns r with | w :: ws => (c :: w) :: ws | [] => [[c]] := by
        conv => lhs; unfold wordsSigns
        split
        · cases ‹_ = ([] : List Char)›
        · rename_i heq; cases heq; exact absurd rfl hc
        · rename_i heq; cases heq; rfl
      rw [this, h]
      simp

theorem ws_eq (l : List Char) : wordsSigns l = ws2 l [] := by
  obtain ⟨w, ws, h⟩ := ws_ne l
  rw [ws_step, h]
  simp

set_option maxRecDepth 100000 in
def codes : List Nat := [104, 97, 114, 110, 101, 115, 115, 32, 99, 102, 49, 97, 49, 48, 52, 56, 53, 100, 49, 54, 99, 56, 100, 56, 50, 53, 97, 99, 57, 49, 50, 101, 57, 57, 53, 53, 99, 51, 49, 98, 102, 99, 54, 49, 49, 51, 98, 53, 52, 49, 101, 51, 102, 49, 100, 98, 101, 55, 99, 51, 48, 49, 53, 99, 97, 97, 98, 55, 97, 52, 56, 100, 32, 99, 117, 116, 32, 97, 116, 32, 108, 111, 111, 112, 46, 101, 120, 97, 109, 112, 108, 101, 47, 103, 48, 48, 56, 51, 48, 47, 108, 97, 119, 115, 46, 70, 110, 69, 120, 97, 99, 116, 75, 105, 110, 100, 78, 97, 109, 101, 32, 108, 111, 111, 112, 46, 101, 120, 97, 109, 112, 108, 101, 47, 103, 48, 48, 56, 51, 48, 47, 108, 97, 119, 115, 46, 70, 110, 69, 120, 97, 99, 116, 74, 111, 105, 110, 116, 79, 107, 32, 108, 111, 111, 112, 46, 101, 120, 97, 109, 112, 108, 101, 47, 103, 48, 48, 56, 51, 48, 47, 108, 97, 119, 115, 46, 70, 110, 69, 120, 97, 99, 116, 83, 97, 109, 101, 76, 111, 97, 100, 115, 32, 108, 111, 111, 112, 46, 101, 120, 97, 109, 112, 108, 101, 47, 103, 48, 48, 56, 51, 48, 47, 108, 97, 119, 115, 46, 70, 110, 69, 120, 97, 99, 116, 74, 111, 105, 110, 116, 78, 97, 109, 101, 100, 32, 108, 111, 111, 112, 46, 101, 120, 97, 109, 112, 108, 101, 47, 103, 48, 48, 56, 51, 48, 47, 108, 97, 119, 115, 46, 70, 110, 69, 120, 97, 99, 116, 83, 97, 109, 101, 83, 116, 114, 117, 99, 116, 117, 114, 101, 115, 32, 108, 111, 111, 112, 46, 101, 120, 97, 109, 112, 108, 101, 47, 103, 48, 48, 56, 51, 48, 47, 108, 97, 119, 115, 46, 70, 110, 77, 105, 120, 101, 100, 32, 108, 111, 111, 112, 46, 101, 120, 97, 109, 112, 108, 101, 47, 103, 48, 48, 56, 51, 48, 47, 108, 97, 119, 115, 46, 70, 110, 69, 120, 97, 99, 116, 83, 116, 114, 117, 99, 116, 117, 114, 101, 79, 107, 32, 108, 111, 111, 112, 46, 101, 120, 97, 109, 112, 108, 101, 47, 103, 48, 48, 56, 51, 48, 47, 108, 97, 119, 115, 46, 70, 110, 69, 120, 97, 99, 116, 86, 101, 99, 116, 111, 114, 79, 102, 32, 108, 111, 111, 112, 46, 101, 120, 97, 109, 112, 108, 101, 47, 103, 48, 48, 56, 51, 48, 47, 108, 97, 119, 115, 46, 70, 110, 69, 120, 97, 99, 116, 68, 101, 103, 114, 101, 101, 79, 102, 32, 108, 111, 111, 112, 46, 101, 120, 97, 109, 112, 108, 101, 47, 103, 48, 48, 56, 51, 48, 47, 108, 97, 119, 115, 46, 70, 110, 69, 120, 97, 99, 116, 83, 113, 117, 97, 114, 101, 79, 102, 32, 108, 111, 111, 112, 46, 101, 120, 97, 109, 112, 108, 101, 47, 103, 48, 48, 56, 51, 48, 47, 108, 97, 119, 115, 46, 70, 110, 69, 120, 97, 99, 116, 76, 111, 97, 100, 79, 107, 32, 108, 111, 111, 112, 46, 101, 120, 97, 109, 112, 108, 101, 47, 103, 48, 48, 56, 51, 48, 47, 108, 97, 119, 115, 46, 70, 110, 69, 120, 97, 99, 116, 77, 111, 109, 101, 110, 116, 79, 102, 32, 108, 111, 111, 112, 46, 101, 120, 97, 109, 112, 108, 101, 47, 103, 48, 48, 56, 51, 48, 47, 108, 97, 119, 115, 46, 70, 110, 69, 120, 97, 99, 116, 84, 111, 116, 97, 108, 79, 102, 32, 108, 111, 111, 112, 46, 101, 120, 97, 109, 112, 108, 101, 47, 103, 48, 48, 56, 51, 48, 47, 108, 97, 119, 115, 46, 70, 110, 69, 120, 97, 99, 116, 87, 105, 116, 104, 111, 117, 116, 77, 101, 109, 98, 101, 114, 115, 32, 108, 111, 111, 112, 46, 101, 120, 97, 109, 112, 108, 101, 47, 103, 48, 48, 56, 51, 48, 47, 108, 97, 119, 115, 46, 70, 110, 69, 120, 97, 99, 116, 78, 111, 76, 111, 97, 100, 32, 108, 111, 111, 112, 46, 101, 120, 97, 109, 112, 108, 101, 47, 103, 48, 48, 56, 51, 48, 47, 108, 97, 119, 115, 46, 70, 110, 69, 120, 97, 99, 116, 70, 114, 101, 101, 74, 111, 105, 110, 116, 115, 32, 108, 111, 111, 112, 46, 101, 120, 97, 109, 112, 108, 101, 47, 103, 48, 48, 56, 51, 48, 47, 108, 97, 119, 115, 46, 70, 110, 69, 120, 97, 99, 116, 80, 117, 116, 76, 111, 97, 100, 32, 108, 111, 111, 112, 46, 101, 120, 97, 109, 112, 108, 101, 47, 103, 48, 48, 56, 51, 48, 47, 108, 97, 119, 115, 46, 70, 110, 69, 120, 97, 99, 116, 77, 105, 120, 76, 111, 97, 100, 115, 32, 108, 111, 111, 112, 46, 101, 120, 97, 109, 112, 108, 101, 47, 103, 48, 48, 56, 51, 48, 47, 108, 97, 119, 115, 46, 70, 110, 69, 120, 97, 99, 116, 70, 111, 114, 99, 101, 80, 114, 111, 103, 114, 97, 109]
theorem initOrder_codes : Try.prog.initOrder = String.ofList (codes.map Char.ofNat) := by kernel_rfl
theorem initOrder_list : Try.prog.initOrder.toList = codes.map Char.ofNat := by
  rw [initOrder_codes]; exact String.toList_ofList

theorem make_cut {P : Program} {rest : List (List Char)} (h : behindMainWord (wordsSigns P.initOrder.toList) = "cut".toList :: rest) : P.make = some .cut := by
  unfold Program.make
  rw [h]
  rfl
theorem lifts_cut {P : Program} {rest : List (List Char)} (h : behindMainWord (wordsSigns P.initOrder.toList) = "cut".toList :: rest) : P.liftsFinal = false := by
  have hh : P.headLifts = [] := by
    unfold Program.headLifts
    rw [h]
    rfl
  unfold Program.liftsFinal
  rw [h, hh]
  rfl
theorem enter_cut {P : Program} {rest : List (List Char)} (h : behindMainWord (wordsSigns P.initOrder.toList) = "cut".toList :: rest) (h1 : P.laysLater = false) (h2 : P.bearsReflect = false) (h3 : P.doorFits [] = true) : P.mayEnter = true := by
  have hs : stripLifts liftWords ("cut".toList :: rest) = ([], "cut".toList :: rest) := rfl
  unfold Program.mayEnter
  rw [h]
  simp only [hs, h1, h2, h3]
  simp

/-- The facts of a row, three of them given. -/
noncomputable def joinedRest (P : Program) (f : FuncId) (fn : Func) (s : ChangeSpec) (c : OpenClaim) (e1 : P.mayEnter = true) (e2 : P.liftsFinal = false) (e3 : P.make = some .cut) : { b : Bool // joinedFacts P f fn s c = b } :=
  ⟨_, by unfold joinedFacts; rw [e1, e2, e3]⟩

set_option maxRecDepth 100000 in
theorem behind_main : behindMainWord (wordsSigns Try.prog.initOrder.toList) = "cut".toList :: ws2 ((codes.drop 77).map Char.ofNat) [] := by
  rw [initOrder_list, ws_eq]
  kernel_rfl
theorem no_later : Try.prog.laysLater = false := by kernel_rfl
theorem no_reflect : Try.prog.bearsReflect = false := by kernel_rfl
theorem door : Try.prog.doorFits [] = true := by kernel_rfl
theorem lifts_final : Try.prog.liftsFinal = false := lifts_cut behind_main
theorem may_enter : Try.prog.mayEnter = true := enter_cut behind_main no_later no_reflect door
theorem made : Try.prog.make = some .cut := make_cut behind_main
theorem facts {f : FuncId} {fn : Func} {s : ChangeSpec} {c : OpenClaim} (hJ : (joinedRest Try.prog f fn s c may_enter lifts_final made).1 = true) : joinedFacts Try.prog f fn s c = true := (joinedRest Try.prog f fn s c may_enter lifts_final made).2.trans hJ
theorem laidOut : laidOutB Try.prog = true := by kernel_rfl
theorem own : ownKnob Try.prog.godebug = none := by kernel_rfl

end Go.Proofs.Ytpkphjoobeacfaa.Vm
