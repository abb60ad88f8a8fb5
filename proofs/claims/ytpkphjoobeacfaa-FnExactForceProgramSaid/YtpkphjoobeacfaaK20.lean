/- Marks of structures: written, and held. -/
import Derived.Test.YtpkphjoobeacfaaK19
namespace Go.Proofs.Ytpkphjoobeacfaa.Vm
open Go Go.Proofs
set_option linter.unusedSimpArgs false
set_option linter.unusedVariables false

/-! ### Texts of marks -/
def digs (k : Nat) (out : ByteArray) : ByteArray := if h : k = 0 then out else digs (k / 10) (toBytes [IntKind.u8.wrap (IntKind.i64.wrap (48 + (k : Int).tmod 10))] ++ out)
termination_by k
decreasing_by omega
def mtext (k : Nat) : ByteArray := if k = 0 then { data := #[109, 48] } else ({ data := #[109] } : ByteArray) ++ digs k { data := #[] }
theorem digs_step {k : Nat} (h : k ≠ 0) (out : ByteArray) : digs k out = digs (k / 10) (toBytes [IntKind.u8.wrap (IntKind.i64.wrap (48 + (k : Int).tmod 10))] ++ out) := by
  rw [digs, dif_neg h]
theorem digs_zero (out : ByteArray) : digs 0 out = out := by rw [digs, dif_pos rfl]

theorem markText_ro (k : Nat) (hk : k ≤ 4611686018427387904) : RO Try.prog 132 [.int .i64 k] (.str (mtext k)) := by
  refine ro_of2 Try.func132 rfl rfl (by rw [Try.ntmps132]; simp) fun bl => ?_
  rw [Try.ntmps132, Try.results132]
  refine AW_run ?_
  simp
  refine ⟨fun h => ?_, fun h => ?_⟩
  · exact retRO0 (by simp [mtext, h]) rfl rfl
  refine AW_for (fun p : Nat × ByteArray => [(0, .int .i64 p.1), (3, .str p.2)]) (fun _ => bl) (fun p => p.1 + p.2.size ≤ k ∧ digs p.1 p.2 = digs k { data := #[] }) (fun p => p.1) _ (k, { data := #[] }) ⟨by simp [ByteArray.size], rfl⟩ ⟨rfl, by simp, Sub.refl _⟩ ?_
  rintro ⟨n, out⟩ ⟨hn, hd⟩
  simp only at hn hd
  refine AW_run ?_
  simp
  refine ⟨fun h1 => ?_, fun h1 => ?_⟩
  · intro g hg0 hg
    have hsz : ∀ x, (toBytes [x]).size = 1 := fun x => rfl
    simp [cvtV, cvtS, elsV, Int.not_lt.2 hg0, bytesOf]
    have h2 := hsz (IntKind.u8.wrap (IntKind.i64.wrap (48 + (n : Int).tmod 10)))
    refine ⟨by omega, ?_⟩
    simp [loopQ_normal]
    refine ⟨n / 10, toBytes [IntKind.u8.wrap (IntKind.i64.wrap (48 + (n : Int).tmod 10))] ++ out, ⟨?_, ?_⟩, by omega, rfl, ?_, ?_⟩
    · rw [ByteArray.size_append, h2]; omega
    · rw [← hd]; exact (digs_step (by omega) out).symm
    · simp
      exact i64_in (by omega) (by omega)
    · simp [hg]
  · have : n = 0 := by omega
    subst this
    rw [digs_zero] at hd
    subst hd
    have h2 : ({ data := #[109] } : ByteArray).size = 1 := rfl
    simp only [h2]
    refine ⟨by omega, ?_⟩
    exact retRO0 (by simp [mtext, h]) rfl rfl

/-! ### Joints and members -/
def mkJ (k n : Nat) : List J := (List.range n).map fun i => ⟨mtext (k + 4 * i), (k + 4 * i + 1 : Nat), (k + 4 * i + 2 : Nat), ((k + 4 * i + 3 : Nat) : Int).tmod 3 == 0⟩
@[simp] theorem mkJ_length (k n : Nat) : (mkJ k n).length = n := by simp [mkJ]
@[simp] theorem mkJ_getE (k n i : Nat) (h : i < (mkJ k n).length) : (mkJ k n)[i] = ⟨mtext (k + 4 * i), (k + 4 * i + 1 : Nat), (k + 4 * i + 2 : Nat), ((k + 4 * i + 3 : Nat) : Int).tmod 3 == 0⟩ := by simp [mkJ]
def mkM (k n : Nat) : List Mb := (List.range n).map fun i => ⟨(k + 3 * i : Nat), (k + 3 * i + 1 : Nat), (k + 3 * i + 2 : Nat)⟩
@[simp] theorem mkM_length (k n : Nat) : (mkM k n).length = n := by simp [mkM]
@[simp] theorem mkM_getE (k n i : Nat) (h : i < (mkM k n).length) : (mkM k n)[i] = ⟨(k + 3 * i : Nat), (k + 3 * i + 1 : Nat), (k + 3 * i + 2 : Nat)⟩ := by simp [mkM]

theorem upd_self {α β : Type} [DecidableEq α] (f : α → β) (a : α) (b : β) (h : f a = b) : upd f a b = f := by
  funext x
  simp only [upd_apply]
  split
  · rename_i hx; subst hx; exact h.symm
  · rfl

theorem markJointS_cp {bl : Int → Option Blk} {K : V → (Int → Option Blk) → Prop} (xs : List J) (k : Nat) (v : V) (gs : List Int) (h : OwnD bl (fl 4 (jv xs)) v gs) (hk : k + 4 * xs.length ≤ 4611686018427387000)
    (hK : ∀ bl', OwnD bl' (fl 4 (jv (mkJ k xs.length))) v gs → (∀ g, g ∉ gs → bl' g = bl g) → K (.int .i64 (k + 4 * xs.length : Nat)) bl') : CallP Try.prog 113 [v, .int .i64 k] bl K := by
  refine callP_of Try.func113 rfl rfl (by rw [Try.ntmps113]; simp) ?_
  rw [Try.ntmps113, Try.results113]
  refine AW_run ?_
  rcases own_jv.1 h with ⟨rfl, rfl, rfl⟩ | ⟨g, rfl, rfl, hb, hg0⟩
  · simp
    refine AW_for (fun _ : Unit => [(0, .nils), (1, .int .i64 k), (5, .int .i64 0)]) (fun _ => bl) (fun _ => True) (fun _ => 0) _ () trivial ⟨rfl, by simp, Sub.refl _⟩ ?_
    intro _ _
    refine AW_run ?_
    simp
    rw [retK_ret]
    refine ⟨[.int .i64 k], by simp, ?_⟩
    have := hK bl (own_jv.2 (.inl ⟨rfl, rfl, rfl⟩)) (fun _ _ => rfl)
    simpa using this
  · simp
    refine AW_for (fun i : Nat => [(0, .lsl g 4 0 xs.length), (1, .int .i64 (k + 4 * i : Nat)), (5, .int .i64 i)]) (fun i => upd bl g (some ⟨4, over (jv (mkJ k xs.length)) (jv xs) i⟩)) (fun i => i ≤ xs.length) (fun i => xs.length - i) _ 0 (Nat.zero_le _) ⟨rfl, by simp, sub_eq ?_⟩ ?_
    · exact (upd_self _ _ _ (by simpa using hb)).symm
    intro i hi
    refine AW_run ?_
    simp
    refine ⟨fun h1 => ?_, fun h1 => ?_⟩
    · have h2 : i < (jv xs).length := by simpa using h1
      have hge : 0 ≤ g := by
        rcases Int.lt_or_le g 0 with hlt | hge
        · have := hg0 hlt; subst this; simp at h1
        · exact hge
      have hgi := over_get (jv (mkJ k xs.length)) (jv xs) i (by simp) h2
      have hgE := over_getE (jv (mkJ k xs.length)) (jv xs) i (by simp) h2
      have hol : i < (over (jv (mkJ k xs.length)) (jv xs) i).length := by rw [over_length _ _ _ (by simp)]; exact h2
      have hm := markText_ro (k + 4 * i) (by omega)
      simp at hm
      simp [h1]
      refine callP_ro hm ?_
      simp (disch := omega) [h1, hgi, i64_in, J.c, hol, List.getElem?_set_self, List.set_set]
      simp only [loopQ_normal]
      refine ⟨i + 1, by omega, by omega, rfl, by simp; omega, sub_eq ?_⟩
      simp only [upd_idem]
      rw [over_set _ _ _ (by simp) (by simpa using h1) _ (by simp [hgE, J.c, Int.add_assoc])]
    · have hi' : i = xs.length := by omega
      subst hi'
      rw [retK_ret]
      refine ⟨[.int .i64 (k + 4 * xs.length : Nat)], by simp, ?_⟩
      refine hK _ (own_jv.2 (.inr ⟨g, by simp, rfl, ?_, fun h => by have := hg0 h; subst this; rfl⟩)) (fun g' hg' => ?_)
      · simp; rw [over_all _ _ _ (by simp) (by simp)]
      · simp at hg'; simp [hg']

theorem markMemberS_cp {bl : Int → Option Blk} {K : V → (Int → Option Blk) → Prop} (xs : List Mb) (k : Nat) (v : V) (gs : List Int) (h : OwnD bl (fl 3 (mv xs)) v gs) (hk : k + 3 * xs.length ≤ 4611686018427387000)
    (hK : ∀ bl', OwnD bl' (fl 3 (mv (mkM k xs.length))) v gs → (∀ g, g ∉ gs → bl' g = bl g) → K (.int .i64 (k + 3 * xs.length : Nat)) bl') : CallP Try.prog 114 [v, .int .i64 k] bl K := by
  refine callP_of Try.func114 rfl rfl (by rw [Try.ntmps114]; simp) ?_
  rw [Try.ntmps114, Try.results114]
  refine AW_run ?_
  rcases own_mv.1 h with ⟨rfl, rfl, rfl⟩ | ⟨g, rfl, rfl, hb, hg0⟩
  · simp
    refine AW_for (fun _ : Unit => [(0, .nils), (1, .int .i64 k), (5, .int .i64 0)]) (fun _ => bl) (fun _ => True) (fun _ => 0) _ () trivial ⟨rfl, by simp, Sub.refl _⟩ ?_
    intro _ _
    refine AW_run ?_
    simp
    rw [retK_ret]
    refine ⟨[.int .i64 k], by simp, ?_⟩
    have := hK bl (own_mv.2 (.inl ⟨rfl, rfl, rfl⟩)) (fun _ _ => rfl)
    simpa using this
  · simp
    refine AW_for (fun i : Nat => [(0, .lsl g 3 0 xs.length), (1, .int .i64 (k + 3 * i : Nat)), (5, .int .i64 i)]) (fun i => upd bl g (some ⟨3, over (mv (mkM k xs.length)) (mv xs) i⟩)) (fun i => i ≤ xs.length) (fun i => xs.length - i) _ 0 (Nat.zero_le _) ⟨rfl, by simp, sub_eq ?_⟩ ?_
    · exact (upd_self _ _ _ (by simpa using hb)).symm
    intro i hi
    refine AW_run ?_
    simp
    refine ⟨fun h1 => ?_, fun h1 => ?_⟩
    · have h2 : i < (mv xs).length := by simpa using h1
      have hge : 0 ≤ g := by
        rcases Int.lt_or_le g 0 with hlt | hge
        · have := hg0 hlt; subst this; simp at h1
        · exact hge
      have hgi := over_get (mv (mkM k xs.length)) (mv xs) i (by simp) h2
      have hgE := over_getE (mv (mkM k xs.length)) (mv xs) i (by simp) h2
      have hol : i < (over (mv (mkM k xs.length)) (mv xs) i).length := by rw [over_length _ _ _ (by simp)]; exact h2
      simp (disch := omega) [h1, hgi, i64_in, Mb.c, hol, List.getElem?_set_self, List.set_set]
      simp only [loopQ_normal]
      refine ⟨i + 1, by omega, by omega, rfl, by simp; omega, sub_eq ?_⟩
      simp only [upd_idem]
      rw [over_set _ _ _ (by simp) (by simpa using h1) _ (by simp [hgE, Mb.c, Int.add_assoc])]
    · have hi' : i = xs.length := by omega
      subst hi'
      rw [retK_ret]
      refine ⟨[.int .i64 (k + 3 * xs.length : Nat)], by simp, ?_⟩
      refine hK _ (own_mv.2 (.inr ⟨g, by simp, rfl, ?_, fun h => by have := hg0 h; subst this; rfl⟩)) (fun g' hg' => ?_)
      · simp; rw [over_all _ _ _ (by simp) (by simp)]
      · simp at hg'; simp [hg']

/-- The marks of a structure from k on. -/
def mkS (k : Nat) (s : Str) : Str := ⟨mkJ k s.js.length, mkM (k + 4 * s.js.length) s.ms.length⟩
def mkN (k : Nat) (s : Str) : Nat := k + 4 * s.js.length + 3 * s.ms.length

theorem markStructure_cp {bl : Int → Option Blk} {K : V → (Int → Option Blk) → Prop} (s : Str) (k : Nat) (vs : List V) (gs : List Int) (h : OwnL bl (dStr s) vs gs) (hk : mkN k s ≤ 4611686018427387000)
    (hK : ∀ bl', OwnL bl' (dStr (mkS k s)) vs gs → (∀ g, g ∉ gs → ∀ b, bl g = some b → bl' g = some b) → K (.int .i64 (mkN k s : Nat)) bl') : CallP Try.prog 61 [.agg vs, .int .i64 k] bl K := by
  obtain ⟨v, w, g1, g2, rfl, rfl, hd, o1, o2⟩ := own_pair.1 h
  obtain ⟨c1, c2⟩ := o1.one
  obtain ⟨d1, d2⟩ := o2.one
  unfold mkN at hk
  refine callP_of Try.func61 rfl rfl (by rw [Try.ntmps61]; simp) ?_
  rw [Try.ntmps61, Try.results61]
  refine AW_run ?_
  simp [c1, d1]
  intro g hg0 hg
  have f1 : ∀ x, x ∈ g1 → x ≠ g := fun x hx h => by obtain ⟨b, hb⟩ := o1.has x hx; rw [h, hg] at hb; cases hb
  have f2 : ∀ x, x ∈ g2 → x ≠ g := fun x hx h => by obtain ⟨b, hb⟩ := o2.has x hx; rw [h, hg] at hb; cases hb
  refine markJointS_cp s.js k v g1 (o1.frame fun x hx => by simp [f1 x hx]) (by omega) fun b1 p1 q1 => ?_
  have n1 : b1 g = some ⟨2, [[v, w]]⟩ := by rw [q1 g (fun h => f1 g h rfl)]; simp
  have p2 : OwnD b1 (fl 3 (mv s.ms)) w g2 := o2.frame fun x hx => by rw [q1 x (fun h => hd x h hx)]; simp [f2 x hx]
  simp [n1]
  have := markMemberS_cp (bl := b1) (K := K) s.ms (k + 4 * s.js.length) w g2 p2 (by omega)
  refine markMemberS_cp s.ms (k + 4 * s.js.length) w g2 p2 (by omega) fun b2 p3 q3 => ?_
  simp
  rw [retK_ret]
  refine ⟨[_], by simp; rfl, ?_⟩
  have := hK b2 (own_pair.2 ⟨v, w, g1, g2, rfl, rfl, hd, p1.frame fun x hx => q3 x (hd x hx), p3⟩) (fun x hx b hb => ?_)
  · simpa [mkN] using this
  · simp at hx
    rw [q3 x hx.2, q1 x hx.1]
    simp only [upd_apply]
    rw [if_neg (fun e => by subst e; rw [hg] at hb; cases hb)]; exact hb

end Go.Proofs.Ytpkphjoobeacfaa.Vm
