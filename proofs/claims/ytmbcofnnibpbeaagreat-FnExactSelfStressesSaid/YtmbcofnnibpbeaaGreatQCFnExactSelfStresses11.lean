/- FnExactSelfStresses: for every structure the program's SelfStresses returns what the reference's returns; no condition. -/



import Derived.Test.YtmbcofnnibpbeaaGreatQCFnExactSelfStresses10

namespace Go.Proofs.YtmbcofnnibpbeaaGreat.Vm
open Go Go.RowKit Go.Proofs
set_option linter.unusedSimpArgs false
set_option linter.unusedVariables false

theorem MI_make {P : Program} {gb : Int → Option Blk} {n : Nat} {L : List (Nat × V)} {w0 : World} {M F : Nat → Prop} {a : Act} {w : World} {id d0 tm : Nat} {t ty1 ty2 : TypeId} {p1 p2 : String} {a1 a2 : Array Edge} (hd : d0 < n)
    (hfit : ∀ b, Fit ((tm, .mp b) :: L) n gb (((⟨n, hv L, gb⟩ : St).put (some d0) (.mp b)).put (some tm) (.mp b))) (hs : Sim w0 M F ⟨n, hv L, gb⟩ a w) :
    (Code.region id #[⟨some d0, .makeMap t none, ty1, p1, a1, none⟩, ⟨some tm, .assign (.tmp d0), ty2, p2, a2, none⟩] false).wp P (fun e a' w' => e = .normal ∧ ∃ b, MI gb n ((tm, .mp b) :: L) b [] w0 M F a' w') a w := by
  refine wp_region_list ?_
  refine wl_makeMap (wl_assign ?_)
  have hsame : ∀ k, k < w.heap.size → (w.alloc (.map #[] 0)).heap[k]? = w.heap[k]? := fun k hk => Below.heap_alloc _ _ _ hk
  have hsz : (w.alloc (.map #[] 0)).heap.size = w.heap.size + 1 := by show (w.heap.push _).size = _; simp
  have hm1 : Mem w0 M F gb (w.alloc (.map #[] 0)) := hs.mem.grow rfl rfl rfl (by omega) hsame (fun _ h => h) (fun k hk => by have := hs.mem.fr k hk; omega) (fun k hk => .inl hk)
  have hs1 : Sim w0 M F ⟨n, hv L, gb⟩ a (w.alloc (.map #[] 0)) := ⟨hm1, hs.size, fun u hu => (hs.sl u hu).mono (fun _ h => h) (fun k hk => hsame k (hs.mem.fr k hk)) (.of_same hsame), hs.defers⟩
  have hs2 := hs1.put (d := some d0) (.mp w.heap.size)
  have hs3 := hs2.put (d := some tm) (hs2.ev (.tmp d0))
  have e1 : ((⟨n, hv L, gb⟩ : St).put (some d0) (.mp w.heap.size)).ev (.tmp d0) = .mp w.heap.size := by
    show (if d0 < n then upd (hv L) d0 (.mp w.heap.size) d0 else .junk) = _
    rw [if_pos hd, upd_same]
  rw [e1] at hs3
  refine ⟨rfl, w.heap.size, hs.mem.size, ⟨#[], 0, ?_, rfl⟩, F, fun _ h => h, hs3.le (le_hv (hfit _))⟩
  show (w.heap.push _)[w.heap.size]? = _
  simp
theorem MI_read {gb : Int → Option Blk} (hgb : Ghosts gb) {n : Nat} {S : List (Nat × V)} {b tm : Nat} {E : List (Int × Int)} {w0 : World} {M F : Nat → Prop} {a : Act} {w : World} (hm : MI gb n ((tm, .mp b) :: S) b E w0 M F a w) : ∃ F', (∀ k, F k → F' k) ∧ Sim w0 M F' ⟨n, hv ((tm, .mpf E) :: S), gb⟩ a w := by
  obtain ⟨hb0, ⟨ents, clock, hb, he⟩, F1, hF1, hs⟩ := hm
  have hbs : b < w.heap.size := (Array.getElem?_eq_some_iff.1 hb).1
  have hmem : Mem w0 M (fun k => F1 k ∨ k = b) gb w := ⟨hs.mem.os, hs.mem.tape, hs.mem.output, hs.mem.size, hs.mem.frame, hs.mem.shapes, fun k hk => by
    rcases hk with hk | hk
    · exact hs.mem.fr k hk
    · omega, hs.mem.fin, fun g y hg h0 => absurd (hgb g y hg) (by omega), fun g y hg => ghost_blk (hgb g y hg) (hs.mem.blk g y hg)⟩
  refine ⟨fun k => F1 k ∨ k = b, fun k hk => .inl (hF1 k hk), hmem, hs.size, fun u hu => ?_, hs.defers⟩
  have h1 := hs.sl u hu
  show Rep _ w (if u = tm then .mpf E else hv S u) _
  have h2 : hv ((tm, .mp b) :: S) u = if u = tm then .mp b else hv S u := rfl
  by_cases e : u = tm
  · rw [if_pos e]
    change Rep F1 w (hv ((tm, .mp b) :: S) u) _ at h1
    rw [h2, if_pos e] at h1
    generalize a.tmps.getD u undef = v at h1
    cases h1
    exact .mpf b E ents clock (.inr rfl) hb he
  · rw [if_neg e]
    change Rep F1 w (hv ((tm, .mp b) :: S) u) _ at h1
    rw [h2, if_neg e] at h1
    exact h1.mono (fun k hk => .inl hk) (fun _ _ => rfl) (.refl w)
/-- The places of a list's elements, up to one. -/
def plc (ks : List Int) (i : Nat) : List (Int × Int) := ((ks.take i).zipIdx).map fun p => (p.1, (p.2 : Int))
theorem plc_succ (ks : List Int) (i : Nat) (h : i < ks.length) : plc ks (i + 1) = plc ks i ++ [(ks[i], (i : Int))] := by
  unfold plc
  rw [List.take_succ_eq_append_getElem h, List.zipIdx_append, List.map_append]
  simp [Nat.min_eq_left (Nat.le_of_lt h)]
theorem plc_length (ks : List Int) (i : Nat) (h : i ≤ ks.length) : (plc ks i).length = i := by simp [plc, h]
theorem AW_mapLoop {P : Program} {gb : Int → Option Blk} (hgb : Ghosts gb) {K : Ex → St → Prop} {n : Nat} (L S5 : List (Nat × V)) (ks : List Int) {tm ti tc tk tv d0 d1 d2 d3 id4 id8 i0 i1 : Nat} {t u1 u2 ty1 ty2 ty3 ty4 : TypeId} {o1 o2 p1 p2 p3 p4 : String} {c1 c2 a1 a2 a3 a4 : Array Edge} {r5 r6 r7 r9 rest : Code}
    (hd : d0 < n) (hfit4 : ∀ b, Fit ((tm, .mp b) :: L) n gb (((⟨n, hv L, gb⟩ : St).put (some d0) (.mp b)).put (some tm) (.mp b)))
    (h5 : ∀ b, AW P r5 (fun e σ' => e = .normal ∧ Fit ((tm, .mp b) :: (ti, .int .i64 (0 : Nat)) :: S5) n gb σ') ⟨n, hv ((tm, .mp b) :: L), gb⟩)
    (h6 : ∀ (b i : Nat), i ≤ ks.length → AW P r6 (fun e σ' => e = .normal ∧ Fit ((tc, .bool (decide (i < ks.length))) :: (tm, .mp b) :: (ti, .int .i64 i) :: S5) n gb σ') ⟨n, hv ((tm, .mp b) :: (ti, .int .i64 i) :: S5), gb⟩)
    (h7 : ∀ (b i : Nat) (h : i < ks.length), AW P r7 (fun e σ' => e = .normal ∧ Fit ((tk, .int .i64 ks[i]) :: (tv, .int .i64 i) :: (tm, .mp b) :: (ti, .int .i64 i) :: S5) n gb σ') ⟨n, hv ((tc, .bool true) :: (tm, .mp b) :: (ti, .int .i64 i) :: S5), gb⟩)
    (h9 : ∀ (b i : Nat) (h : i < ks.length), AW P r9 (fun e σ' => e = .normal ∧ Fit ((tm, .mp b) :: (ti, .int .i64 (i + 1 : Nat)) :: S5) n gb σ') ⟨n, hv ((tk, .int .i64 ks[i]) :: (tv, .int .i64 i) :: (tm, .mp b) :: (ti, .int .i64 i) :: S5), gb⟩)
    (hnm : ∀ p, p ∈ S5 → p.2.nm = true) (htc : tc < n) (hlt : d1 < n ∧ d2 < n ∧ d3 < n ∧ tm < n ∧ tk < n ∧ tv < n) (hne : d1 ≠ d2 ∧ d1 ≠ d3 ∧ d2 ≠ d3 ∧ tk ≠ d1 ∧ tv ≠ d1 ∧ tv ≠ d2) (hne2 : tm ≠ tk ∧ tm ≠ tv ∧ tv ≠ tk)
    (hfit8 : ∀ (b i : Nat) (k v : Int), Fit ((tk, .int .i64 k) :: (tv, .int .i64 v) :: (tm, .mp b) :: (ti, .int .i64 i) :: S5) n gb ((((⟨n, hv ((tk, .int .i64 k) :: (tv, .int .i64 v) :: (tm, .mp b) :: (ti, .int .i64 i) :: S5), gb⟩ : St).put (some d1) (.mp b)).put (some d2) (.int .i64 k)).put (some d3) (.int .i64 v)))
    (hfitE : ∀ (b i : Nat) (q : Bool), Fit ((tm, .mp b) :: S5) n gb ⟨n, hv ((tc, .bool q) :: (tm, .mp b) :: (ti, .int .i64 i) :: S5), gb⟩)
    (ht : mapT P t = true) (hnew : ∀ i (h : i < ks.length), mfind (plc ks i) ks[i] = none)
    (hK : AW P rest K ⟨n, hv ((tm, .mpf (plc ks ks.length)) :: S5), gb⟩) :
    AW P (.seq (.region id4 #[⟨some d0, .makeMap t none, u1, o1, c1, none⟩, ⟨some tm, .assign (.tmp d0), u2, o2, c2, none⟩] false)
      (.seq (.seq r5 (.block i0 (.loop (.seq r6 (.seq (.cond (.tmp tc) .skip (.exit i0)) (.seq (.block i1 (.seq r7 (.region id8 #[⟨some d1, .move (.tmp tm), ty1, p1, a1, none⟩, ⟨some d2, .move (.tmp tk), ty2, p2, a2, none⟩, ⟨some d3, .move (.tmp tv), ty3, p3, a3, none⟩, ⟨none, .mapUpdate t (.tmp d1) (.tmp d2) (.tmp d3), ty4, p4, a4, none⟩] false))) r9)))))) rest)) K ⟨n, hv L, gb⟩ := by
  intro w0 M F a w hs
  refine wp_seq (wp_mono (MI_make hd hfit4 hs) ?_)
  rintro e a1 w1 ⟨rfl, b, hm⟩
  refine wp_seq (wp_seq (wp_mono (MI_step hgb (h5 b) hm) ?_))
  rintro e a2 w2 ⟨rfl, hm⟩
  refine wp_block (wp_loop (fun a' w' => ∃ i, i ≤ ks.length ∧ MI gb n ((tm, .mp b) :: (ti, .int .i64 (i : Nat)) :: S5) b (plc ks i) w0 M F a' w') (fun _ w' => match w'.heap[b]? with | some (.map es _) => ks.length - es.size | _ => 0) ⟨0, Nat.zero_le _, hm⟩ ?_)
  have meas : ∀ {S : List (Nat × V)} {i : Nat} {a' : Act} {w' : World}, i ≤ ks.length → MI gb n S b (plc ks i) w0 M F a' w' → (match w'.heap[b]? with | some (.map es _) => ks.length - es.size | _ => 0) = ks.length - i := fun {S i a' w'} hi hm => by
    obtain ⟨_, ⟨ents, clock, hb, he⟩, _⟩ := hm
    have := congrArg List.length he
    simp only [List.length_map, plc_length ks i hi, Array.length_toList] at this
    rw [hb]
    show ks.length - ents.size = _
    rw [this]
  rintro a3 w3 ⟨i, hi, hm⟩
  have hμ := meas hi hm
  refine wp_seq (wp_mono (MI_step hgb (h6 b i hi) hm) ?_)
  rintro e a4 w4 ⟨rfl, hm⟩
  obtain ⟨F4, hF4, hs4⟩ := hm.2.2
  have hc := hs4.ev (.tmp tc)
  have ec : (⟨n, hv ((tc, .bool (decide (i < ks.length))) :: (tm, .mp b) :: (ti, .int .i64 i) :: S5), gb⟩ : St).ev (.tmp tc) = .bool (decide (i < ks.length)) := by
    show (if tc < n then hv _ tc else .junk) = _
    rw [if_pos htc]
    show (if tc = tc then _ else _) = _
    rw [if_pos rfl]
  rw [ec] at hc
  have hcv : a4.eval (.tmp tc) = .bool (decide (i < ks.length)) := by
    generalize a4.eval (.tmp tc) = v at hc
    cases hc; rfl
  refine wp_seq (wp_cond_split hcv (fun h => ?_) (fun h => ?_))
  · have hlt2 : i < ks.length := by simpa using h
    rw [h] at hm
    refine wp_skip ?_
    refine wp_seq (wp_block (wp_seq (wp_mono (MI_step hgb (h7 b i hlt2) hm) ?_)))
    rintro e a5 w5 ⟨rfl, hm⟩
    refine wp_mono (MI_update hgb (n := n) (b := b) (E := plc ks i) (k := ks[i]) (v := i) ?_ hlt hne (hfit8 b i _ _) ?_ ?_ ?_ ht (hnew i hlt2) hm) ?_
    · intro p hp
      rcases List.mem_cons.1 hp with rfl | hp
      · rfl
      · rcases List.mem_cons.1 hp with rfl | hp
        · rfl
        · rcases List.mem_cons.1 hp with rfl | hp
          · rfl
          · rcases List.mem_cons.1 hp with rfl | hp
            · rfl
            · exact hnm p hp
    · simp [hv, hne2.1, hne2.2.1]
    · simp [hv]
    · simp [hv, hne2.2.2]
    rintro e a6 w6 ⟨rfl, hm⟩
    rw [← plc_succ ks i hlt2] at hm
    refine wp_mono (MI_step hgb (h9 b i hlt2) hm) ?_
    rintro e a7 w7 ⟨rfl, hm⟩
    refine ⟨⟨i + 1, hlt2, hm⟩, ?_⟩
    have := meas (i := i + 1) hlt2 hm
    rw [this, hμ]
    omega
  · have hge : ks.length ≤ i := by simpa using h
    have hi2 : i = ks.length := by omega
    subst hi2
    refine wp_exit ?_
    show (if i0 = i0 then _ else _)
    rw [if_pos rfl]
    obtain ⟨hb0, hE, F5, hF5, hs5⟩ := hm
    have hm2 : MI gb n ((tm, .mp b) :: S5) b (plc ks ks.length) w0 M F a4 w4 := ⟨hb0, hE, F5, hF5, hs5.le (le_hv (hfitE b _ _))⟩
    obtain ⟨F6, hF6, hs6⟩ := MI_read hgb hm2
    exact wp_mono (hK w0 M F6 _ _ hs6) fun e a' w' hp => hp.weaken hF6
end Go.Proofs.YtmbcofnnibpbeaaGreat.Vm

namespace Go.Proofs.YtmbcofnnibpbeaaGreat.Vm
open Go Go.RowKit Go.Proofs
set_option linter.unusedSimpArgs false
set_option linter.unusedVariables false

def ROg (P : Program) (f : FuncId) (xs : List V) (r : V) : Prop := ∀ bl, Ghosts bl → CallP P f xs bl fun v bl' => v = r ∧ bl' = bl
def NWg (P : Program) (f : FuncId) (xs : List V) (d : D) : Prop := ∀ bl, Ghosts bl → CallP P f xs bl (Made bl d)
theorem callP_borrowG {P : Program} {bl : Int → Option Blk} {f : FuncId} {xs ys : List V} {r : V} {k : V → (Int → Option Blk) → Prop} (n : Nat) (hx : frzL bl n xs = some ys) (h : ROg P f ys r) (hr : r.sc = true) (hk : k r bl) : CallP P f xs bl k := by
  have h0 := h (fun _ => none) (fun g y hg => by cases hg)
  refine ⟨h0.1, fun w0 M F w vs hm hrep => ?_⟩
  have hm1 : Mem w (Own bl) (fun k => F k ∨ Own (dropB bl fun _ => none) k) (fun _ => none) w := hm.start.freeze (fun g b hb => by cases hb)
  have hlen := frzL_get hx
  have hreps : Reps (fun k => F k ∨ Own (dropB bl fun _ => none) k) w ys vs := by
    refine ⟨by rw [hrep.1, hlen.1], fun i y hy => ?_⟩
    obtain ⟨x, h1, h2⟩ := hlen.2 i y hy
    exact frz_sound (fun g b hb => hm.blk g b hb) (fun g b hb h0 => .inr ⟨g, b, by unfold dropB; exact hb, h0, rfl⟩) (fun b hb => .inl hb) n x y _ (hrep.2 i x h1) h2
  refine (h0.2 w (Own bl) _ w vs hm1 hreps).mono fun e w' ⟨v, x, bl', F', h1, h2, h3, h4, h5, h6, h7, h8⟩ => ?_
  subst h7 h8
  have hF : ∀ b, F b → w'.heap[b]? = w.heap[b]? := fun b hb => h3 b (.inl hb)
  have hO : ∀ g b, bl g = some b → 0 ≤ g → w'.heap[g.toNat]? = w.heap[g.toNat]? := fun g b hb h0 => h3 _ (.inr ⟨g, b, by unfold dropB; exact hb, h0, rfl⟩)
  refine ⟨v, x, bl, F, h1, fun _ h => h, hF, h4, ?_, rep_sc hr h6, hk⟩
  refine hm.step h5.os h5.tape h5.output h5.size h4 (fun k => Own bl k) (fun k hk hX => h5.frame k hk hX) (fun k hk => by obtain ⟨g, b, hb, h0, rfl⟩ := hk; exact hm.own g b hb h0)
    (fun k hk => Nat.lt_of_lt_of_le (hm.fr k hk) h5.size) hm.fin fun g b hb => ⟨hm.own g b hb, ?_⟩
  refine (hm.blk g b hb).mono (fun _ h => h) (fun h0 hFg => ?_) hF h4 (fun h0 => hO g b hb h0)
  have := hm.blk g b hb
  unfold BlkIn at this
  rw [if_neg (by omega)] at this
  exact this.1 hFg
theorem callP_lendG {P : Program} {bl : Int → Option Blk} {f : FuncId} {xs ys : List V} {d : D} {k : V → (Int → Option Blk) → Prop} (n : Nat) (hx : frzL bl n xs = some ys) (h : NWg P f ys d) (hd : d.sc = true)
    (hk : ∀ v gs bl', OwnD bl' d v gs → (∀ g, g ∈ gs → bl g = none) → (∀ g, g ∉ gs → bl' g = bl g) → k v bl') : CallP P f xs bl k := by
  have h0 := h (fun g => if g < 0 then bl g else none) (fun g y hg => by
    simp only at hg
    split at hg
    · assumption
    · cases hg)
  refine ⟨h0.1, fun w0 M F w vs hm hrep => ?_⟩
  have hsub : Sub (fun g => if g < 0 then bl g else none) bl := fun g b hb => by
    simp only at hb; split at hb
    · exact hb
    · cases hb
  have hm1 := hm.start.freeze hsub
  have hown : ∀ g b, bl g = some b → 0 ≤ g → (F g.toNat ∨ Own (dropB bl fun g => if g < 0 then bl g else none) g.toNat) := fun g b hb h0 =>
    .inr ⟨g, b, by unfold dropB; simp only; rw [if_neg (by omega)]; exact hb, h0, rfl⟩
  have hlen := frzL_get hx
  have hreps : Reps (fun k => F k ∨ Own (dropB bl fun g => if g < 0 then bl g else none) k) w ys vs := by
    refine ⟨by rw [hrep.1, hlen.1], fun i y hy => ?_⟩
    obtain ⟨x, h1, h2⟩ := hlen.2 i y hy
    exact frz_sound (fun g b hb => hm.blk g b hb) hown (fun b hb => .inl hb) n x y _ (hrep.2 i x h1) h2
  refine (h0.2 w (Own bl) _ w vs hm1 hreps).mono fun e w' ⟨v, x, bl', F', h1, h2, h3, h4, h5, h6, gs, h7, h8, h9⟩ => ?_
  have hF : ∀ b, F b → w'.heap[b]? = w.heap[b]? := fun b hb => h3 b (.inl hb)
  have hO : ∀ g b, bl g = some b → 0 ≤ g → w'.heap[g.toNat]? = w.heap[g.toNat]? := fun g b hb h0 => h3 _ (hown g b hb h0)
  obtain ⟨k1, k2⟩ := h7.ow hd
  have hnew : ∀ g, g ∈ gs → bl g = none := fun g hg => by
    have h10 := h8 g hg
    simp only at h10
    split at h10
    · exact h10
    · rename_i hg0
      cases hb : bl g with
      | none => rfl
      | some b =>
        obtain ⟨b', hb'⟩ := h7.has g hg
        have := h5.blk g b' hb'
        unfold BlkIn at this
        rw [if_neg hg0] at this
        exact absurd (h2 _ (hown g b hb (by omega))) this.1
  refine ⟨v, x, fun g => if g ∈ gs then bl' g else bl g, F, h1, fun _ h => h, hF, h4, ?_, rep_ow k1 h6, hk x gs _ (h7.frame fun g hg => by simp [hg]) hnew fun g hg => by simp [hg]⟩
  refine hm.step h5.os h5.tape h5.output h5.size h4 (fun k => Own bl k) (fun k hk hX => h5.frame k hk hX) (fun k hk => by obtain ⟨g, b, hb, h0, rfl⟩ := hk; exact hm.own g b hb h0)
    (fun k hk => Nat.lt_of_lt_of_le (hm.fr k hk) h5.size) ?_ fun g b hb => ?_
  · obtain ⟨n1, hn1⟩ := hm.fin
    obtain ⟨n2, hn2⟩ := h5.fin
    refine ⟨min n1 n2, fun g hg => ?_⟩
    split
    · exact hn2 g (by omega)
    · exact hn1 g (by omega)
  · split at hb
    · rename_i hg
      have hB := h5.blk g b hb
      refine ⟨fun h0 => ?_, ?_⟩
      · rcases h5.own g b hb h0 with h11 | ⟨g', b', hb', h0', he⟩
        · exact .inl (Nat.le_trans hm.size h11)
        · have : g' = g := by omega
          subst this
          rw [hnew g' hg] at hb'; cases hb'
      · unfold BlkIn at hB ⊢
        split
        · rename_i hg0; rw [if_pos hg0] at hB; exact hB
        · rename_i hg0
          rw [if_neg hg0] at hB
          obtain ⟨c1, c, t, c2, c3, c4⟩ := hB
          refine ⟨fun hFg => c1 (h2 _ (.inl hFg)), c, t, c2, c3, fun k e he => ⟨(c4 k e he).1, fun j y hy => ?_⟩⟩
          obtain ⟨c5, u, c6, c7⟩ := (c4 k e he).2 j y hy
          obtain ⟨sz, els, c8, c9⟩ := k2 g hg
          rw [hb] at c8
          cases c8
          exact ⟨c5, u, c6, rep_ow (c9 e (List.mem_of_getElem? he) y (List.mem_of_getElem? hy)) c7⟩
    · refine ⟨hm.own g b hb, ?_⟩
      refine (hm.blk g b hb).mono (fun _ h => h) (fun h0 hFg => ?_) hF h4 (fun h0 => hO g b hb h0)
      have := hm.blk g b hb
      unfold BlkIn at this
      rw [if_neg (by omega)] at this
      exact this.1 hFg
theorem frz_self {bl : Int → Option Blk} {n : Nat} : ∀ {xs : List V}, frzL bl n xs = some xs → frzL bl n xs = some xs := fun h => h
/-- What holds without blocks holds with them, if the result is a plain value. -/
theorem ro_of_g {P : Program} {f : FuncId} {xs : List V} {r : V} (n : Nat) (hx : ∀ bl, frzL bl n xs = some xs) (h : ROg P f xs r) (hr : r.sc = true) : RO P f xs r := fun bl => callP_borrowG n (hx bl) h hr ⟨rfl, rfl⟩
theorem nw_of_g {P : Program} {f : FuncId} {xs : List V} {d : D} (n : Nat) (hx : ∀ bl, frzL bl n xs = some xs) (h : NWg P f xs d) (hd : d.sc = true) : NW P f xs d := fun bl => callP_lendG n (hx bl) h hd fun v gs bl' o f fr => ⟨gs, o, f, fr⟩
theorem callP_rog {P : Program} {f : FuncId} {xs : List V} {bl : Int → Option Blk} {r : V} {k : V → (Int → Option Blk) → Prop} (hb : Ghosts bl) (h : ROg P f xs r) (hk : k r bl) : CallP P f xs bl k := (h bl hb).mono fun v b ⟨hv, hb⟩ => by subst hv hb; exact hk
theorem callP_nwg {P : Program} {f : FuncId} {xs : List V} {bl : Int → Option Blk} {d : D} {k : V → (Int → Option Blk) → Prop} (hb : Ghosts bl) (h : NWg P f xs d) (hk : ∀ v gs bl', OwnD bl' d v gs → (∀ g, g ∈ gs → bl g = none) → (∀ g, g ∉ gs → bl' g = bl g) → k v bl') : CallP P f xs bl k := (h bl hb).mono fun v b ⟨gs, o, f, fr⟩ => hk v gs b o f fr
theorem rog_of_nwg {P : Program} {f : FuncId} {xs : List V} {d : D} (n : Nat) (h : NWg P f xs d) (hn : d.dep n) : ROg P f xs d.fz := fun bl hb => callP_frz ((h bl hb).mono fun v b' ⟨gs, o, f, fr⟩ => ⟨n, (o.frame (bl' := dropB b' bl) fun x hx => by simp [dropB, f x hx]).frz hn, fun x y hx => new_keep f fr hx⟩) ⟨rfl, rfl⟩
end Go.Proofs.YtmbcofnnibpbeaaGreat.Vm

namespace Go.Proofs.YtmbcofnnibpbeaaGreat.Vm
open Go Go.RowKit Go.Proofs
set_option linter.unusedSimpArgs false
set_option linter.unusedVariables false

theorem mfind_snoc (k v n : Int) : ∀ (E : List (Int × Int)), mfind (E ++ [(k, v)]) n = match mfind E n with | some x => some x | none => if n = k then some v else none
  | [] => by simp [mfind]
  | p :: E => by
    have ih := mfind_snoc k v n E
    simp only [List.cons_append, mfind]
    by_cases h : n = p.1
    · simp [h]
    · simp only [if_neg h, ih]
theorem mfind_plc (P : List Nat) (j : Nat) : ∀ i, i ≤ P.length → mfind (plc (pz P) i) j = (ix (P.take i) j).map fun (x : Nat) => (x : Int)
  | 0, _ => by simp [plc, mfind, ix]
  | i + 1, h => by
    have ih := mfind_plc P j i (by omega)
    rw [plc_succ _ _ (by simp; omega), mfind_snoc, ih, List.take_succ_eq_append_getElem (by omega : i < P.length), ix_snoc]
    have e : (pz P)[i]'(by simp; omega) = (P[i] : Int) := by simp [pz]
    rw [e]
    cases ix (P.take i) j with
    | some t => rfl
    | none =>
      simp only [Option.map_none]
      by_cases h1 : P[i] = j
      · simp [h1, Nat.min_eq_left (show i ≤ P.length by omega)]
      · rw [if_neg h1, if_neg (by omega)]; rfl
theorem mfind_all (P : List Nat) (j : Nat) : mfind (plc (pz P) P.length) j = (ix P j).map fun (x : Nat) => (x : Int) := by
  rw [mfind_plc P j _ (Nat.le_refl _), List.take_length]
def nulI (r c : Nat) (M : MF) : V := match redTo r c M c with
  | some s => .tup [.sl (gv (nullsTo s.M s.P c c)), .bool true]
  | none => .tup [.sl [], .bool false]
theorem map_ty : mapT Tryz.prog 155 = true := by kernel_rfl
structure NJ where
  k : Nat
  g : Int
theorem nulls_g (r c : Nat) (M : MF) (hr : r ≤ 24) (hc : c ≤ 24) (hM : ∀ i j, okQ (M i j)) (hM0 : okM r c M = true) : ROg Tryz.prog 58 [.agg [.int .i64 r, .int .i64 c, .sl (gv (gridOf r c M))]] (nulI r c M) := by
  intro bl hgb
  refine callP_frz (r := nulI r c M) (bl2 := bl) (show CallP _ _ _ bl (ROk bl (nulI r c M)) from ?_) ⟨rfl, rfl⟩
  refine callP_of Tryz.func58 rfl rfl (by rw [Tryz.ntmps58]; simp) ?_
  rw [Tryz.ntmps58, Tryz.results58]
  refine AW_runA ?_
  simp
  intro g1 hg1 hb1
  refine AW_frzAt 1 1 (.ptr [.int .i64 r, .int .i64 c, .sl (gv (gridOf r c M))]) bl (by simp [hb1]) (by simp [frz, dropB, hb1, V.cl]) ?_
  refine AW_runA ?_
  simp
  refine reduce_cp r c M hr hc hM hM0 (fun s w p d b' hs hsb wo wc po pc hw hp => ?_) (fun b' hs hsb => ?_)
  · have hri := redTo_ri hM0 hM c (Nat.le_refl _) s hs
    have hPl := hri.le
    have er : nulI r c M = .tup [.sl (gv (nullsTo s.M s.P c c)), .bool true] := by unfold nulI; rw [hs]
    rw [er]
    simp [wo, wc, po, pc]
    intro g4 hg4 hb4
    have hb4' : bl g4 = none := fresh_of hsb hb4
    have hfz : frz (dropB (upd b' g4 (some ⟨5, [[.int .i64 r, .int .i64 c, w, p, fv d]]⟩)) bl) 3 (.loc g4 5 0 0) = some (.ptr [.int .i64 r, .int .i64 c, .sl (gv (gridOf r c s.M)), .sl (iv (pz s.P)), fv d]) := by
      have hmo : Sub (dropB b' bl) (dropB (upd b' g4 (some ⟨5, [[.int .i64 r, .int .i64 c, w, p, fv d]]⟩)) bl) := fun x y hx => by
        unfold dropB at hx ⊢
        have : x ≠ g4 := fun e => by rw [e, hb4', hb4] at hx; cases hx
        rw [upd_ne _ _ _ _ this]; exact hx
      rw [frz_loc0 (e := [.int .i64 r, .int .i64 c, w, p, fv d]) (by simp [dropB, hb4'])]
      simp only [List.mapM_cons, List.mapM_nil, frz_mono hmo 2 hw, frz_mono hmo 2 hp, fv_frz, show ∀ (B : Int → Option Blk) (k : Int), frz B 2 (.int .i64 k) = some (.int .i64 k) from fun B k => by simp [frz]]
      rfl
    refine AW_frzAt 3 4 (.ptr [.int .i64 r, .int .i64 c, .sl (gv (gridOf r c s.M)), .sl (iv (pz s.P)), fv d]) bl (hsb.upd hb4' _) (by simpa using hfz) ?_
    refine AW_runA ?_
    simp
    refine AW_at [(1, .ptr [.int .i64 r, .int .i64 c, .sl (gv (gridOf r c M))]), (2, .nils), (3, .bool false), (4, .ptr [.int .i64 r, .int .i64 c, .sl (gv (gridOf r c s.M)), .sl (iv (pz s.P)), fv d])] 97 bl ⟨rfl, by simp, Sub.refl _⟩ ?_
    refine AW_mapLoop hgb [(1, .ptr [.int .i64 r, .int .i64 c, .sl (gv (gridOf r c M))]), (2, .nils), (3, .bool false), (4, .ptr [.int .i64 r, .int .i64 c, .sl (gv (gridOf r c s.M)), .sl (iv (pz s.P)), fv d])] [(1, .ptr [.int .i64 r, .int .i64 c, .sl (gv (gridOf r c M))]), (2, .nils), (3, .bool false), (4, .ptr [.int .i64 r, .int .i64 c, .sl (gv (gridOf r c s.M)), .sl (iv (pz s.P)), fv d]), (26, .sl (iv (pz s.P))), (27, .int .i64 s.P.length)] (pz s.P) (tm := 6) (ti := 28) (tc := 29) (tk := 8) (tv := 7) (by omega) (fun b => ⟨rfl, by simp, Sub.refl _⟩) (fun b => ?_) (fun b i hi => ?_) (fun b i hi => ?_) (fun b i hi => ?_) ?_ (by omega) (by omega) (by omega) (by omega) (fun b i k v => ⟨rfl, by simp, Sub.refl _⟩) (fun b i q => ⟨rfl, by simp, Sub.refl _⟩) map_ty (fun i hi => ?_) ?_
    · refine AW_run ?_
      simp
      exact ⟨rfl, by simp, Sub.refl _⟩
    · refine AW_run ?_
      simp
      exact ⟨rfl, by simp, Sub.refl _⟩
    · have hi' : i < s.P.length := by simpa using hi
      refine AW_run ?_
      simp [hi']
      exact ⟨rfl, by simp [hi'], Sub.refl _⟩
    · have hi' : i < s.P.length := by simpa using hi
      have wi : IntKind.i64.wrap ((i : Int) + 1) = (i : Int) + 1 := i64_in (by omega) (by omega)
      refine AW_run ?_
      simp [wi]
      exact ⟨rfl, by simp [wi], Sub.refl _⟩
    · intro q hq
      simp only [List.mem_cons, List.not_mem_nil, or_false] at hq
      rcases hq with rfl | rfl | rfl | rfl | rfl | rfl
      · simp [V.nm, V.nmL]; have := nm_gv (gridOf r c M); rwa [V.nm] at this
      · rfl
      · rfl
      · have h1 := nm_gv (gridOf r c s.M)
        have h2 := nm_iv (pz s.P)
        have h3 := nm_fv d
        simp only [V.nm, V.nmL] at h1 h2 h3 ⊢
        rw [h1, h2, h3]; rfl
      · exact nm_iv _
      · rfl
    · have hi' : i < s.P.length := by simpa using hi
      have e : (pz s.P)[i] = (s.P[i] : Int) := by simp [pz]
      rw [e, mfind_plc s.P _ i (by omega)]
      cases hx : ix (s.P.take i) s.P[i] with
      | none => rfl
      | some t =>
        have h1 := ix_some hx
        have h2 := ix_lt hx
        rw [List.length_take] at h2
        have h3 := hri.inc t i (by omega) hi'
        rw [List.getElem?_take, if_pos (by omega), List.getElem?_eq_getElem (by omega)] at h1
        have h4 := Option.some.inj h1
        omega
    clear hfz hw hp hsb hb4 hb4' wo wc po pc
    refine AW_runA ?_
    simp
    refine AW_ghost 9 1 (by simp) fun g9 hg9 => ?_
    refine AW_runA ?_
    simp
    refine AW_for (fun p : NJ => [(1, .ptr [.int .i64 r, .int .i64 c, .sl (gv (gridOf r c M))]), (3, .bool false), (4, .ptr [.int .i64 r, .int .i64 c, .sl (gv (gridOf r c s.M)), .sl (iv (pz s.P)), fv d]), (6, .mpf (plc (pz s.P) s.P.length)), (9, .lsl p.g 1 0 (nullsTo s.M s.P c p.k).length), (38, .int .i64 c), (39, .int .i64 p.k)]) (fun p => upd bl p.g (some ⟨1, gv (nullsTo s.M s.P c p.k)⟩)) (fun p => p.k ≤ c ∧ bl p.g = none ∧ (p.g < 0 → nullsTo s.M s.P c p.k = [])) (fun p => c - p.k) _ ⟨0, g9⟩ ⟨Nat.zero_le _, hg9, fun _ => rfl⟩ ⟨rfl, by simp [nullsTo, freeTo], by
      have z1 : gv (nullsTo s.M s.P c 0) = [] := rfl
      intro z b hz; simp only [upd_apply, z1] at hz ⊢; grind⟩ ?_
    rintro ⟨k, g⟩ ⟨hk, hg, hgn⟩
    simp only at hk hg hgn
    have wk : IntKind.i64.wrap ((k : Int) + 1) = (k : Int) + 1 := i64_in (by omega) (by omega)
    have hsucc := nullsTo_succ s.M s.P c k
    have hnl := nullsTo_len s.M s.P c k
    refine AW_runA ?_
    simp
    refine AW_runA ?_
    simp
    refine ⟨fun hkc => ?_, fun hkc => ?_⟩
    · refine AW_seq (AW_block ?_)
      refine AW_runA ?_
      simp
      refine AW_runA ?_
      simp [lkV, map_ty, mfind_all]
      cases hx : ix s.P k with
      | some i0 =>
        rw [hx] at hsucc
        simp only [Option.isNone_some, Bool.false_eq_true, if_false] at hsucc
        simp
        refine AW_run ?_
        simp [wk, loopQ_normal]
        refine ⟨⟨k + 1, g⟩, ⟨by simp only; omega, hg, by simp only; rw [hsucc]; exact hgn⟩, by simp only; omega, rfl, by simp [hsucc], ?_⟩
        rw [hsucc]; exact Sub.refl _
      | none =>
        rw [hx] at hsucc
        simp only [Option.isNone_none, if_true] at hsucc
        simp
        refine AW_runA ?_
        simp
        refine ⟨by omega, by unfold maxLen; omega, fun gw hgw => ?_⟩
        intros
        have nwg : ¬ gw = g := by assumption
        have hbw : bl gw = none := by assumption
        have hnl2 : (nullL s.M s.P c k).length = c := by simp
        have w0' := whole_ro 0 (by omega)
        rw [zero_cast] at w0'
        have w1' := whole_ro 1 (by omega)
        rw [show ((1 : Int) : Rat) = 1 from rfl] at w1'
        refine AW_runA ?_
        simp
        refine AW_for (fun j : Nat => [(1, .ptr [.int .i64 r, .int .i64 c, .sl (gv (gridOf r c M))]), (3, .bool false), (4, .ptr [.int .i64 r, .int .i64 c, .sl (gv (gridOf r c s.M)), .sl (iv (pz s.P)), fv d]), (6, .mpf (plc (pz s.P) s.P.length)), (9, .lsl g 1 0 (nullsTo s.M s.P c k).length), (38, .int .i64 c), (39, .int .i64 k), (10, .int .i64 k), (13, .lsl gw 1 0 c), (53, .int .i64 c), (54, .int .i64 j)]) (fun j => (upd (upd bl g (some ⟨1, gv (nullsTo s.M s.P c k)⟩)) gw (some ⟨1, part (fvs (nullL s.M s.P c k)) [.nilp] j⟩))) (fun j => j ≤ c) (fun j => c - j) _ 0 (Nat.zero_le _) ⟨rfl, by simp, sub_eq (by simp)⟩ ?_
        intro j hj
        have wj : IntKind.i64.wrap ((j : Int) + 1) = (j : Int) + 1 := i64_in (by omega) (by omega)
        refine AW_runA ?_
        simp
        refine AW_runA ?_
        simp
        refine ⟨fun hjc => ?_, fun hjc => ?_⟩
        · have hi' : j < (fvs (nullL s.M s.P c k)).length := by simp; exact hjc
          have hpl : j < (part (fvs (nullL s.M s.P c k)) [.nilp] j).length := by simp [part]; omega
          have hpi : (part (fvs (nullL s.M s.P c k)) [.nilp] j)[j]? = some [.nilp] := part_get _ _ _ hi'
          have hpe : (part (fvs (nullL s.M s.P c k)) [.nilp] j)[j] = [.nilp] := by
            rw [List.getElem?_eq_getElem hpl] at hpi; exact Option.some.inj hpi
          have hset : (part (fvs (nullL s.M s.P c k)) [.nilp] j).set j [fv (nullAt s.M s.P k j)] = part (fvs (nullL s.M s.P c k)) [.nilp] (j + 1) := by
            rw [part_set _ _ _ hi']
            simp [nullL]
          have fin : Sub (upd (upd bl g (some ⟨1, gv (nullsTo s.M s.P c k)⟩)) gw (some ⟨1, part (fvs (nullL s.M s.P c k)) [.nilp] (j + 1)⟩)) (upd (upd bl g (some ⟨1, gv (nullsTo s.M s.P c k)⟩)) gw (some ⟨1, (part (fvs (nullL s.M s.P c k)) [.nilp] j).set j [fv (nullAt s.M s.P k j)]⟩)) := by rw [hset]; exact Sub.refl _
          refine AW_run ?_
          simp [lkV, map_ty, mfind_all]
          cases hx2 : ix s.P j with
          | some i =>
            have hir : i < r := by have := ix_lt hx2; omega
            have ea : nullAt s.M s.P k j = (s.M i k).map (- ·) := by unfold nullAt; rw [hx2]
            rw [ea] at hset fin
            simp [hir, hkc]
            refine callP_ro (neg_ro (s.M i k)) ?_
            simp [hjc, hpl, hpe, wj, loopQ_normal]
            refine ⟨j + 1, by omega, by omega, rfl, by simp, ?_⟩
            intro z y hz
            simp only [upd_apply, hset] at hz ⊢
            grind
          | none =>
            simp
            by_cases hjk : j = k
            · have ea : nullAt s.M s.P k j = some 1 := by unfold nullAt; rw [hx2]; simp [hjk]
              rw [ea] at hset fin
              have hjk' : (j : Int) = k := by omega
              refine ⟨fun _ => ?_, fun h9 => absurd hjk' h9⟩
              refine callP_ro w1' ?_
              simp [hjc, hpl, hpe, wj, loopQ_normal]
              refine ⟨j + 1, by omega, by omega, rfl, by simp, ?_⟩
              intro z y hz
              simp only [upd_apply, hset] at hz ⊢
              grind
            · have ea : nullAt s.M s.P k j = some 0 := by unfold nullAt; rw [hx2]; simp [hjk]
              rw [ea] at hset fin
              have hjk' : ¬ (j : Int) = k := by omega
              refine ⟨fun h9 => absurd h9 hjk', fun _ => ?_⟩
              refine callP_ro w0' ?_
              simp [hjc, hpl, hpe, wj, loopQ_normal]
              refine ⟨j + 1, by omega, by omega, rfl, by simp, ?_⟩
              intro z y hz
              simp only [upd_apply, hset] at hz ⊢
              grind
        · have hj2 : j = c := by omega
          subst hj2
          rw [part_all _ _ _ (by simp)]
          have hfz2 := frz_slice (bl := upd (upd bl g (some ⟨1, gv (nullsTo s.M s.P j k)⟩)) gw (some ⟨1, fvs (nullL s.M s.P j k)⟩)) (bl0 := upd bl g (some ⟨1, gv (nullsTo s.M s.P j k)⟩)) (sz := 1) (n := j) hgw (by simp [nwg, hbw]) (els := fvs (nullL s.M s.P j k)) (by simp) (by simp) (fvs_cl _)
          refine AW_frzAt 1 13 (.sl (fvs (nullL s.M s.P j k))) (upd bl g (some ⟨1, gv (nullsTo s.M s.P j k)⟩)) (by intro x y hx; simp only [upd_apply] at hx ⊢; grind) (by simpa using hfz2) ?_
          have htk : (gv (nullsTo s.M s.P j k)).take (nullsTo s.M s.P j k).length = gv (nullsTo s.M s.P j k) := List.take_of_length_le (by simp)
          refine AW_run ?_
          simp
          intro gB hgB
          intros
          have nB : ¬ gB = g := by assumption
          have hbB : bl gB = none := by assumption
          simp [nB, Ne.symm nB, appV, elsV, Int.not_lt.2 hgB]
          refine ⟨by omega, fun gF hgF hbF => ?_⟩
          have hbF' : bl gF = none := by grind
          refine AW_run ?_
          simp [wk, loopQ_normal]
          refine ⟨⟨k + 1, gF⟩, ⟨by simp only; omega, hbF', fun h9 => by simp only at h9; omega⟩, by simp only; omega, rfl, by simp [hsucc], ?_⟩
          rw [hsucc, show gv (nullsTo s.M s.P j k ++ [nullL s.M s.P j k]) = gv (nullsTo s.M s.P j k) ++ [[.sl (fvs (nullL s.M s.P j k))]] by simp [gv]]
          intro x y hx
          simp only [upd_apply, rem_apply, htk] at hx ⊢
          grind
    · have hk2 : k = c := by omega
      subst hk2
      refine AW_run ?_
      simp
      refine retRO [.lsl g 1 0 (nullsTo s.M s.P k k).length, .bool true] 2 (by simp) ?_ (by simp [hg])
      have hcl : (gv (nullsTo s.M s.P k k)).all (fun e => e.all V.cl) = true := by simp [gv, V.cl]
      have hz : frz (dropB (upd bl g (some ⟨1, gv (nullsTo s.M s.P k k)⟩)) bl) 1 (.lsl g 1 0 (nullsTo s.M s.P k k).length) = some (.sl (gv (nullsTo s.M s.P k k))) := by
        rcases Int.lt_or_le g 0 with h9 | h9
        · rw [hgn h9]; simp [frz, h9, gv]
        · exact frz_slice (bl0 := bl) (sz := 1) (n := (nullsTo s.M s.P k k).length) h9 hg (els := gv (nullsTo s.M s.P k k)) (by simp) (by simp) hcl
      show frz _ 2 (.tup [_, _]) = _
      rw [frz_tup]
      simp only [List.mapM_cons, List.mapM_nil, hz, show ∀ (B : Int → Option Blk) (b : Bool), frz B 1 (.bool b) = some (.bool b) from fun B b => by simp [frz]]
      rfl
  · have er : nulI r c M = .tup [.sl [], .bool false] := by unfold nulI; rw [hs]
    rw [er]
    simp
    intro g4 hg4 hb4
    have hb4' : bl g4 = none := fresh_of hsb hb4
    refine AW_run ?_
    simp
    exact retRO [.nils, .bool false] 1 (by simp) (by simp [frz, V.cl]) (hsb.upd hb4' _)
end Go.Proofs.YtmbcofnnibpbeaaGreat.Vm

namespace Go.Proofs.YtmbcofnnibpbeaaGreat.Vm
open Go Go.RowKit Go.Proofs
set_option linter.unusedSimpArgs false
set_option linter.unusedVariables false

def dRss (ls : List (List RT)) : D := .s 1 (ls.map fun w => [dRs w])
theorem dRss_fz (ls : List (List RT)) : (dRss ls).fz = .sl (rvv ls) := by
  unfold dRss rvv
  rw [D.fz, fzR_map, List.map_map]
  congr 1
  exact List.map_congr_left fun w _ => by simp [dRs_fz]
theorem dRss_dep (ls : List (List RT)) (n : Nat) : (dRss ls).dep (n + 3) := by
  unfold dRss
  rw [D.dep]
  refine ⟨by omega, ?_⟩
  induction ls with
  | nil => simp [D.depR]
  | cons w ws ih => simp only [List.map_cons, D.depR, D.depL]; exact ⟨⟨dRs_dep w n, trivial⟩, ih⟩
theorem dRss_sc (ls : List (List RT)) : (dRss ls).sc = true := by
  unfold dRss
  rw [D.sc]
  induction ls with
  | nil => simp [D.scR]
  | cons w ws ih => simp only [List.map_cons, D.scR, D.scL, dRs_sc, ih]; rfl
theorem own_rss1 {bl : Int → Option Blk} {ls : List (List RT)} {v : V} {gs : List Int} (h : OwnD bl (dRss ls) v gs) : v.one = true ∧ v.cells = [v] := by
  unfold dRss at h
  rw [OwnD] at h
  rcases h with ⟨_, rfl, _⟩ | ⟨g, els, gs', rfl, _⟩ <;> exact ⟨rfl, rfl⟩

theorem storesAll_nw (xs : List (List (Option Rat))) (h : ∀ w, w ∈ xs → okL w) (hl : ∀ w, w ∈ xs → w.length ≤ 1048576) (hn : xs.length ≤ 1048576) : NW Tryz.prog 59 [.sl (gv xs)] (dRss (xs.map stQ)) := by
  refine nw_of Tryz.func59 rfl rfl (by rw [Tryz.ntmps59]; simp) fun bl => ?_
  rw [Tryz.ntmps59, Tryz.results59]
  refine AW_run ?_
  simp
  refine AW_ghost 3 1 (by simp) fun g00 hg00 => ?_
  simp at hg00
  refine AW_run ?_
  simp
  refine AW_for (fun p : GrowG => [(3, .lsl p.g 1 0 p.i), (8, .sl (gv xs)), (9, .int .i64 xs.length), (10, .int .i64 p.i)]) (fun p => p.b)
    (fun p => p.i ≤ xs.length ∧ p.b p.g = some ⟨1, p.els⟩ ∧ p.els.length = p.i ∧ OwnR p.b 1 (((xs.map stQ).take p.i).map fun w => [dRs w]) p.els p.gs ∧ p.g ∉ p.gs ∧ bl p.g = none ∧ (∀ x, x ∈ p.gs → bl x = none) ∧ Sub bl p.b ∧ (p.g < 0 → p.els = []))
    (fun p => xs.length - p.i) 25 ⟨0, g00, [], [], upd bl g00 (some ⟨1, []⟩)⟩ ⟨Nat.zero_le _, by simp, rfl, by simp [OwnR], by simp, hg00, by simp, by simp [hg00], fun _ => rfl⟩ ⟨rfl, by simp, by simp⟩ ?_
  rintro ⟨i, g, els, gs, b⟩ ⟨hi, hb, hel, ho, hng, hg, hf, hsb, hneg⟩
  simp only at hi hb hel ho hng hg hf hsb hneg
  refine AW_run ?_
  simp
  refine ⟨fun hlt => ?_, fun hlt => ?_⟩
  · have hw := List.getElem_mem hlt
    simp [hlt]
    refine callP_new (stores_nw xs[i] (h _ hw) (hl _ hw)) fun v gv' b' o f fr => ?_
    obtain ⟨w', rfl, ow, w1, w2⟩ := own_dV o
    have hb' : b' g = _ := new_keep f fr hb
    have hs' : Sub bl b' := fun x y hy => new_keep f fr (hsb x y hy)
    have ho' := ho.keep (bl' := b') fun x _ y hy => new_keep f fr hy
    have hfr' : ∀ x, x ∈ gv' → bl x = none := fun x hx => fresh_of hsb (f x hx)
    have kg : g ∉ gv' := fun hh => by have := f _ hh; rw [hb] at this; cases this
    have kd : ∀ x, x ∈ gs → x ∉ gv' := fun x hx hh => ho.not (f x hh) hx
    simp [w1, w2]
    intro gp hgp hbp
    have npg : gp ≠ g := fun e => by rw [e, hb'] at hbp; cases hbp
    have npv : gp ∉ gv' := fun hh => by obtain ⟨y, hy⟩ := ow.has gp hh; rw [hbp] at hy; cases hy
    have nps : gp ∉ gs := ho'.not hbp
    have hblp : bl gp = none := fresh_of hs' hbp
    have er2 : List.range 1 = [0] := rfl
    simp [er2, appV, elsV, Int.not_lt.2 hgp, npg, Ne.symm npg, hb', hel]
    refine ⟨by omega, fun gn hgn hbn => ?_⟩
    have wi : IntKind.i64.wrap ((i : Int) + 1) = i + 1 := i64_in (by omega) (by omega)
    simp [wi, loopQ_normal]
    have hnp : gn ≠ gp := fun e => (hbn (by rw [e]; exact npg)).1 e
    have hnb : gn ≠ g → b' gn = none := fun e => (hbn e).2
    have hns : gn ∉ gs := fun hh => by
      by_cases e : gn = g
      · exact hng (e ▸ hh)
      · obtain ⟨y, hy⟩ := ho'.has gn hh; rw [hnb e] at hy; cases hy
    have hnv : gn ∉ gv' := fun hh => by
      by_cases e : gn = g
      · exact kg (e ▸ hh)
      · obtain ⟨y, hy⟩ := ow.has gn hh; rw [hnb e] at hy; cases hy
    have hbln : bl gn = none := by
      by_cases e : gn = g
      · rw [e]; exact hg
      · exact fresh_of hs' (hnb e)
    refine ⟨⟨i + 1, gn, els ++ [[w']], gs ++ gv', upd (rem (upd b' gp (some ⟨1, [[w']]⟩)) g) gn (some ⟨1, els ++ [[w']]⟩)⟩, ⟨by simp only; omega, by simp, by simp [hel], ?_, by simp [hns, hnv], hbln, ?_, ?_, fun e => absurd hgn (by simp only at e; omega)⟩, by simp only; omega, rfl, by simp, sub_eq ?_⟩
    · simp only
      have ht : (xs.map ((fun w => [dRs w]) ∘ stQ)).take (i + 1) = ((xs.map stQ).take i).map (fun w => [dRs w]) ++ [[dRs (stQ xs[i])]] := by
        rw [List.take_add_one, List.getElem?_map, List.getElem?_eq_getElem hlt]; simp
      rw [ht]
      have fk : ∀ x, x ≠ gn → x ≠ g → x ≠ gp → upd (rem (upd b' gp (some ⟨1, [[w']]⟩)) g) gn (some ⟨1, els ++ [[w']]⟩) x = b' x := fun x e1 e2 e3 => by simp [upd_apply, rem_apply, e1, e2, e3]
      refine OwnR.snoc (own_single.2 (ow.frame fun x hx => fk x (fun e => hnv (e ▸ hx)) (fun e => kg (e ▸ hx)) (fun e => npv (e ▸ hx)))) rfl (by simp [w1]) (ho'.frame fun x hx => fk x (fun e => hns (e ▸ hx)) (fun e => hng (e ▸ hx)) (fun e => nps (e ▸ hx))) kd
    · intro x hx
      rcases List.mem_append.1 hx with hx | hx
      · exact hf x hx
      · exact hfr' x hx
    · intro x y hx
      have e1 : x ≠ gn := fun e => by rw [e, hbln] at hx; cases hx
      have e2 : x ≠ g := fun e => by rw [e, hg] at hx; cases hx
      have e3 : x ≠ gp := fun e => by rw [e, hblp] at hx; cases hx
      simp only [upd_apply, rem_apply]; rw [if_neg e1, if_neg e2, if_neg e3]; exact hs' x y hx
    · rw [List.take_of_length_le (by omega)]
  · have hi2 : i = xs.length := by omega
    subst hi2
    refine retNW [.lsl g 1 0 xs.length] (g :: gs) (by simp) ?_ (by simpa [hg] using hf) hsb
    unfold dRss
    rw [OwnD]
    refine .inr ⟨g, els, gs, by simp, rfl, hng, hb, hneg, ?_⟩
    have := ho
    rw [List.take_of_length_le (by simp)] at this
    exact this
end Go.Proofs.YtmbcofnnibpbeaaGreat.Vm

namespace Go.Proofs.YtmbcofnnibpbeaaGreat.Vm
open Go Go.RowKit Go.Proofs
set_option linter.unusedSimpArgs false
set_option linter.unusedVariables false

theorem gridOf_congr {r c : Nat} {M N : MF} (h : ∀ i k, i < r → k < c → M i k = N i k) : gridOf r c M = gridOf r c N := by
  unfold gridOf rowOf
  refine List.map_congr_left fun i hi => List.map_congr_left fun k hk => h i k (by simpa using hi) (by simpa using hk)
/-- The equilibrium matrix of a valid structure. -/
def eqM (s : Str) : MX := ⟨(eqRows s).length, s.ms.length, roInts (rowsF s)⟩
theorem eqMx_eqM {s : Str} (h : sOk s = true) : eqMx s = eqM s := by unfold eqMx eqM; rw [if_pos h]
theorem eqM_ok (s : Str) (h : sOk s = true) : MOk (eqM s) (eqRows s).length s.ms.length := by
  have hs := sOk_of h
  obtain ⟨hsm, hlen⟩ := eqRows_small hs
  have hnj := hs.nj
  have hnm := hs.nm
  have hfl := freesTo_le s.js s.js.length
  change (frees s.js).length ≤ s.js.length at hfl
  have hrl := eqRows_length s
  have hfit := (eqMx_fit s (by omega)).1
  rw [eqMx_eqM h] at hfit
  refine ⟨rfl, rfl, by omega, by omega, by simp [eqM, roInts, rowsF_len, hrl], ?_, hfit⟩
  unfold allOk eqM roInts
  rw [List.all_map, List.all_eq_true]
  intro n hn
  rw [← eqRows_flat] at hn
  obtain ⟨w, hw, hn⟩ := List.mem_flatten.1 hn
  have := hsm w hw n hn
  show (rd (ro (some (n : Rat)))).isSome = true
  rw [rd_ro (okQ_int (by omega))]; rfl
theorem rdAll_getD (cells : List RT) (t : Nat) (h : t < cells.length) : (rdAll cells).getD t none = rd (cells.getD t rz) := by
  unfold rdAll
  rw [getD_at _ _ _ (by simpa using h), getD_at _ _ _ h, List.getElem_map]
theorem eqM_grid (s : Str) (h : sOk s = true) : gridOf (eqRows s).length s.ms.length (mfOf (eqM s).cells s.ms.length) = zGrid (eqRows s) := by
  rw [← eq_grid s (sOk_of h)]
  refine gridOf_congr fun i k hi hk => ?_
  have hl := (eqM_ok s h).len
  have : i * s.ms.length + k < (eqM s).cells.length := by rw [hl]; exact flat_lt hi hk
  exact (rdAll_getD _ _ this).symm
/-! ### The transpose -/
theorem trTo_at (cells : List RT) (r c k : Nat) : ∀ n, k < n → ∀ i, i < r → (trTo cells r c n 0).getD (k * r + i) rz = cells.getD (i * c + k) rz := by
  intro n hk i hi
  have e : trTo cells r c n 0 = ((List.range n).map fun k => trC cells r c k r).flatten := by
    simp [trTo, trC, List.flatMap]
  rw [e, flat_getD rz (n := r) _ (fun w hw => by obtain ⟨x, _, rfl⟩ := List.mem_map.1 hw; simp) k i (by simpa using hk) hi]
  simp only [List.getElem_map, List.getElem_range, trC]
  rw [getD_at _ _ _ (by simpa using hi)]
  simp
theorem trM_ok {m : MX} {r c : Nat} (h : MOk m r c) : MOk (trM m r c) c r := by
  have hl : (trM m r c).cells.length = c * r := by show (trTo m.cells r c c 0).length = _; rw [trTo_length]; omega
  have hm := h.mul
  have hmem : ∀ x, x ∈ (trM m r c).cells → x ∈ m.cells := by
    intro x hx
    have hx' : x ∈ trTo m.cells r c c 0 := hx
    have e : trTo m.cells r c c 0 = ((List.range c).map fun k => trC m.cells r c k r).flatten := by
      simp [trTo, trC, List.flatMap]
    rw [e] at hx'
    obtain ⟨w, hw, hx'⟩ := List.mem_flatten.1 hx'
    obtain ⟨k, hk, rfl⟩ := List.mem_map.1 hw
    obtain ⟨i, hi, rfl⟩ := List.mem_map.1 hx'
    have hlt : i * c + k < m.cells.length := by rw [h.len]; exact flat_lt (by simpa using hi) (by simpa using hk)
    rw [getD_at _ _ _ hlt]
    exact List.getElem_mem hlt
  refine ⟨rfl, rfl, h.c24, h.r24, hl, ?_, ?_, fun x hx => h.fq.2 x (hmem x hx)⟩
  · have := h.ok
    unfold allOk at this ⊢
    rw [List.all_eq_true] at this ⊢
    exact fun x hx => this x (hmem x hx)
  · rw [hl, Nat.mul_comm]; omega
theorem trM_mf {m : MX} {r c : Nat} (i k : Nat) (hi : i < r) (hk : k < c) : mfOf (trM m r c).cells r k i = mfOf m.cells c i k := by
  unfold mfOf
  show rd ((trTo m.cells r c c 0).getD (k * r + i) rz) = _
  rw [trTo_at _ _ _ _ _ hk _ hi]
theorem spec_Transpose_ro (m : MX) (r c : Nat) (h : MOk m r c) : RO Tryz.prog 67 [.agg m.c3] (.agg (trM m r c).c3) := by
  refine ro_of2 Tryz.func67 rfl rfl (by rw [Tryz.ntmps67]; simp) fun bl => ?_
  rw [Tryz.ntmps67, Tryz.results67]
  refine AW_runA ?_
  simp [MX.c3]
  intro g1 hg1 hb1 g2 hg2 h21 hb2
  refine AW_frzAt 1 1 (.ptr m.c3) (upd bl g2 (some ⟨3, [[.int .i64 0, .int .i64 0, .nils]]⟩)) (by intro z b hz; simp only [upd_apply, MX.c3] at hz ⊢; grind) (by simp [frz, dropB, hb1, h21, Ne.symm h21, MX.c3, V.cl]) ?_
  refine AW_runA ?_
  simp [MX.c3]
  refine callP_ro (MatrixOk_ro m r c h) ?_
  simp
  refine AW_run ?_
  simp [MX.c3]
  refine callP_ro (l06Transpose_ro m r c h) ?_
  simp [MX.c3]
  exact retRO [.agg (trM m r c).c3] 1 (by simp [MX.c3]) (by simp [frz, MX.c3, V.cl]) (by simp [hb2])
theorem transposed_ro (r c : Nat) (M N : MF) (hr : r ≤ 24) (hc : c ≤ 24) (h : ∀ i k, i < r → k < c → N k i = M i k) : RO Tryz.prog 123 [.agg [.int .i64 r, .int .i64 c, .sl (gv (gridOf r c M))]] (.agg [.int .i64 c, .int .i64 r, .sl (gv (gridOf c r N))]) := by
  have hG := ro_of_nw 3 (newGrid_nw c r (by omega) (by omega) 161 [.ptr [.int .i64 r, .int .i64 c, .sl (gv (gridOf r c M))]] N fun i k hi hk => by
    rw [h k i hk hi]; exact transposed1_ro M r c k i hk hi _ _) (dG_dep _ _ _)
  rw [dG_fz] at hG
  refine ro_of2 Tryz.func123 rfl rfl (by rw [Tryz.ntmps123]; simp) fun bl => ?_
  rw [Tryz.ntmps123, Tryz.results123]
  refine AW_runA ?_
  simp
  intro g1 hg1 hb1 g2 hg2 h21 hb2
  refine AW_frzAt 1 1 (.ptr [.int .i64 r, .int .i64 c, .sl (gv (gridOf r c M))]) (upd bl g2 (some ⟨3, [[.int .i64 0, .int .i64 0, .nils]]⟩)) (by intro z b hz; simp only [upd_apply] at hz ⊢; grind) (by simp [frz, dropB, hb1, h21, Ne.symm h21, V.cl]) ?_
  refine AW_runA ?_
  simp
  refine callP_ro hG ?_
  simp
  refine AW_run ?_
  simp
  exact retRO [.agg [.int .i64 c, .int .i64 r, .sl (gv (gridOf c r N))]] 1 (by simp) (by simp [frz, V.cl]) (by simp [hb2])

/-! ### The reference -/
def ssR (s : Str) : List (List RT) × Bool := if sOk s = true then nulR (eqRows s).length s.ms.length (mfOf (eqM s).cells s.ms.length) else ([], false)
def mcR (s : Str) : List (List RT) × Bool := if sOk s = true then nulR s.ms.length (eqRows s).length (mfOf (trM (eqM s) (eqRows s).length s.ms.length).cells (eqRows s).length) else ([], false)
structure SBig (s : Str) : Prop where
  hj : s.js.length ≤ 140737488351232
  hm : s.ms.length ≤ 140737488351232
  hn : ∀ j, j ∈ s.js → j.name.size ≤ 140737488351232
theorem spec_SelfStresses_ro (s : Str) (hb : SBig s) : RO Tryz.prog 17 [.agg s.c] (nulV (ssR s)) := by
  have hE := spec_EquilibriumMatrix_ro s hb.hj hb.hm hb.hn
  refine ro_of2 Tryz.func17 rfl rfl (by rw [Tryz.ntmps17]; simp) fun bl => ?_
  rw [Tryz.ntmps17, Tryz.results17]
  refine AW_runA ?_
  simp [Str.c]
  intro g1 hg1 hb1
  refine AW_frzAt 1 1 (.ptr s.c) bl (by simp [hb1]) (by simp [frz, dropB, hb1, Str.c, V.cl]) ?_
  refine AW_runA ?_
  simp [Str.c]
  refine callP_ro (spec_StructureOk_ro s hb.hj hb.hm hb.hn) ?_
  cases hk : sOk s
  · have hz : ssR s = ([], false) := by unfold ssR; rw [hk]; rfl
    rw [hz]
    simp
    exact retRO [.nils, .bool false] 1 (by simp) (by simp [frz, nulV, rvv, V.cl]) (Sub.refl _)
  · have hz : ssR s = nulR (eqRows s).length s.ms.length (mfOf (eqM s).cells s.ms.length) := by unfold ssR; rw [hk]; rfl
    have hN := spec_NullVectors_ro (eqM s) _ _ (eqM_ok s hk)
    rw [eqMx_eqM hk] at hE
    rw [hz]
    simp
    refine AW_run ?_
    simp [Str.c]
    refine callP_ro hE ?_
    simp [MX.c3]
    refine callP_ro hN ?_
    simp [nulV]
    exact retRO [.sl (rvv (nulR (eqRows s).length s.ms.length (mfOf (eqM s).cells s.ms.length)).1), .bool (nulR (eqRows s).length s.ms.length (mfOf (eqM s).cells s.ms.length)).2] 1 (by simp) (by simp [frz, V.cl, rvv_cl]) (Sub.refl _)
theorem spec_Mechanisms_ro (s : Str) (hb : SBig s) : RO Tryz.prog 25 [.agg s.c] (nulV (mcR s)) := by
  have hE := spec_EquilibriumMatrix_ro s hb.hj hb.hm hb.hn
  refine ro_of2 Tryz.func25 rfl rfl (by rw [Tryz.ntmps25]; simp) fun bl => ?_
  rw [Tryz.ntmps25, Tryz.results25]
  refine AW_runA ?_
  simp [Str.c]
  intro g1 hg1 hb1
  refine AW_frzAt 1 1 (.ptr s.c) bl (by simp [hb1]) (by simp [frz, dropB, hb1, Str.c, V.cl]) ?_
  refine AW_runA ?_
  simp [Str.c]
  refine callP_ro (spec_StructureOk_ro s hb.hj hb.hm hb.hn) ?_
  cases hk : sOk s
  · have hz : mcR s = ([], false) := by unfold mcR; rw [hk]; rfl
    rw [hz]
    simp
    exact retRO [.nils, .bool false] 1 (by simp) (by simp [frz, nulV, rvv, V.cl]) (Sub.refl _)
  · have hz : mcR s = nulR s.ms.length (eqRows s).length (mfOf (trM (eqM s) (eqRows s).length s.ms.length).cells (eqRows s).length) := by unfold mcR; rw [hk]; rfl
    have hN := spec_NullVectors_ro _ _ _ (trM_ok (eqM_ok s hk))
    have hT := spec_Transpose_ro _ _ _ (eqM_ok s hk)
    rw [eqMx_eqM hk] at hE
    rw [hz]
    simp
    refine AW_run ?_
    simp [Str.c]
    refine callP_ro hE ?_
    simp [MX.c3]
    refine callP_ro hT ?_
    simp [MX.c3]
    refine callP_ro hN ?_
    simp [nulV]
    exact retRO [.sl (rvv (nulR s.ms.length (eqRows s).length (mfOf (trM (eqM s) (eqRows s).length s.ms.length).cells (eqRows s).length)).1), .bool (nulR s.ms.length (eqRows s).length (mfOf (trM (eqM s) (eqRows s).length s.ms.length).cells (eqRows s).length)).2] 1 (by simp) (by simp [frz, V.cl, rvv_cl]) (Sub.refl _)

theorem isEmpty_beq {α : Type} (l : List α) : ((l.length : Int) == 0) = l.isEmpty := by
  cases l with
  | nil => rfl
  | cons a l =>
    rw [List.isEmpty_cons, beq_eq_false_iff_ne, List.length_cons]
    omega
def riB (s : Str) : Bool := (mcR s).2 && (mcR s).1.isEmpty
def deB (s : Str) : Bool := (ssR s).2 && (ssR s).1.isEmpty && riB s
theorem spec_IsRigid_ro (s : Str) (hb : SBig s) : RO Tryz.prog 27 [.agg s.c] (.bool (riB s)) := by
  have hM := spec_Mechanisms_ro s hb
  have e : riB s = ((mcR s).2 && (mcR s).1.isEmpty) := rfl
  rw [e]
  generalize mcR s = x at *
  obtain ⟨l, b⟩ := x
  refine ro_of2 Tryz.func27 rfl rfl (by rw [Tryz.ntmps27]; simp) fun bl => ?_
  rw [Tryz.ntmps27, Tryz.results27]
  refine AW_runA ?_
  simp [Str.c]
  intro g1 hg1 hb1
  refine AW_frzAt 1 1 (.ptr s.c) bl (by simp [hb1]) (by simp [frz, dropB, hb1, Str.c, V.cl]) ?_
  refine AW_runA ?_
  simp [Str.c]
  refine callP_ro hM ?_
  simp [nulV]
  refine AW_runA ?_
  simp
  refine AW_way0 [(1, .ptr s.c), (3, .sl (rvv l)), (4, .bool b)] _ bl 2 (.bool (b && l.isEmpty)) ⟨rfl, by simp [Str.c], Sub.refl _⟩ rfl ?_ ?_
  · cases b
    · simp
    · simp [isEmpty_beq]
  simp
  refine AW_run ?_
  simp
  exact retRO [.bool (b && l.isEmpty)] 1 (by simp) (by simp [frz]) (Sub.refl _)
theorem spec_IsDeterminate_ro (s : Str) (hb : SBig s) : RO Tryz.prog 29 [.agg s.c] (.bool (deB s)) := by
  have hM := spec_SelfStresses_ro s hb
  have hR := spec_IsRigid_ro s hb
  have e : deB s = ((ssR s).2 && (ssR s).1.isEmpty && riB s) := rfl
  rw [e]
  generalize ssR s = x at *
  generalize riB s = y at *
  obtain ⟨l, b⟩ := x
  refine ro_of2 Tryz.func29 rfl rfl (by rw [Tryz.ntmps29]; simp) fun bl => ?_
  rw [Tryz.ntmps29, Tryz.results29]
  refine AW_runA ?_
  simp [Str.c]
  intro g1 hg1 hb1
  refine AW_frzAt 1 1 (.ptr s.c) bl (by simp [hb1]) (by simp [frz, dropB, hb1, Str.c, V.cl]) ?_
  refine AW_runA ?_
  simp [Str.c]
  refine callP_ro hM ?_
  simp [nulV]
  refine AW_runA ?_
  simp
  refine AW_way0 [(1, .ptr s.c), (3, .sl (rvv l)), (4, .bool b)] _ bl 2 (.bool (b && l.isEmpty && y)) ⟨rfl, by simp [Str.c], Sub.refl _⟩ rfl ?_ ?_
  · cases b
    · simp
    · cases l with
      | cons a l =>
        simp
        intro h0
        omega
      | nil =>
        simp [rvv, Str.c]
        refine callP_ro hR ?_
        simp
  simp
  refine AW_run ?_
  simp
  exact retRO [.bool (b && l.isEmpty && y)] 1 (by simp) (by simp [frz]) (Sub.refl _)
end Go.Proofs.YtmbcofnnibpbeaaGreat.Vm

namespace Go.Proofs.YtmbcofnnibpbeaaGreat.Vm
open Go Go.RowKit Go.Proofs
set_option linter.unusedSimpArgs false
set_option linter.unusedVariables false

/-- What the program hands back of null vectors. -/
def dNul (x : List (List RT) × Bool) : D := .t [dRss x.1, .c (.bool x.2)]
theorem dNul_sc (x : List (List RT) × Bool) : (dNul x).sc = true := by simp [dNul, D.sc, D.scL, dRss_sc, V.ow]
theorem dNul_dep (x : List (List RT) × Bool) : (dNul x).dep 4 := by
  unfold dNul; rw [D.dep]; exact ⟨by omega, by simp [D.depL, D.dep, dRss_dep]⟩
theorem dNul_fz (x : List (List RT) × Bool) : (dNul x).fz = nulV x := by simp [dNul, D.fz, D.fzL, dRss_fz, nulV]
theorem own_dNul {bl : Int → Option Blk} {x : List (List RT) × Bool} {v : V} {gs : List Int} (h : OwnD bl (dNul x) v gs) : ∃ w, v = .tup [w, .bool x.2] ∧ OwnD bl (dRss x.1) w gs ∧ w.one = true ∧ w.cells = [w] := by
  obtain ⟨w, rfl, o⟩ := own_two.1 h
  exact ⟨w, rfl, o, own_rss1 o⟩
theorem stQ_some {xs : List (Option Rat)} (h : ∀ x, x ∈ xs → x.isSome = true) : stQ xs = roAll xs := by
  unfold stQ allSome
  rw [if_pos (List.all_eq_true.2 h)]
theorem nulls_st {r c : Nat} {M : MF} (hM : ∀ i j, okQ (M i j)) (h0 : okM r c M = true) {s : RS} (hs : redTo r c M c = some s) :
    (nullsTo s.M s.P c c).map stQ = (nullsTo s.M s.P c c).map roAll ∧ (∀ w, w ∈ nullsTo s.M s.P c c → okL w) ∧ ∀ w, w ∈ nullsTo s.M s.P c c → w.length = c := by
  have hri := redTo_ri h0 hM c (Nat.le_refl _) s hs
  have hk : ∀ k, k ∈ freeTo s.P c → k < c := fun k hk => by
    unfold freeTo at hk
    have := (List.mem_filter.1 hk).1
    simpa using this
  refine ⟨List.map_congr_left fun w hw => ?_, fun w hw => ?_, fun w hw => ?_⟩
  · obtain ⟨k, hk', rfl⟩ := List.mem_map.1 hw
    exact stQ_some (nullL_ok hri (hk k hk'))
  · obtain ⟨k, hk', rfl⟩ := List.mem_map.1 hw
    exact nullL_fit hri.fit _ _ _
  · obtain ⟨k, hk', rfl⟩ := List.mem_map.1 hw
    exact nullL_length _ _ _ _
theorem impl_SelfStresses_g (s : Str) (hb : SBig s) : NWg Tryz.prog 19 [.agg s.c] (dNul (ssR s)) := by
  intro bl hgb
  refine callP_made ?_
  refine callP_of Tryz.func19 rfl rfl (by rw [Tryz.ntmps19]; simp) ?_
  rw [Tryz.ntmps19, Tryz.results19]
  refine AW_runA ?_
  simp [Str.c]
  intro g1 hg1 hb1
  refine AW_frzAt 1 1 (.ptr s.c) bl (by simp [hb1]) (by simp [frz, dropB, hb1, Str.c, V.cl]) ?_
  refine AW_runA ?_
  simp [Str.c]
  refine callP_ro (impl_StructureOk_ro s hb.hj hb.hm hb.hn) ?_
  cases hk : sOk s
  · have hz : ssR s = ([], false) := by unfold ssR; rw [hk]; rfl
    rw [hz]
    simp
    exact retNW [.nils, .bool false] [] (by simp) (own_two.2 ⟨.nils, rfl, by unfold dRss; rw [OwnD]; exact .inl ⟨rfl, rfl, rfl⟩⟩) (by simp) (Sub.refl _)
  · have hz : ssR s = nulR (eqRows s).length s.ms.length (mfOf (eqM s).cells s.ms.length) := by unfold ssR; rw [hk]; rfl
    have hok := eqM_ok s hk
    have hM := mfOf_fit (eqM s).cells s.ms.length
    have hM0 := mfOf_ok hok
    have hN := nulls_g _ _ _ hok.r24 hok.c24 hM hM0
    rw [eqM_grid s hk] at hN
    rw [hz]
    generalize mfOf (eqM s).cells s.ms.length = M at *
    have h24 := hok.c24
    simp
    refine AW_run ?_
    simp [Str.c]
    refine callP_ro (equilibriumGrid_ro s (sOk_of hk)) ?_
    simp
    refine callP_rog hgb hN ?_
    unfold nulI nulR
    cases hs : redTo (eqRows s).length s.ms.length M s.ms.length with
    | none =>
      simp
      exact retNW [.nils, .bool false] [] (by simp) (own_two.2 ⟨.nils, rfl, by unfold dRss; rw [OwnD]; exact .inl ⟨rfl, rfl, rfl⟩⟩) (by simp) (Sub.refl _)
    | some s1 =>
      obtain ⟨n1, n2, n3⟩ := nulls_st hM hM0 hs
      have n4 := nullsTo_len s1.M s1.P s.ms.length s.ms.length
      simp
      refine callP_new (storesAll_nw _ n2 (fun w hw => by rw [n3 w hw]; omega) (by omega)) fun v gs b' o f fr => ?_
      obtain ⟨o1, o2⟩ := own_rss1 o
      simp [o1, o2]
      rw [n1] at o
      exact retNW [v, .bool true] gs (by simp) (own_two.2 ⟨v, rfl, o⟩) f (fun x y hy => new_keep f fr hy)
theorem mechanisms_g (s : Str) (hk : sOk s = true) : ROg Tryz.prog 68 [.ptr s.c] (nulI s.ms.length (eqRows s).length (mfOf (trM (eqM s) (eqRows s).length s.ms.length).cells (eqRows s).length)) := by
  have hok := eqM_ok s hk
  have hok2 := trM_ok hok
  have hT := transposed_ro (eqRows s).length s.ms.length (mfOf (eqM s).cells s.ms.length) (mfOf (trM (eqM s) (eqRows s).length s.ms.length).cells (eqRows s).length) hok.r24 hok.c24 fun i k hi hk => trM_mf i k hi hk
  have hN := nulls_g _ _ _ hok2.r24 hok2.c24 (mfOf_fit _ _) (mfOf_ok hok2)
  rw [eqM_grid s hk] at hT
  generalize mfOf (trM (eqM s) (eqRows s).length s.ms.length).cells (eqRows s).length = M at *
  intro bl hgb
  refine callP_frz (r := nulI s.ms.length (eqRows s).length M) (bl2 := bl) (show CallP _ _ _ bl (ROk bl (nulI s.ms.length (eqRows s).length M)) from ?_) ⟨rfl, rfl⟩
  refine callP_of Tryz.func68 rfl rfl (by rw [Tryz.ntmps68]; simp) ?_
  rw [Tryz.ntmps68, Tryz.results68]
  refine AW_runA ?_
  simp
  refine AW_run ?_
  simp
  refine callP_ro (equilibriumGrid_ro s (sOk_of hk)) ?_
  simp
  refine callP_ro hT ?_
  simp
  refine callP_rog hgb hN ?_
  obtain ⟨X, b, e⟩ : ∃ X b, nulI s.ms.length (eqRows s).length M = .tup [.sl (gv X), .bool b] := by
    unfold nulI
    cases redTo s.ms.length (eqRows s).length M (eqRows s).length with
    | none => exact ⟨[], false, rfl⟩
    | some s1 => exact ⟨_, true, rfl⟩
  rw [e]
  simp
  exact retRO [.sl (gv X), .bool b] 1 (by simp) (by simp [frz, V.cl]) (Sub.refl _)
theorem impl_Mechanisms_g (s : Str) (hb : SBig s) : NWg Tryz.prog 26 [.agg s.c] (dNul (mcR s)) := by
  intro bl hgb
  refine callP_made ?_
  refine callP_of Tryz.func26 rfl rfl (by rw [Tryz.ntmps26]; simp) ?_
  rw [Tryz.ntmps26, Tryz.results26]
  refine AW_runA ?_
  simp [Str.c]
  intro g1 hg1 hb1
  refine AW_frzAt 1 1 (.ptr s.c) bl (by simp [hb1]) (by simp [frz, dropB, hb1, Str.c, V.cl]) ?_
  refine AW_runA ?_
  simp [Str.c]
  refine callP_ro (impl_StructureOk_ro s hb.hj hb.hm hb.hn) ?_
  cases hk : sOk s
  · have hz : mcR s = ([], false) := by unfold mcR; rw [hk]; rfl
    rw [hz]
    simp
    exact retNW [.nils, .bool false] [] (by simp) (own_two.2 ⟨.nils, rfl, by unfold dRss; rw [OwnD]; exact .inl ⟨rfl, rfl, rfl⟩⟩) (by simp) (Sub.refl _)
  · have hz : mcR s = nulR s.ms.length (eqRows s).length (mfOf (trM (eqM s) (eqRows s).length s.ms.length).cells (eqRows s).length) := by unfold mcR; rw [hk]; rfl
    have hC := mechanisms_g s hk
    have hok := trM_ok (eqM_ok s hk)
    have hM := mfOf_fit (trM (eqM s) (eqRows s).length s.ms.length).cells (eqRows s).length
    have hM0 := mfOf_ok hok
    rw [hz]
    generalize mfOf (trM (eqM s) (eqRows s).length s.ms.length).cells (eqRows s).length = M at *
    have h24 := hok.c24
    simp
    refine AW_run ?_
    simp [Str.c]
    refine callP_rog hgb hC ?_
    unfold nulI nulR
    cases hs : redTo s.ms.length (eqRows s).length M (eqRows s).length with
    | none =>
      simp
      exact retNW [.nils, .bool false] [] (by simp) (own_two.2 ⟨.nils, rfl, by unfold dRss; rw [OwnD]; exact .inl ⟨rfl, rfl, rfl⟩⟩) (by simp) (Sub.refl _)
    | some s1 =>
      obtain ⟨n1, n2, n3⟩ := nulls_st hM hM0 hs
      have n4 := nullsTo_len s1.M s1.P (eqRows s).length (eqRows s).length
      simp
      refine callP_new (storesAll_nw _ n2 (fun w hw => by rw [n3 w hw]; omega) (by omega)) fun v gs b' o f fr => ?_
      obtain ⟨o1, o2⟩ := own_rss1 o
      simp [o1, o2]
      rw [n1] at o
      exact retNW [v, .bool true] gs (by simp) (own_two.2 ⟨v, rfl, o⟩) f (fun x y hy => new_keep f fr hy)
theorem impl_SelfStresses_nw (s : Str) (hb : SBig s) : NW Tryz.prog 19 [.agg s.c] (dNul (ssR s)) := nw_of_g 1 (fun bl => by simp [frz, Str.c, V.cl]) (impl_SelfStresses_g s hb) (dNul_sc _)
theorem impl_Mechanisms_nw (s : Str) (hb : SBig s) : NW Tryz.prog 26 [.agg s.c] (dNul (mcR s)) := nw_of_g 1 (fun bl => by simp [frz, Str.c, V.cl]) (impl_Mechanisms_g s hb) (dNul_sc _)
theorem impl_SelfStresses_ro (s : Str) (hb : SBig s) : RO Tryz.prog 19 [.agg s.c] (nulV (ssR s)) := by
  have := ro_of_nw 4 (impl_SelfStresses_nw s hb) (dNul_dep _)
  rwa [dNul_fz] at this
theorem impl_Mechanisms_ro (s : Str) (hb : SBig s) : RO Tryz.prog 26 [.agg s.c] (nulV (mcR s)) := by
  have := ro_of_nw 4 (impl_Mechanisms_nw s hb) (dNul_dep _)
  rwa [dNul_fz] at this
theorem impl_IsRigid_ro (s : Str) (hb : SBig s) : RO Tryz.prog 28 [.agg s.c] (.bool (riB s)) := by
  have hM := impl_Mechanisms_ro s hb
  have e : riB s = ((mcR s).2 && (mcR s).1.isEmpty) := rfl
  rw [e]
  generalize mcR s = x at *
  obtain ⟨l, b⟩ := x
  refine ro_of2 Tryz.func28 rfl rfl (by rw [Tryz.ntmps28]; simp) fun bl => ?_
  rw [Tryz.ntmps28, Tryz.results28]
  refine AW_runA ?_
  simp [Str.c]
  intro g1 hg1 hb1
  refine AW_frzAt 1 1 (.ptr s.c) bl (by simp [hb1]) (by simp [frz, dropB, hb1, Str.c, V.cl]) ?_
  refine AW_runA ?_
  simp [Str.c]
  refine callP_ro hM ?_
  simp [nulV]
  refine AW_runA ?_
  simp
  refine AW_way0 [(1, .ptr s.c), (3, .sl (rvv l)), (4, .bool b)] _ bl 2 (.bool (b && l.isEmpty)) ⟨rfl, by simp [Str.c], Sub.refl _⟩ rfl ?_ ?_
  · cases b
    · simp
    · simp [isEmpty_beq]
  simp
  refine AW_run ?_
  simp
  exact retRO [.bool (b && l.isEmpty)] 1 (by simp) (by simp [frz]) (Sub.refl _)
theorem impl_IsDeterminate_ro (s : Str) (hb : SBig s) : RO Tryz.prog 30 [.agg s.c] (.bool (deB s)) := by
  have hM := impl_SelfStresses_ro s hb
  have hR := impl_IsRigid_ro s hb
  have e : deB s = ((ssR s).2 && (ssR s).1.isEmpty && riB s) := rfl
  rw [e]
  generalize ssR s = x at *
  generalize riB s = y at *
  obtain ⟨l, b⟩ := x
  refine ro_of2 Tryz.func30 rfl rfl (by rw [Tryz.ntmps30]; simp) fun bl => ?_
  rw [Tryz.ntmps30, Tryz.results30]
  refine AW_runA ?_
  simp [Str.c]
  intro g1 hg1 hb1
  refine AW_frzAt 1 1 (.ptr s.c) bl (by simp [hb1]) (by simp [frz, dropB, hb1, Str.c, V.cl]) ?_
  refine AW_runA ?_
  simp [Str.c]
  refine callP_ro hM ?_
  simp [nulV]
  refine AW_runA ?_
  simp
  refine AW_way0 [(1, .ptr s.c), (3, .sl (rvv l)), (4, .bool b)] _ bl 2 (.bool (b && l.isEmpty && y)) ⟨rfl, by simp [Str.c], Sub.refl _⟩ rfl ?_ ?_
  · cases b
    · simp
    · cases l with
      | cons a l =>
        simp
        intro h0
        omega
      | nil =>
        simp [rvv, Str.c]
        refine callP_ro hR ?_
        simp
  simp
  refine AW_run ?_
  simp
  exact retRO [.bool (b && l.isEmpty && y)] 1 (by simp) (by simp [frz]) (Sub.refl _)
end Go.Proofs.YtmbcofnnibpbeaaGreat.Vm

namespace Go.Proofs.YtmbcofnnibpbeaaGreat.Vm
open Go Go.RowKit Go.Proofs
set_option linter.unusedSimpArgs false
set_option linter.unusedVariables false

@[simp] theorem rvv_getE (ws : List (List RT)) (i : Nat) (h : i < (rvv ws).length) : (rvv ws)[i] = [.sl (rv (ws[i]'(by simpa using h)))] := by simp [rvv]
def fitQQ (ws : List (List RT)) : Prop := ws.length ≤ 1048576 ∧ ∀ w, w ∈ ws → fitQ w 1048576
theorem frz_rss {bl : Int → Option Blk} {ws : List (List RT)} {v : V} {gs : List Int} (h : OwnD bl (dRss ws) v gs) (n : Nat) : frz bl (n + 3) v = some (.sl (rvv ws)) := by
  rw [h.frz (dRss_dep ws n), dRss_fz]
theorem own_rss {bl : Int → Option Blk} {rs : List (List RT)} {v : V} {gs : List Int} : OwnD bl (dRss rs) v gs ↔ (rs = [] ∧ v = .nils ∧ gs = []) ∨ ∃ g els gs', v = .lsl g 1 0 rs.length ∧ gs = g :: gs' ∧ g ∉ gs' ∧ bl g = some ⟨1, els⟩ ∧ (g < 0 → els = []) ∧ OwnR bl 1 (rs.map fun w => [dRs w]) els gs' := by
  unfold dRss
  rw [OwnD]
  constructor
  · rintro (⟨h1, h2, h3⟩ | ⟨g, els, gs', h1, h2, h3, h4, h5, h6⟩)
    · exact .inl ⟨by simpa using h1, h2, h3⟩
    · exact .inr ⟨g, els, gs', by simpa using h1, h2, h3, h4, h5, h6⟩
  · rintro (⟨h1, h2, h3⟩ | ⟨g, els, gs', h1, h2, h3, h4, h5, h6⟩)
    · exact .inl ⟨by simpa using h1, h2, h3⟩
    · exact .inr ⟨g, els, gs', by simpa using h1, h2, h3, h4, h5, h6⟩
theorem eqRatSS_ro (ws : List (List RT)) (hq : fitQQ ws) : RO Tryz.prog 20 [.sl (rvv ws), .sl (rvv ws)] (.bool true) := by
  have hw := hq.1
  refine ro_of2 Tryz.func20 rfl rfl (by rw [Tryz.ntmps20]; simp) fun bl => ?_
  rw [Tryz.ntmps20, Tryz.results20]
  refine AW_run ?_
  simp
  refine AW_for (fun i : Nat => [(0, .sl (rvv ws)), (1, .sl (rvv ws)), (5, .int .i64 i)]) (fun _ => bl) (fun i => i ≤ ws.length) (fun i => ws.length - i) _ 0 (Nat.zero_le _) ⟨rfl, by simp, Sub.refl _⟩ ?_
  intro i hi
  refine AW_run ?_
  simp
  refine ⟨fun h1 => ?_, fun h1 => ?_⟩
  · refine AW_quiet mixedO (by kernel_rfl) ?_
    simp [h1]
    refine hcQ_ro (eqRatS_ro ws[i] (hq.2 _ (List.getElem_mem h1))) ?_
    simp (disch := omega) [i64_in, loopQ_normal]
    exact ⟨i + 1, by omega, by omega, rfl, by simp, Sub.refl _⟩
  · exact retRO0 (by simp) rfl rfl

def mkQQ : Nat → List (List RT) → List (List RT)
  | _, [] => []
  | k, w :: ws => mkQs k w :: mkQQ (mkQsN k w) ws
def mkQQN (k : Nat) (ws : List (List RT)) : Nat := ws.foldl mkQsN k
@[simp] theorem mkQQ_length : ∀ (k : Nat) (ws : List (List RT)), (mkQQ k ws).length = ws.length
  | _, [] => rfl
  | k, r :: rs => by rw [mkQQ, List.length_cons, List.length_cons, mkQQ_length]
theorem mkQQN_take_succ (k : Nat) (ws : List (List RT)) (i : Nat) (h : i < ws.length) : mkQQN k (ws.take (i + 1)) = mkQsN (mkQQN k (ws.take i)) ws[i] := by
  unfold mkQQN
  rw [List.take_add_one, List.getElem?_eq_getElem h, Option.toList_some, List.foldl_append]; rfl
theorem mkQQ_at : ∀ (k : Nat) (ws : List (List RT)) (i : Nat) (h : i < ws.length), (mkQQ k ws)[i]'(by rw [mkQQ_length]; exact h) = mkQs (mkQQN k (ws.take i)) ws[i]
  | k, r :: rs, 0, h => rfl
  | k, r :: rs, i + 1, h => by
    simp only [mkQQ, List.getElem_cons_succ]
    rw [mkQQ_at (mkQsN k r) rs i (by simpa using h)]
    rfl
theorem mkQsN_ge (k : Nat) (rs : List RT) : k ≤ mkQsN k rs := by rw [mkQsN_sum]; omega
theorem mkQQN_ge : ∀ (ws : List (List RT)) (k : Nat), k ≤ mkQQN k ws
  | [], k => Nat.le_refl _
  | w :: ws, k => Nat.le_trans (mkQsN_ge k w) (mkQQN_ge ws (mkQsN k w))
theorem mkQQN_mono (k : Nat) (ws : List (List RT)) (i : Nat) : mkQQN k (ws.take i) ≤ mkQQN k ws := by
  conv => rhs; rw [← List.take_append_drop i ws]
  unfold mkQQN
  rw [List.foldl_append]
  exact mkQQN_ge _ _
theorem mkQQ_step (k : Nat) (ws : List (List RT)) (i : Nat) (h : i < ws.length) : ((mkQQ k ws).take (i + 1) ++ ws.drop (i + 1)).map (fun w => [dRs w]) = (((mkQQ k ws).take i ++ ws.drop i).map fun w => [dRs w]).set i [dRs (mkQs (mkQQN k (ws.take i)) ws[i])] := by
  have h2 : i < (mkQQ k ws).length := by simpa using h
  rw [List.take_add_one, List.getElem?_eq_getElem h2, mkQQ_at k ws i h, Option.toList_some, List.drop_eq_getElem_cons h]
  simp only [List.map_append, List.map_cons, List.map_nil]
  rw [List.set_append_right _ _ (by simp; omega)]
  simp [show min i ws.length = i by omega]
theorem markRatSS_cp {bl : Int → Option Blk} {K : V → (Int → Option Blk) → Prop} (ws : List (List RT)) (k : Nat) (v : V) (gs : List Int) (h : OwnD bl (dRss ws) v gs) (hk : mkQQN k ws ≤ 4611686018427387000) (hl : ws.length ≤ 1048576)
    (hK : ∀ bl', OwnD bl' (dRss (mkQQ k ws)) v gs → (∀ g, g ∉ gs → ∀ b, bl g = some b → bl' g = some b) → K (.int .i64 (mkQQN k ws : Nat)) bl') : CallP Tryz.prog 23 [v, .int .i64 k] bl K := by
  refine callP_of Tryz.func23 rfl rfl (by rw [Tryz.ntmps23]; simp) ?_
  rw [Tryz.ntmps23, Tryz.results23]
  refine AW_run ?_
  rcases own_rss.1 h with ⟨rfl, rfl, rfl⟩ | ⟨g, els, gs', rfl, rfl, hg, hb, hneg, ho⟩
  · simp
    refine AW_for (fun _ : Unit => [(0, .nils), (1, .int .i64 k), (5, .int .i64 0)]) (fun _ => bl) (fun _ => True) (fun _ => 0) _ () trivial ⟨rfl, by simp, Sub.refl _⟩ ?_
    intro _ _
    refine AW_run ?_
    simp
    rw [retK_ret]
    refine ⟨[.int .i64 k], by simp, ?_⟩
    exact hK bl (own_rss.2 (.inl ⟨rfl, rfl, rfl⟩)) (fun _ _ _ h => h)
  · have hlen := OwnR.length ho
    simp at hlen
    simp
    refine AW_for (fun p : St2 => [(0, .lsl g 1 0 ws.length), (1, .int .i64 (mkQQN k (ws.take p.i) : Nat)), (5, .int .i64 p.i)]) (fun p => p.b)
      (fun p => p.i ≤ ws.length ∧ p.b g = some ⟨1, els⟩ ∧ OwnR p.b 1 (((mkQQ k ws).take p.i ++ ws.drop p.i).map fun w => [dRs w]) els gs' ∧ (∀ x, x ∉ g :: gs' → ∀ y, bl x = some y → p.b x = some y))
      (fun p => ws.length - p.i) 19 ⟨0, bl⟩ ⟨Nat.zero_le _, hb, by simpa using ho, fun x _ y h => h⟩ ⟨rfl, by simp [mkQQN], Sub.refl _⟩ ?_
    rintro ⟨i, b⟩ ⟨hi, hbg, hor, hfr⟩
    simp only at hi hbg hor hfr
    refine AW_run ?_
    simp
    have hle := mkQQN_mono k ws i
    refine ⟨fun h1 => ?_, fun h1 => ?_⟩
    · have hge : 0 ≤ g := by
        rcases Int.lt_or_le g 0 with hlt | hge
        · have h2 := hneg hlt; subst h2; simp at hlen; omega
        · exact hge
      have hri : ((mkQQ k ws).take i ++ ws.drop i)[i]'(by simp; omega) = ws[i] := by
        rw [List.getElem_append_right (by simp; omega)]
        simp [show min i ws.length = i by omega]
      obtain ⟨e, gi, a1, a2, a3, a4, a5, a6⟩ := hor.at i (by simp; omega)
      rw [List.getElem_map, hri] at a2
      obtain ⟨u, rfl⟩ : ∃ u, e = [u] := by
        match e, a3 with
        | [u], _ => exact ⟨u, rfl⟩
      have o1 := own_single.1 a2
      have hs := mkQQN_take_succ k ws i h1
      have hle2 := mkQQN_mono k ws (i + 1)
      have hst := mkQQ_step k ws i h1
      generalize mkQQN k (ws.take i) = q at *
      simp [h1, hbg, a1]
      refine markRatS_cp ws[i] q u gi o1 (by omega) fun b' o2 k2 => ?_
      have hgi : g ∉ gi := fun hh => hg (a5 g hh)
      simp (disch := omega) [i64_in, loopQ_normal]
      have he : els.set i [u] = els := by
        apply List.ext_getElem?
        intro j
        rw [List.getElem?_set]
        split
        · rename_i hj; subst hj; rw [if_pos (by omega)]; exact a1.symm
        · rfl
      refine ⟨⟨i + 1, b'⟩, ⟨by simp only; omega, by simp only; exact k2 g hgi _ hbg, ?_, fun x hx hx2 y hy => ?_⟩, by simp only; omega, rfl, by simp [hs], Sub.refl _⟩
      · have := a6 b' [dRs (mkQs q ws[i])] [u] (own_single.2 o2) rfl a4 fun x hx hn y hy => k2 x hn y hy
        rw [he, ← hst] at this
        simpa using this
      · exact k2 x (fun h => hx2 (a5 x h)) y (hfr x (by simp [hx, hx2]) y hy)
    · have : i = ws.length := by omega
      subst this
      rw [retK_ret]
      refine ⟨[.int .i64 (mkQQN k ws : Nat)], by simp, ?_⟩
      have ht : (mkQQ k ws).take ws.length = mkQQ k ws := List.take_of_length_le (by simp)
      rw [ht, List.drop_length, List.append_nil] at hor
      exact hK _ (own_rss.2 (.inr ⟨g, els, gs', by simp, rfl, hg, hbg, hneg, hor⟩)) hfr
theorem heldRatSS_ro (ws : List (List RT)) (k : Nat) (hk : mkQQN k ws ≤ 4611686018427387000) (hl : ws.length ≤ 1048576) : RO Tryz.prog 24 [.sl (rvv (mkQQ k ws)), .int .i64 k] (.int .i64 (mkQQN k ws : Nat)) := by
  refine ro_of2 Tryz.func24 rfl rfl (by rw [Tryz.ntmps24]; simp) fun bl => ?_
  rw [Tryz.ntmps24, Tryz.results24]
  refine AW_run ?_
  simp
  refine AW_for (fun i : Nat => [(0, .sl (rvv (mkQQ k ws))), (1, .int .i64 (mkQQN k (ws.take i) : Nat)), (5, .int .i64 i)]) (fun _ => bl) (fun i => i ≤ ws.length) (fun i => ws.length - i) _ 0 (Nat.zero_le _) ⟨rfl, by simp [mkQQN], Sub.refl _⟩ ?_
  intro i hi
  refine AW_run ?_
  simp
  refine ⟨fun h1 => ?_, fun h1 => ?_⟩
  · have hs := mkQQN_take_succ k ws i h1
    have hle2 := mkQQN_mono k ws (i + 1)
    have hat := mkQQ_at k ws i h1
    generalize mkQQN k (ws.take i) = q at *
    have hw : ¬ (mkQsN q ws[i] : Int) < 0 := by omega
    simp [h1, hat]
    refine callP_ro (heldRatS_ro ws[i] q (by omega)) ?_
    simp [hw]
    simp (disch := omega) [i64_in, loopQ_normal]
    refine ⟨i + 1, by omega, by omega, rfl, by simp [hs], Sub.refl _⟩
  · have : i = ws.length := by omega
    subst this
    exact retRO0 (by simp) rfl rfl
/-! ### What null vectors measure -/
theorem mkQQN_le {B : Nat} : ∀ (ws : List (List RT)) (k : Nat), (∀ w, w ∈ ws → w.length + sumQ w ≤ B) → mkQQN k ws ≤ k + ws.length * B
  | [], k, _ => by simp [mkQQN]
  | w :: ws, k, h => by
    have h1 := h w (by simp)
    have h2 := mkQQN_le ws (mkQsN k w) fun x hx => h x (by simp [hx])
    have h3 : mkQQN k (w :: ws) = mkQQN (mkQsN k w) ws := rfl
    rw [h3, List.length_cons, Nat.add_mul]
    rw [mkQsN_sum] at h2 ⊢
    omega
theorem nulR_fit {r c : Nat} {M : MF} (hM : ∀ i j, okQ (M i j)) (h0 : okM r c M = true) (hc : c ≤ 24) : fitQQ (nulR r c M).1 ∧ mkQQN 1 (nulR r c M).1 ≤ 4611686018427387000 := by
  unfold nulR
  cases hs : redTo r c M c with
  | none => exact ⟨⟨by simp, fun w hw => by cases hw⟩, by simp [mkQQN]⟩
  | some s =>
    obtain ⟨n1, n2, n3⟩ := nulls_st hM h0 hs
    have n4 := nullsTo_len s.M s.P c c
    have hw : ∀ w, w ∈ (nullsTo s.M s.P c c).map roAll → fitQ w 1048576 ∧ sumQ w ≤ 100000000 := by
      rw [← n1]
      intro w hw
      obtain ⟨l, hl, rfl⟩ := List.mem_map.1 hw
      exact stQ_fit (n2 l hl) (by rw [n3 l hl]; omega)
    refine ⟨⟨by simp; omega, fun w h => (hw w h).1⟩, ?_⟩
    have := mkQQN_le (B := 101048576) ((nullsTo s.M s.P c c).map roAll) 1 fun w h => by
      have h1 := hw w h
      have h2 := h1.1.1
      omega
    have h5 : ((nullsTo s.M s.P c c).map roAll).length ≤ 24 := by simp; omega
    have h6 : ((nullsTo s.M s.P c c).map roAll).length * 101048576 ≤ 24 * 101048576 := Nat.mul_le_mul_right _ h5
    simp only at this ⊢
    omega
theorem ssR_fit (s : Str) : fitQQ (ssR s).1 ∧ mkQQN 1 (ssR s).1 ≤ 4611686018427387000 := by
  unfold ssR
  split
  · rename_i h
    exact nulR_fit (mfOf_fit _ _) (mfOf_ok (eqM_ok s h)) (eqM_ok s h).c24
  · exact ⟨⟨by simp, fun w hw => by cases hw⟩, by simp [mkQQN]⟩
theorem mcR_fit (s : Str) : fitQQ (mcR s).1 ∧ mkQQN 1 (mcR s).1 ≤ 4611686018427387000 := by
  unfold mcR
  split
  · rename_i h
    exact nulR_fit (mfOf_fit _ _) (mfOf_ok (trM_ok (eqM_ok s h))) (trM_ok (eqM_ok s h)).c24
  · exact ⟨⟨by simp, fun w hw => by cases hw⟩, by simp [mkQQN]⟩
end Go.Proofs.YtmbcofnnibpbeaaGreat.Vm

namespace Go.Proofs.YtmbcofnnibpbeaaGreat.Vm
open Go Go.Proofs
set_option linter.unusedSimpArgs false
set_option linter.unusedVariables false

theorem law_SelfStresses_ro (s : Str) (hs : s.sz) : RO Tryz.prog 4 [.agg s.c] (.bool true) := by
  refine ro_of2 Tryz.func4 rfl rfl (by rw [Tryz.ntmps4]; simp) fun bl => ?_
  rw [Tryz.ntmps4, Tryz.results4]
  refine AW_run ?_
  simp [Str.c]
  intro gx0 hgx0 hbgx0
  have kp := kp_of (bl := bl) hbgx0 (some ⟨2, [[.sl (jv s.js), .sl (mv s.ms)]]⟩)
  have egx0 : upd bl gx0 (some ⟨2, [[.sl (jv s.js), .sl (mv s.ms)]]⟩) gx0 = some ⟨2, [[.sl (jv s.js), .sl (mv s.ms)]]⟩ := by simp
  have sb1 : Sub bl (upd bl gx0 (some ⟨2, [[.sl (jv s.js), .sl (mv s.ms)]]⟩)) := fun x y hx => kp x y ((Sub.refl _) x y hx)
  generalize upd bl gx0 (some ⟨2, [[.sl (jv s.js), .sl (mv s.ms)]]⟩) = b1 at *
  clear kp
  refine callP_ro (szStructure_ro s _ (by omega) hs.js hs.ms hs.nm) ?_
  try simp [egx0]
  refine ⟨fun h => ?_, fun hzs => ?_⟩
  · exact retRO [_] 0 rfl rfl sb1
  obtain ⟨l1s, l2s, l3s⟩ := szStr_le (s := s) (left := 1048576) (by omega) (by omega)
  have hles : -1 ≤ (szStr s 1048576) ∧ (szStr s 1048576) ≤ 1048576 := by omega
  have jss : s.js.length ≤ 1048576 := by omega
  have mss : s.ms.length ≤ 1048576 := by omega
  have ts := toStructure_ro s jss mss
  have hS := spec_SelfStresses_ro s ⟨hs.js, hs.ms, hs.nm⟩
  have hI := impl_SelfStresses_nw s ⟨hs.js, hs.ms, hs.nm⟩
  have hJ := impl_SelfStresses_ro s ⟨hs.js, hs.ms, hs.nm⟩
  have wl := ssR_fit s
  generalize ssR s = x at hS hI hJ wl
  obtain ⟨w, ob⟩ := x
  simp only [nulV] at hS hJ
  have wq : fitQQ w := wl.1
  have ws : mkQQN 1 w ≤ 4611686018427387000 := wl.2
  have we := eqRatSS_ro w wq
  refine callP_ro ts ?_
  try simp [egx0]
  refine callP_ro hS ?_
  try simp [egx0]
  refine callP_new (toStructure_nw s jss mss) fun va0 ga0 cb0 ot fa0 fra0 => ?_
  obtain ⟨va0a, va0b, rfl, oa0, c1, c2, c3, c4⟩ := own_agg ot
  clear ot
  have m_gx0_ga0 : gx0 ∉ ga0 := fun hh => by have hz := fa0 _ hh; rw [egx0] at hz; cases hz
  have fr_ga0 : ∀ x, x ∈ ga0 → bl x = none := fun x hx => fresh_of sb1 (fa0 x hx)
  have egx0 := new_keep fa0 fra0 egx0
  have scb0 : Sub bl cb0 := fun x y hx => new_keep fa0 fra0 (sb1 x y hx)
  try simp [egx0, c1, c2, c3, c4]
  intro gx1 hgx1 hbgx1
  have z_gx1_gx0 : gx0 ≠ gx1 := fun e => by rw [← e, egx0] at hbgx1; cases hbgx1
  try simp [z_gx1_gx0, Ne.symm z_gx1_gx0, egx0]
  have kp := kp_of (bl := cb0) hbgx1 (some ⟨2, [[va0a, va0b]]⟩)
  have egx1 : upd cb0 gx1 (some ⟨2, [[va0a, va0b]]⟩) gx1 = some ⟨2, [[va0a, va0b]]⟩ := by simp
  have sb2 : Sub bl (upd cb0 gx1 (some ⟨2, [[va0a, va0b]]⟩)) := fun x y hx => kp x y (scb0 x y hx)
  generalize upd cb0 gx1 (some ⟨2, [[va0a, va0b]]⟩) = b2 at *
  have egx0 := kp _ _ egx0
  have m_gx1_ga0 : gx1 ∉ ga0 := oa0.not hbgx1
  have oa0 := oa0.keep (bl' := b2) fun x _ y hy => kp x y hy
  clear kp
  try simp [egx0, egx1, c1, c2, c3, c4]
  refine callP_lend 3 (ys := [.agg s.c]) (by simp [frz_str oa0 1]; try simp [frz]) hI (dNul_sc _) fun vr gr d0 oT fr0 frr0 => ?_
  obtain ⟨w0, rfl, oR, p1, p2⟩ := own_dNul oT
  clear oT
  have m_gx0_gr : gx0 ∉ gr := fun hh => by have hz := fr0 _ hh; rw [egx0] at hz; cases hz
  have m_gx1_gr : gx1 ∉ gr := fun hh => by have hz := fr0 _ hh; rw [egx1] at hz; cases hz
  have n_gr_ga0 : ∀ x, x ∈ gr → x ∉ ga0 := fun x hx => oa0.not (fr0 x hx)
  have fr_gr : ∀ x, x ∈ gr → bl x = none := fun x hx => fresh_of sb2 (fr0 x hx)
  have egx0 := new_keep fr0 frr0 egx0
  have egx1 := new_keep fr0 frr0 egx1
  have oa0 := oa0.keep (bl' := d0) fun x _ y hy => new_keep fr0 frr0 hy
  have sd0 : Sub bl d0 := fun x y hx => new_keep fr0 frr0 (sb2 x y hx)
  try simp [egx0, egx1, p1, p2]
  refine AW_way0 [(1, .loc gx0 2 0 0), (6, .loc gx1 2 0 0), (4, .sl (rvv w)), (5, .bool ob), (7, w0), (8, .bool ob)] _ d0 40 (.bool false) ⟨rfl, by simp, Sub.refl _⟩ rfl ?_ ?_
  · simp [egx0, egx1]
    refine callP_borrow 3 (ys := [.sl (rvv w), .sl (rvv w)]) (by simp [frz_rss oR 0]; simp [frz]) we rfl ?_
    simp
  try simp [egx0, egx1]
  refine AW_quiet mixedO (by kernel_rfl) ?_
  simp [egx0, egx1]
  refine hcQ_ro ts ?_
  try simp
  refine hcQ_of 3 (eqStructure_ro s s hs.js hs.ms) (by simp [frz_str oa0 1]; simp [frz, Str.c, V.cl]) rfl ?_
  try simp [egx0, egx1]
  have bd0 : (mkN 1 s) ≤ 4611686018427387000 := by simp only [mkN]; omega
  refine markStructure_cp s 1 _ ga0 oa0 bd0 fun mb0 oa0 k0 => ?_
  have egx0 := k0 gx0 m_gx0_ga0 _ egx0
  have egx1 := k0 gx1 m_gx1_ga0 _ egx1
  have oR := oR.keep (bl' := mb0) fun x hx y hy => k0 x (n_gr_ga0 x hx) y hy
  have smb0 : Sub bl mb0 := fun x y hx => k0 x (fun h => by rw [fr_ga0 x h] at hx; cases hx) y (sd0 x y hx)
  try simp [egx0, egx1]
  refine AW_way0 [(1, .loc gx0 2 0 0), (6, .loc gx1 2 0 0), (4, .sl (rvv w)), (5, .bool ob), (7, w0), (8, .bool ob), (9, .int .i64 ((mkN 1 s) : Nat))] _ mb0 61 (.bool false) ⟨rfl, by simp, Sub.refl _⟩ rfl ?_ ?_
  · simp [egx0, egx1]
    refine callP_borrow 3 (ys := [.sl (rvv w), .sl (rvv w)]) (by simp [frz_rss oR 0]; simp [frz]) we rfl ?_
    simp
  try simp [egx0, egx1]
  have bw := ws
  refine markRatSS_cp w 1 _ gr oR bw wq.1 fun f0 oR kr => ?_
  have egx0 := kr gx0 m_gx0_gr _ egx0
  have egx1 := kr gx1 m_gx1_gr _ egx1
  have oa0 := oa0.keep (bl' := f0) fun x hx y hy => kr x (fun hh => n_gr_ga0 x hh hx) y hy
  have sf0 : Sub bl f0 := fun x y hx => kr x (fun h => by rw [fr_gr x h] at hx; cases hx) y (smb0 x y hx)
  have hh := heldRatSS_ro w 1 bw wq.1
  have hneg : ¬ (mkQQN 1 w : Int) < 0 := by omega
  try simp [egx0, egx1, hneg]
  refine callP_borrow 3 (ys := [.sl (rvv (mkQQ 1 w)), .int .i64 1]) (by simp [frz_rss oR 0]; simp [frz]) hh rfl ?_
  try simp [egx0, egx1, hneg]
  refine callP_ro ts ?_
  try simp [egx0, egx1]
  refine callP_ro hJ ?_
  try simp [egx0, egx1]
  refine AW_way0 [(1, .loc gx0 2 0 0), (6, .loc gx1 2 0 0), (4, .sl (rvv w)), (5, .bool ob), (7, w0), (8, .bool ob), (10, .int .i64 (mkQQN 1 w : Nat)), (12, .sl (rvv w)), (13, .bool ob)] _ f0 87 (.bool false) ⟨rfl, by simp, Sub.refl _⟩ rfl ?_ ?_
  · simp [egx0, egx1]
    refine callP_ro we ?_
    simp
  try simp [egx0, egx1]
  refine callP_borrow 3 (ys := [.sl (rvv (mkQQ 1 w)), .int .i64 1]) (by simp [frz_rss oR 0]; simp [frz]) hh rfl ?_
  try simp [egx0, egx1, hneg]
  exact retRO [_] 0 rfl rfl sf0

end Go.Proofs.YtmbcofnnibpbeaaGreat.Vm

namespace Go.Proofs.YtmbcofnnibpbeaaGreat.lawSelfStresses
open Go Go.RowKit Go.ChangeShapes Go.WideShapes Vm
theorem body (xs : List V) (h : ArgsOk Tryz.prog Tryz.f4.params.toList xs) : RO Tryz.prog 4 xs (.bool true) := by
  rw [Tryz.params4] at h
  obtain ⟨c0, ys, rfl, h0, h⟩ := args_cons h
  obtain rfl := args_nil h
  obtain ⟨x0, rfl, y0⟩ := str_of_co h0
  rw [toV_struct Tryz.underlying48]
  exact law_SelfStresses_ro x0 ⟨y0.js, y0.ms, y0.names⟩
set_option maxRecDepth 100000 in
theorem lifted (os : Os) (started : os.Started) (H : Type) (enc : TypeId × Value → H) :
    ReturnsInHanded {} Tryz.checked os 4 .any (Rows.fnExactSelfStressesSpec.pre6 enc Tryz.prog Tryz.f4 Rows.fnExactSelfStressesRow.domain false) (Rows.fnExactSelfStressesSpec.post enc Tryz.prog Tryz.f4 false true false false) := by
  refine returnsInHanded_of_change_sized (C := Tryz.checked) own started (by kernel_rfl) Tryz.func4
    (ChangeSpec.witness6 (enc := enc) (C := Tryz.checked) false ⟨#[], #[.agg #[.slice none 0 0, .slice none 0 0]], []⟩ 8 (by kernel_rfl) (by kernel_rfl) (by kernel_rfl) (by kernel_rfl)) ?_
  intro W base args ds gs before hval hW hcnd hsz _
  refine law_calls (tb := 4) rfl rfl Tryz.underlying4 laidOut (by kernel_rfl) (fun ds hds => ?_) body W base args ds gs before hval hW hsz
  rw [Tryz.params4] at hds
  first
    | (match ds, hds with | [a], _ => rfl)
    | (match ds, hds with | [a, b], _ => rfl)
    | (match ds, hds with | [a, b, c], _ => rfl)
    | (match ds, hds with | [a, b, c, d], _ => rfl)
    | (match ds, hds with | [a, b, c, d, e], _ => rfl)
    | (match ds, hds with | [a, b, c, d, e, f], _ => rfl)
theorem over : Rows.fnExactSelfStressesRow.holds Tryz.pinned (OpenSpec.ofChange Rows.fnExactSelfStressesSpec) :=
  OpenClaim.holds_of_wide 4 Tryz.f4 rfl rfl rfl rfl rfl rfl rfl ⟨rfl, rfl, rfl, rfl, rfl⟩ rfl rfl rfl rfl rfl (by kernel_rfl) Tryz.func4 (facts (by kernel_rfl))
    (of_decide_eq_true (by kernel_rfl)) (by unfold Func.isWrapper; first | (rw [if_pos (by decide +kernel)]; kernel_rfl) | (rw [if_neg (by decide +kernel)]; exact ⟨rfl, rfl⟩))
    (fun os started H enc _ => lifted os started H enc)
theorem proved : Rows.FnExactSelfStressesSaid := over
#print axioms proved
end Go.Proofs.YtmbcofnnibpbeaaGreat.lawSelfStresses
