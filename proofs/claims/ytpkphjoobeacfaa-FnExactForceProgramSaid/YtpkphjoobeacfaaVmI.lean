/- Soundness of the transformer: append. -/
import Derived.Test.YtpkphjoobeacfaaVmH
import Derived.Laws.BytesString
namespace Go.Proofs.Ytpkphjoobeacfaa.Vm
open Go Go.RowKit
set_option linter.unusedSimpArgs false
set_option linter.unusedVariables false

section
variable {P : Program} {K : St → Prop} {σ : St} {w0 : World} {M F : Nat → Prop} {a : Act} {w : World} {bl : Int → Option Blk}

/-- The elements of a slice, as they lie in memory. -/
def Laid (F : Nat → Prop) (w : World) (v : Value) (sz : Nat) (ys : List (List V)) : Prop :=
  ∃ (xa : Option Addr) (xc : Nat) (news : List Value), v = .slice xa ys.length xc ∧ news.length = ys.length * sz ∧ (ys = [] ∨ ∃ b o, xa = some ⟨b, o, none⟩ ∧ ∀ j u, news[j]? = some u → w.cell? ⟨b, o + j, none⟩ = some u) ∧
    (∀ u, u ∈ news → u.oneCell' = true) ∧ ∀ i e, ys[i]? = some e → e.length = sz ∧ ∀ j y, e[j]? = some y → y.one = true ∧ ∃ u : Value, news[i * sz + j]? = some u ∧ Rep F w y u

theorem laid_nil (v : Value) (xa : Option Addr) (xc sz : Nat) (h : v = .slice xa 0 xc) : Laid F w v sz [] :=
  ⟨xa, xc, [], h, by simp, .inl rfl, by simp, fun i e he => by cases he⟩

theorem laid_of_cells {v : Value} {b o sz xc : Nat} {ys : List (List V)} (hv : v = .slice (some ⟨b, o, none⟩) ys.length xc) (hsz : 1 ≤ sz)
    (hk : ∀ i e, ys[i]? = some e → e.length = sz ∧ ∀ j y, e[j]? = some y → y.one = true ∧ ∃ u, w.cell? ⟨b, o + i * sz + j, none⟩ = some u ∧ Rep F w y u) : Laid F w v sz ys := by
  have hcell : ∀ p, p < ys.length * sz → ∃ e y u, ys[p / sz]? = some e ∧ e[p % sz]? = some y ∧ y.one = true ∧ w.cell? ⟨b, o + p, none⟩ = some u ∧ Rep F w y u := by
    intro p hp
    have hi : p / sz < ys.length := (Nat.div_lt_iff_lt_mul (by omega)).2 hp
    have hj : p % sz < sz := Nat.mod_lt _ (by omega)
    obtain ⟨h1, h2⟩ := hk (p / sz) _ (List.getElem?_eq_getElem hi)
    have h3 : (ys[p / sz])[p % sz]? = some ((ys[p / sz])[p % sz]'(by rw [h1]; exact hj)) := List.getElem?_eq_getElem _
    obtain ⟨h4, u, h5, h6⟩ := h2 _ _ h3
    refine ⟨_, _, u, List.getElem?_eq_getElem hi, h3, h4, ?_, h6⟩
    rw [← h5, Nat.add_assoc, Nat.mul_comm (p / sz), Nat.div_add_mod]
  refine ⟨_, xc, (List.range (ys.length * sz)).map fun p => (w.cell? ⟨b, o + p, none⟩).getD undef, hv, by simp, .inr ⟨b, o, rfl, fun j u hu => ?_⟩, fun u hu => ?_, fun i e he => ?_⟩
  · rw [List.getElem?_map] at hu
    have hj : j < ys.length * sz := by
      rcases Nat.lt_or_ge j (ys.length * sz) with h | h
      · exact h
      · rw [List.getElem?_eq_none (by simpa using h)] at hu; cases hu
    rw [List.getElem?_range hj] at hu
    obtain ⟨_, _, u', _, _, _, h5, _⟩ := hcell j hj
    simp only [Option.map_some, h5, Option.getD_some, Option.some.injEq] at hu
    subst hu; exact h5
  · obtain ⟨p, hp, rfl⟩ := List.mem_map.1 hu
    obtain ⟨_, y, u', _, _, h4, h5, h6⟩ := hcell p (List.mem_range.1 hp)
    rw [h5, Option.getD_some]
    exact h6.one h4
  · obtain ⟨h1, h2⟩ := hk i e he
    refine ⟨h1, fun j y hy => ?_⟩
    obtain ⟨h3, u, h4, h5⟩ := h2 j y hy
    refine ⟨h3, u, ?_, h5⟩
    have hil : i < ys.length := (List.getElem?_eq_some_iff.1 he).1
    have hjl : j < sz := by have := (List.getElem?_eq_some_iff.1 hy).1; omega
    rw [List.getElem?_map, List.getElem?_range (idx_lt hil hjl)]
    simp only [Option.map_some, Option.some.injEq]
    rw [← Nat.add_assoc, h4]; rfl

theorem elsV_sound (hm : Mem w0 M F bl w) {x : V} {v : Value} (hx : Rep F w x v) {sz : Nat} {ys : List (List V)} (hsz : 1 ≤ sz) (h : elsV bl sz x = some ys) : Laid F w v sz ys := by
  cases hx <;> simp only [elsV] at h <;> try (cases h; done)
  case nils => cases h; exact laid_nil _ none 0 sz rfl
  case sle ad cap => cases h; exact laid_nil _ (some ad) cap sz rfl
  case sl0 ad cap ha =>
    split at h
    · cases h; exact laid_nil _ ad cap sz rfl
    · cases h
  case sl b o cap sz' xs u hF hle hcap hsz' hc hr =>
    split at h
    · rename_i hall
      cases h
      have hsame : ∀ c, c ∈ ys → c.length = sz ∧ c.all V.one = true := fun c hcm => by
        have := List.all_eq_true.1 hall c hcm
        simpa using this
      refine laid_of_cells rfl hsz fun i e he => ⟨(hsame e (List.mem_of_getElem? he)).1, fun j y hy => ⟨List.all_eq_true.1 (hsame e (List.mem_of_getElem? he)).2 y (List.mem_of_getElem? hy), u i j, ?_, hr i e j y he hy⟩⟩
      have h1 := hsz' e (List.mem_of_getElem? he)
      have h2 := (hsame e (List.mem_of_getElem? he)).1
      rw [← h2, h1]; exact hc i e j y he hy
    · cases h
  case lsl g s o n cap hg hle hcap hb =>
    rw [if_neg (by omega)] at h
    split at h
    · rename_i b hbl
      split at h
      · rename_i hc
        cases h
        obtain ⟨h1, h2, h3⟩ := hc
        subst h1 h2
        rcases Nat.eq_zero_or_pos n with rfl | hn
        · rw [List.take_zero]; exact laid_nil _ _ cap b.sz rfl
        · obtain ⟨_, hFg, c, t, hcc, hlen, hcell⟩ := (hm.blk g b hbl).at (k := o) (by omega)
          have hl : ((b.els.drop o).take n).length = n := by simp; omega
          refine laid_of_cells (b := g.toNat) (o := o * b.sz) (xc := cap) (by rw [hl]) hsz fun i e he => ?_
          have hi : i < n := by rw [← hl]; exact (List.getElem?_eq_some_iff.1 he).1
          rw [List.getElem?_take_of_lt hi, List.getElem?_drop] at he
          obtain ⟨h4, h5⟩ := hcell (o + i) e he
          refine ⟨h4, fun j y hy => ?_⟩
          obtain ⟨h6, u, h7, h8⟩ := h5 j y hy
          refine ⟨h6, u, ?_, h8⟩
          rw [cell_of_block hcc, ← h7, Nat.add_mul]
      · cases h
    · cases h
  case lsln g s hg =>
    rw [if_pos hg] at h
    cases h
    exact laid_nil _ none 0 sz rfl

theorem bytesOf_get : ∀ {els : List (List V)} {ns : List Int}, bytesOf els = some ns → els = ns.map fun n => [.int .u8 n]
  | [], ns, h => by cases h; rfl
  | e :: r, ns, h => by
    unfold bytesOf at h
    split at h
    · rename_i heq; cases heq
    · rename_i n r' heq
      cases heq
      split at h
      · rename_i ns' hn
        cases h
        rw [bytesOf_get hn]; rfl
      · cases h
    · cases h

theorem sound_convert {o : Oper} {s d : TypeId} {x : Operand} (ho : o.op = .convert s d x) (hT : T P o K σ) (hs : Sim w0 M F σ a w) {Q : Exit → Act → World → Prop} : o.wp P a w (Nx w0 M F K) Q := by
  unfold T at hT; rw [ho] at hT
  obtain ⟨v, hv, hK⟩ := hT
  have hx := hs.ev x
  have hm := hs.mem
  have : ∃ r, (convert s d (a.eval x)).run P w = .ok r w ∧ Rep F w v r := by
    have bytes : cvtS P σ.bl s d (σ.ev x) = some v → ∃ r, (convert s d (a.eval x)).run P w = .ok r w ∧ Rep F w v r := by
      intro h
      unfold cvtS at h
      split at h
      · rename_i e he hd
        split at h
        · rename_i els hu hels
          split at h
          · rename_i ns hns
            cases h
            obtain ⟨xa, xc, news, hxv, hnl, hnc, hno, hnr⟩ := elsV_sound hm hx (Nat.le_refl 1) hels
            have hels2 := bytesOf_get hns
            have hnews : news = ns.map (Value.int .u8) := by
              apply List.ext_getElem?
              intro i
              rw [List.getElem?_map]
              rcases Nat.lt_or_ge i ns.length with hi | hi
              · have h1 : els[i]? = some [.int .u8 ns[i]] := by rw [hels2, List.getElem?_map, List.getElem?_eq_getElem hi]; rfl
                obtain ⟨_, h2⟩ := hnr i _ h1
                obtain ⟨_, u, h3, h4⟩ := h2 0 _ rfl
                rw [List.getElem?_eq_getElem hi]
                cases h4
                simpa using h3
              · have : els.length = ns.length := by rw [hels2]; simp
                rw [List.getElem?_eq_none hi, List.getElem?_eq_none (by rw [hnl, this]; omega)]; rfl
            have hlen : els.length = ns.length := by rw [hels2]; simp
            refine ⟨.string (toBytes ns), ?_, .str _⟩
            rw [hxv, run_convert_bytes_string w s d e xa els.length xc (slE_some he) (isInt_some hu) (isStr_some hd)]
            cases xa with
            | none =>
              rcases hnc with h0 | ⟨b, off, h0, _⟩
              · subst h0
                have : ns = [] := List.eq_nil_of_length_eq_zero (by simpa using hlen.symm)
                subst this
                simp [Conv.bytesToString, toBytes]
              · cases h0
            | some ad =>
              refine run_bytesToString w ad els.length xc ns ?_
              rcases hnc with h0 | ⟨b, off, h0, hcells⟩
              · subst h0
                have : ns = [] := List.eq_nil_of_length_eq_zero (by simpa using hlen.symm)
                subst this
                simp [loadCells, loadCellsFrom]
              · cases h0
                simp only [loadCells]
                rw [run_loadCellsFrom (fun j => news.getD j undef) els.length 0 #[] (fun j hj => by
                  have hj' : j < news.length := by rw [hnl]; omega
                  rw [Nat.zero_add, hcells j news[j] (List.getElem?_eq_getElem hj')]
                  simp [hj'])]
                congr 1
                rw [← hnews]
                apply Array.ext
                · simp [hnl]
                · intro i h1 h2
                  have hi : i < news.length := by simpa using h2
                  simp [hi]
          · cases h
        · cases h
      · cases h
    cases hxe : σ.ev x with
    | int k n =>
      rw [hxe] at hv hx
      simp only [cvtV] at hv
      generalize a.eval x = av at hx
      cases hx
      split at hv
      · rename_i k' ds hk hd
        cases hv
        refine ⟨.int k' (k'.wrap n), ?_, .int _ _⟩
        simp only [convert, Sem.run_bind, run_underlying hd, run_underlying (isInt_some hk), Result.andThen_ok]
        cases ds <;> rfl
      · cases hv
    | _ => exact bytes (by rw [hxe] at hv ⊢; exact hv)
  obtain ⟨r, hr, hrep⟩ := this
  refine wp_value (v := r) (w' := w) ?_ (nx_put hs hrep hK)
  simp only [execOp, ho, Sem.run_bind, hr, Result.andThen_ok, Sem.run_pure]

theorem Mem.drew (h : Mem w0 M F bl w) : Mem w0 M F bl w.drew := h.grow (w' := w.drew) rfl rfl rfl (Nat.le_refl _) (fun _ _ => rfl) (fun _ h => h) h.fr (fun k hk => .inl hk)
theorem Rep.drew {x : V} {v : Value} (h : Rep F w x v) : Rep F w.drew x v :=
  Rep.mono (F := F) (F' := F) (w := w) (w' := w.drew) (fun _ h => h) (fun _ _ => rfl) (.of_same fun _ _ => rfl) h
theorem rep_lsl {g : Int} {sz o n : Nat} {v : Value} (h : Rep F w (.lsl g sz o n) v) : (g < 0 ∧ o = 0 ∧ n = 0 ∧ v = .slice none 0 0) ∨
    (0 ≤ g ∧ ∃ cap, n ≤ cap ∧ cap ≤ maxLen ∧ v = .slice (some ⟨g.toNat, o * sz, none⟩) n cap ∧ ∃ c t f, w.heap[g.toNat]? = some (.cells c t f) ∧ (o + cap) * sz ≤ c.size) := by
  generalize hx : V.lsl g sz o n = x at h
  cases h <;> cases hx
  · exact .inr ⟨by assumption, _, by assumption, by assumption, rfl, by assumption⟩
  · rename_i hg; exact .inl ⟨hg, rfl, rfl, rfl⟩
theorem Mem.forget (h : Mem w0 M F bl w) (g : Int) : Mem w0 M F (rem bl g) w := by
  refine ⟨h.os, h.tape, h.output, h.size, h.frame, h.shapes, h.fr, ?_, fun g' b hb => ?_, fun g' b hb => ?_⟩
  · obtain ⟨n, hn⟩ := h.fin
    exact ⟨n, fun g' hg' => by unfold rem; split; rfl; exact hn g' hg'⟩
  all_goals
    unfold rem at hb
    split at hb
    · cases hb
  · exact h.own g' b hb
  · exact h.blk g' b hb

/-- A ghost: a slice that is nil. -/
theorem Mem.ghost (h : Mem w0 M F bl w) (sz : Nat) : ∃ g : Int, g < 0 ∧ bl g = none ∧ Mem w0 M F (upd bl g (some ⟨sz, []⟩)) w := by
  obtain ⟨n, hn⟩ := h.fin
  refine ⟨min (n - 1) (-1), by omega, hn _ (by omega), ⟨h.os, h.tape, h.output, h.size, h.frame, h.shapes, h.fr, ⟨min (n - 1) (-1), fun g hg => ?_⟩, fun g b hb h0 => ?_, fun g b hb => ?_⟩⟩
  · rw [upd_ne _ _ _ _ (by omega)]; exact hn g (by omega)
  · rw [upd_ne _ _ _ _ (by omega)] at hb; exact h.own g b hb h0
  · by_cases hg : g = min (n - 1) (-1)
    · subst hg
      rw [upd_same] at hb; cases hb
      unfold BlkIn; rw [if_pos (by omega)]
    · rw [upd_ne _ _ _ _ hg] at hb; exact h.blk g b hb

/-- The grown row is a new block. -/
theorem grow_new (hs : Sim w0 M F σ a w) (bl1 : Int → Option Blk) (hm : Mem w0 M F bl1 w) {d : Option Nat} {e : TypeId} {sz : Nat} (els : List (List V)) (all : List Value) (rest : Array Value) (cap : Nat)
    (hl : all.length = els.length * sz) (hcap : cap ≤ maxLen) (hle : els.length ≤ cap) (hrest : rest.size = (cap - els.length) * sz)
    (hk : ∀ i e, els[i]? = some e → e.length = sz ∧ ∀ j y, e[j]? = some y → y.one = true ∧ ∃ u : Value, all[i * sz + j]? = some u ∧ Rep F w y u)
    (hK : ∀ g : Int, (0 ≤ g ∨ els = []) → bl1 g = none → K (({ σ with bl := upd bl1 g (some ⟨sz, els⟩) } : St).put d (.lsl g sz 0 els.length))) :
    Nx w0 M F K (a.put d (.slice (some ⟨w.heap.size, 0, none⟩) els.length cap)) (w.drew.alloc (.cells (all.toArray ++ rest) e)) := by
  have hsize : (all.toArray ++ rest).size = cap * sz := by
    rw [Array.size_append, List.size_toArray, hl, hrest, ← Nat.add_mul, Nat.add_sub_cancel' hle]
  obtain ⟨hnn, hm'⟩ := hm.drew.alloc (all.toArray ++ rest) e sz els (by rw [hsize]; exact Nat.mul_le_mul_right _ hle) (fun k e' he => ⟨(hk k e' he).1, fun j y hy => by
    obtain ⟨h1, u, h2, h3⟩ := (hk k e' he).2 j y hy
    refine ⟨h1, u, ?_, h3.drew⟩
    rw [Array.getElem?_append_left (by simpa using (List.getElem?_eq_some_iff.1 h2).1)]
    simpa using h2⟩)
  have hsame : ∀ k, k < w.heap.size → (w.drew.alloc (.cells (all.toArray ++ rest) e)).heap[k]? = w.heap[k]? := fun k hk => Below.heap_alloc w.drew _ _ hk
  have hs' : Sim w0 M F ({ σ with bl := upd bl1 (w.heap.size : Int) (some ⟨sz, els⟩) } : St) a (w.drew.alloc (.cells (all.toArray ++ rest) e)) :=
    ⟨hm', hs.size, fun t ht => (hs.sl t ht).mono (fun _ h => h) (fun k hk => hsame k (hs.mem.fr k hk)) (.of_same hsame), hs.defers⟩
  refine ⟨_, F, fun _ h => h, hs'.put ?_, hK _ (.inl (by omega)) hnn⟩
  have := Rep.lsl (F := F) (w := w.drew.alloc (.cells (all.toArray ++ rest) e)) (w.heap.size : Int) sz 0 els.length cap (by omega) hle hcap ⟨all.toArray ++ rest, e, (0, 0), by show (w.heap.push _)[w.heap.size]? = _; simp, by rw [hsize]; simp⟩
  simpa using this

theorem sound_append {o : Oper} {c : Call} (ho : o.op = .call c) (hc : c.callee = .builtin .append) (hT : T P o K σ) (hs : Sim w0 M F σ a w) {Q : Exit → Act → World → Prop} : o.wp P a w (Nx w0 M F K) Q := by
  unfold T at hT; rw [ho] at hT
  simp only [hc] at hT
  obtain ⟨⟨bl1, sz, els⟩, hv, h1, h2, hb, hK⟩ := hT
  obtain ⟨s, x, hsx⟩ := arr2 h1
  obtain ⟨t, tx, htx⟩ := arr2 h2
  rw [hsx, htx] at hv
  rw [htx] at hb
  have hv' : appV P t tx σ.bl (σ.ev s) (σ.ev x) = some (bl1, sz, els) := hv
  have hb' : (slE P t).elim False (fun e => els.length * bsz P e ≤ 140737488355328 ∧ 1 ≤ bsz P e ∧ ∃ z, zeroC P e = some z ∧ 1 ≤ z.length) := hb
  clear hv hb
  unfold appV at hv'
  split at hv'
  · rename_i e he htt
    have htt' : t = tx := of_decide_eq_true htt
    subst htt'
    rw [he] at hb'
    obtain ⟨hbytes, hb1, z, hz, hz1⟩ := hb'
    obtain ⟨i, zv, hi, hzz, hcs, hone, hlen⟩ := zeroC_some hz
    have hcsz : csz P e = some i.size := by simp [csz, hi]
    have hbs : bsz P e = i.bytes := by simp [bsz, hi]
    have hsz1 : 1 ≤ i.size := by omega
    have hzsz : zv.cells.size = i.size := by rw [← hlen, hcs]; simp
    rw [hbs] at hbytes hb1
    rw [hcsz] at hv'
    simp only [Option.getD_some] at hv'
    split at hv'
    · rename_i sz' ys hsz' hys
      cases hsz'
      have hL := elsV_sound hs.mem (hs.ev x) hsz1 hys
      obtain ⟨xa, xc, news, hxv, hnl, hnc, hno, hnr⟩ := hL
      have hgoal : ∀ {r : Value} {w' : World}, (Builtin.append_ #[t, t] o.type #[a.eval s, a.eval x]).run P w = .ok r w' → Nx w0 M F K (a.put o.dst r) w' → o.wp P a w (Nx w0 M F K) Q := by
        intro r w' hr hn
        refine wp_value (v := r) (w' := w') ?_ hn
        simp only [execOp, ho, resolve, hc, Sem.run_bind, Sem.run_pure, Result.andThen_ok, invoke, builtin, hsx, htx, List.map_toArray, List.map_cons, List.map_nil, hr]
      have hsv := hs.ev s
      -- onto nothing
      have onto_nil : a.eval s = .slice none 0 0 → els = ys → sz = i.size → Mem w0 M F bl1 w → o.wp P a w (Nx w0 M F K) Q := by
        intro hsn hey hsze hm1
        subst hey hsze
        by_cases hm0 : els = []
        · subst hm0
          obtain ⟨g, hg0, hgn, hmg⟩ := hm1.ghost i.size
          have hlens : ([] : List (List V)).length = 0 := rfl
          rw [hlens] at hxv
          refine hgoal (r := .slice none 0 0) (w' := w) ?_ ?_
          · rw [hsn, hxv]
            cases xa with
            | none => simp [Builtin.append_, run_underlying (slE_some he), sizeOf, typeInfo, hi, Builtin.lenOf, Builtin.firstCells]
            | some ad => simp [Builtin.append_, run_underlying (slE_some he), sizeOf, typeInfo, hi, Builtin.lenOf, Builtin.firstCells, loadCells, loadCellsFrom]
          · have hs' : Sim w0 M F ({ σ with bl := upd bl1 g (some ⟨i.size, []⟩) } : St) a w := ⟨hmg, hs.size, hs.sl, hs.defers⟩
            exact ⟨_, F, fun _ h => h, hs'.put (.lsln g i.size hg0), hK g (.inr rfl) hgn⟩
        · rcases hnc with h | ⟨b, off, rfl, hcells⟩
          · exact absurd h hm0
          · have hpos : 0 < els.length := List.length_pos_iff.2 hm0
            have hmb : els.length ≤ 9223372036854775807 := by
              have : els.length * 1 ≤ els.length * i.bytes := Nat.mul_le_mul_left _ hb1
              omega
            have hr := run_append_nil (P := P) w t o.type e i zv (slE_some he) hi hzz ⟨b, off, none⟩ els.length xc news hnl (fun j u hu => by rw [add_none]; exact hcells j u hu) hpos (by omega) (by omega)
            refine hgoal (by rw [hsn, hxv]; exact hr) ?_
            refine grow_new hs bl1 hm1 els news _ _ hnl (grownCap_le_maxLen w _ _ _ (by simp only [maxLen]; omega)) (grownCap_ge w _ _ _) (by rw [size_zeroCells, hzsz]) hnr hK
      cases hss : σ.ev s <;> rw [hss] at hv' hsv <;> simp only at hv' <;> try (cases hv'; done)
      case nils =>
        cases hv'
        generalize hav : a.eval s = av at hsv
        cases hsv
        exact onto_nil hav rfl rfl hs.mem
      case lsl g s' o' n =>
        split at hv'
        · rename_i b hbg
          split at hv'
          · rename_i hcc
            obtain ⟨rfl, rfl, hs2, hnle⟩ := hcc
            cases hv'
            rcases rep_lsl hsv with ⟨hg0, _, hn0, hav⟩ | ⟨hg, cap, hle, hcap, hav, cc, ct, cf, hheap, hfit⟩
            · subst hn0
              exact onto_nil hav (by simp) rfl (hs.mem.forget g)
            · have hav : a.eval s = .slice (some ⟨g.toNat, 0, none⟩) n cap := by rw [hav]; simp
              have hbs2 : b.sz = i.size := hs2
              have hold : Laid F w (.slice (some ⟨g.toNat, 0, none⟩) n cap) i.size (b.els.take n) := by
                have := elsV_sound (sz := i.size) hs.mem (Rep.lsl (F := F) (w := w) g b.sz 0 n cap hg hle hcap ⟨cc, ct, cf, hheap, hfit⟩) hsz1 (ys := b.els.take n) (by
                  simp only [elsV]
                  rw [if_neg (by omega), hbg]
                  simp only
                  rw [if_pos ⟨trivial, hbs2, by omega⟩]
                  simp)
                simpa using this
              have hbk := hs.mem.blk g b hbg
              unfold BlkIn at hbk
              rw [if_neg (by omega)] at hbk
              obtain ⟨hFg, c0, t0, hc0, hlen0, hcell0⟩ := hbk
              have hcc0 : cc = c0 ∧ ct = t0 := by rw [hheap] at hc0; cases hc0; exact ⟨rfl, rfl⟩
              obtain ⟨rfl, rfl⟩ := hcc0
              have htl : (b.els.take n).length = n := by simp; omega
              have hel : (b.els.take n ++ ys).length = n + ys.length := by rw [List.length_append, htl]
              obtain ⟨oa, oc, olds, hov, hol, hocells, hoo, hor⟩ := hold
              rw [htl] at hov hol
              rw [hbs2] at hfit hlen0 hcell0
              by_cases hroom : n + ys.length ≤ cap
              · -- in place
                have hf : (Builtin.firstCells i.size ys.length (.slice xa ys.length xc)).run P w = .ok news.toArray w := by
                  rcases hnc with h | ⟨bb, off, rfl, hcells⟩
                  · subst h
                    have hn0 : news = [] := List.eq_nil_of_length_eq_zero (by simpa using hnl)
                    subst hn0
                    cases xa <;> simp [Builtin.firstCells, loadCells, loadCellsFrom]
                  · exact run_firstCells_some w i.size ys.length ⟨bb, off, none⟩ ys.length xc news hnl (fun j u hu => by rw [add_none]; exact hcells j u hu)
                have hfit' : (n + ys.length) * i.size ≤ cc.size := by
                  have : (n + ys.length) * i.size ≤ (0 + cap) * i.size := Nat.mul_le_mul_right _ (by omega)
                  omega
                rw [Nat.add_mul] at hfit'
                obtain ⟨w', c', hst, g1, g2, g3, g4, g5, g6, g7, g8⟩ := run_storeCells (P := P) (b := g.toNat) (t := ct) (o := n * i.size) news w 0 cc hc0 (by rw [hnl]; omega) hno
                have hsh : Shapes w w' := fun bb c2 t2 f2 hcc => by
                  by_cases hbb : bb = g.toNat
                  · subst hbb
                    rw [hc0] at hcc
                    cases hcc
                    exact ⟨c', _, g6, g7⟩
                  · exact ⟨c2, f2, by rw [g5 _ hbb]; exact hcc, rfl⟩
                have hFs : ∀ k, F k → w'.heap[k]? = w.heap[k]? := fun k hk => g5 k (fun e => hFg (e ▸ hk))
                have hrep : ∀ {x v}, Rep F w x v → Rep F w' x v := fun hr => Rep.mono (fun _ h => h) hFs hsh hr
                have hm' : Mem w0 M F (upd (rem σ.bl g) g (some ⟨b.sz, b.els.take n ++ ys⟩)) w' := by
                  refine hs.mem.step g1 g2 g3 (by omega) hsh (fun k => k = g.toNat) (fun k _ hk => g5 k hk) (fun k hk => hk ▸ hs.mem.own g b hbg hg) (fun k hk => by rw [g4]; exact hs.mem.fr k hk) ?_ fun g' b' hb' => ?_
                  · obtain ⟨nn, hnn⟩ := hs.mem.fin
                    refine ⟨min nn 0, fun g' hg' => ?_⟩
                    rw [upd_ne _ _ _ _ (by omega)]
                    unfold rem; split
                    · rfl
                    · exact hnn g' (by omega)
                  · by_cases hgg : g' = g
                    · subst hgg
                      rw [upd_same] at hb'
                      cases hb'
                      refine ⟨hs.mem.own g' b hbg, ?_⟩
                      unfold BlkIn
                      rw [if_neg (by omega)]
                      refine ⟨hFg, c', ct, g6, by rw [hel, g7]; simp only [hbs2]; rw [Nat.add_mul]; omega, fun k e' he' => ?_⟩
                      simp only [hbs2]
                      rcases Nat.lt_or_ge k n with hk | hk
                      · rw [List.getElem?_append_left (by omega)] at he'
                        rw [List.getElem?_take_of_lt hk] at he'
                        obtain ⟨q1, q2⟩ := hcell0 k e' he'
                        refine ⟨q1, fun j y hy => ?_⟩
                        obtain ⟨q3, u, q4, q5⟩ := q2 j y hy
                        refine ⟨q3, u, ?_, hrep q5⟩
                        have hj : j < i.size := by have := (List.getElem?_eq_some_iff.1 hy).1; omega
                        have := idx_lt hk hj
                        rw [g8, if_neg (by omega)]; exact q4
                      · rw [List.getElem?_append_right (by omega), htl] at he'
                        obtain ⟨q1, q2⟩ := hnr (k - n) e' he'
                        refine ⟨q1, fun j y hy => ?_⟩
                        obtain ⟨q3, u, q4, q5⟩ := q2 j y hy
                        refine ⟨q3, u, ?_, hrep q5⟩
                        have hj : j < i.size := by have := (List.getElem?_eq_some_iff.1 hy).1; omega
                        have hkl := (List.getElem?_eq_some_iff.1 he').1
                        have hlt := idx_lt hkl hj
                        have hsplit : k * i.size = n * i.size + (k - n) * i.size := by rw [← Nat.add_mul]; congr 1; omega
                        rw [g8, if_pos (by rw [hnl, hsplit]; omega), show k * i.size + j - (n * i.size + 0) = (k - n) * i.size + j from by rw [hsplit]; omega]
                        exact q4
                    · rw [upd_ne _ _ _ _ hgg] at hb'
                      unfold rem at hb'
                      rw [if_neg hgg] at hb'
                      refine ⟨hs.mem.own g' b' hb', (hs.mem.blk g' b' hb').mono (fun _ h => h) (fun h0 hF => ?_) hFs hsh (fun h0 => g5 _ (by omega))⟩
                      have hB := hs.mem.blk g' b' hb'
                      unfold BlkIn at hB
                      rw [if_neg (by omega)] at hB
                      exact hB.1 hF
                refine hgoal (r := .slice (some ⟨g.toNat, 0, none⟩) (n + ys.length) cap) (w' := w') ?_ ?_
                · rw [hav, hxv]
                  simp [Builtin.append_, run_underlying (slE_some he), sizeOf, typeInfo, hi, Builtin.lenOf, hroom, hf, add_none, hst]
                · have hs' : Sim w0 M F ({ σ with bl := upd (rem σ.bl g) g (some ⟨b.sz, b.els.take n ++ ys⟩) } : St) a w' := ⟨hm', hs.size, fun t ht => hrep (hs.sl t ht), hs.defers⟩
                  have hn := hK g (.inl hg) (by simp [rem])
                  simp only [hel] at hn
                  rw [← hbs2] at hn
                  refine ⟨_, F, fun _ h => h, hs'.put ?_, hn⟩
                  have := Rep.lsl (F := F) (w := w') g b.sz 0 (n + ys.length) cap hg hroom hcap ⟨c', ct, (0, 0), g6, by rw [hbs2, g7]; exact hfit⟩
                  simpa using this
              · -- a new row
                rcases hnc with h | ⟨bb, off, rfl, hcells⟩
                · subst h; simp at hroom; omega
                have hmb : n + ys.length ≤ 9223372036854775807 := by
                  have : (n + ys.length) * 1 ≤ (n + ys.length) * i.bytes := Nat.mul_le_mul_left _ hb1
                  rw [hel] at hbytes
                  omega
                have holds : ∀ j u, olds[j]? = some u → w.cell? ((⟨g.toNat, 0, none⟩ : Addr).add j) = some u := by
                  rcases hocells with h | ⟨ob, oo, hoe, hocc⟩
                  · have hn0 : n = 0 := by rw [h] at htl; simpa using htl.symm
                    subst hn0
                    have : olds = [] := List.eq_nil_of_length_eq_zero (by simpa using hol)
                    subst this
                    intro j u hu; cases hu
                  · rw [hoe] at hov
                    cases hov
                    intro j u hu; rw [add_none]; exact hocc j u hu
                have hr := run_append_grow (P := P) w t o.type e i zv (slE_some he) hi hzz ⟨g.toNat, 0, none⟩ n cap olds hol holds ⟨bb, off, none⟩ ys.length xc news hnl (fun j u hu => by rw [add_none]; exact hcells j u hu) (by omega) (by omega) (growslice_fits (by omega) (by rw [hel] at hbytes; exact hbytes))
                refine hgoal (by rw [hav, hxv]; exact hr) ?_
                have hK' := hK
                simp only at hK'
                rw [← hbs2] at hK'
                have hgn := grow_new (e := e) hs (rem σ.bl g) (hs.mem.forget g) (sz := b.sz) (b.els.take n ++ ys) (olds ++ news) (Builtin.zeroCells zv.cells (grownCap w (n + ys.length) cap e - (n + ys.length))) (grownCap w (n + ys.length) cap e)
                  (by rw [hel, List.length_append, hol, hnl, hbs2, Nat.add_mul]) (grownCap_le_maxLen w _ _ _ (by simp only [maxLen]; omega)) (by rw [hel]; exact grownCap_ge w _ _ _) (by rw [size_zeroCells, hzsz, hel, hbs2]) (fun k e' he' => ?_) hK'
                · rw [hel] at hgn
                  rw [← List.append_toArray] at hgn
                  exact hgn
                · rw [hbs2]
                  rcases Nat.lt_or_ge k n with hk | hk
                  · rw [List.getElem?_append_left (by omega)] at he'
                    obtain ⟨q1, q2⟩ := hor k e' he'
                    refine ⟨q1, fun j y hy => ?_⟩
                    obtain ⟨q3, u, q4, q5⟩ := q2 j y hy
                    refine ⟨q3, u, ?_, q5⟩
                    rw [List.getElem?_append_left (List.getElem?_eq_some_iff.1 q4).1]; exact q4
                  · rw [List.getElem?_append_right (by omega), htl] at he'
                    obtain ⟨q1, q2⟩ := hnr (k - n) e' he'
                    refine ⟨q1, fun j y hy => ?_⟩
                    obtain ⟨q3, u, q4, q5⟩ := q2 j y hy
                    refine ⟨q3, u, ?_, q5⟩
                    have hsplit : k * i.size = n * i.size + (k - n) * i.size := by rw [← Nat.add_mul]; congr 1; omega
                    rw [List.getElem?_append_right (by rw [hol, hsplit]; omega), hol, show k * i.size + j - n * i.size = (k - n) * i.size + j from by rw [hsplit]; omega]
                    exact q4
          · cases hv'
        · cases hv'
    · cases hv'
  · cases hv'

end
end Go.Proofs.Ytpkphjoobeacfaa.Vm
