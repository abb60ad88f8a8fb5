/- Soundness of the transformer: composite literals, make, slicing, append, calls; the whole. -/
import Derived.Test.YtpkphjoobeacfaaVmF
import Derived.Laws.MakeOwn
namespace Go.Proofs.Ytpkphjoobeacfaa.Vm
open Go Go.RowKit
set_option linter.unusedSimpArgs false
set_option linter.unusedVariables false

/-- A row of cells that stands for a row of values. -/
def RepA (F : Nat → Prop) (w : World) (cs : List V) (arr : Array Value) : Prop := arr.size = cs.length ∧ ∀ (i : Nat) (x : V), cs[i]? = some x → x.one = true ∧ ∃ v, arr[i]? = some v ∧ Rep F w x v

theorem get_fold (off : Nat) (l : List Value) : ∀ (k : Nat) (cells : Array Value), off + k + l.length ≤ cells.size →
    ((l.zipIdx k).foldl (fun cs (x : Value × Nat) => cs.setIfInBounds (off + x.2) x.1) cells).size = cells.size ∧
    ∀ p, ((l.zipIdx k).foldl (fun cs (x : Value × Nat) => cs.setIfInBounds (off + x.2) x.1) cells)[p]? = if off + k ≤ p ∧ p < off + k + l.length then l[p - (off + k)]? else cells[p]? := by
  induction l with
  | nil => intro k cells _; exact ⟨rfl, fun p => by rw [if_neg (by simp only [List.length_nil]; omega)]; rfl⟩
  | cons c l ih =>
    intro k cells h
    simp only [List.length_cons] at h
    simp only [List.zipIdx_cons, List.foldl_cons]
    obtain ⟨h1, h2⟩ := ih (k + 1) (cells.setIfInBounds (off + k) c) (by simp; omega)
    refine ⟨by rw [h1]; simp, fun p => ?_⟩
    rw [h2 p]
    by_cases hp : p = off + k
    · subst hp
      rw [if_neg (by omega), if_pos (by simp), Array.getElem?_setIfInBounds_self_of_lt (by omega)]
      simp
    · by_cases hq : off + (k + 1) ≤ p ∧ p < off + (k + 1) + l.length
      · rw [if_pos hq, if_pos (by simp; omega), show p - (off + k) = (p - (off + (k + 1))) + 1 from by omega, List.getElem?_cons_succ]
      · rw [if_neg hq, if_neg (by simp; omega), Array.getElem?_setIfInBounds_ne (by omega)]

section
variable {P : Program} {K : St → Prop} {σ : St} {w0 : World} {M F : Nat → Prop} {a : Act} {w : World}

theorem fill_sound (pl : Nat → Option (Nat × Nat)) (us : List (Nat × V)) : ∀ (vs : List (Nat × Value)) (cs : List V) (arr : Array Value) (r : List V), RepA F w cs arr → us.length = vs.length →
    (∀ (i : Nat) (u : Nat × V) (v : Nat × Value), us[i]? = some u → vs[i]? = some v → u.1 = v.1 ∧ Rep F w u.2 v.2) → fillV pl cs us = some r → ∃ arr', Instr.fill pl arr vs = some arr' ∧ RepA F w r arr' := by
  induction us with
  | nil =>
    intro vs cs arr r hA hl _ h
    have : vs = [] := by cases vs; rfl; cases hl
    subst this
    simp only [fillV, Option.some.injEq] at h
    subst h
    exact ⟨arr, rfl, hA⟩
  | cons u us ih =>
    intro vs cs arr r hA hl hr h
    match vs, hl with
    | v :: vs, hl =>
      obtain ⟨hi, hrep⟩ := hr 0 u v rfl rfl
      obtain ⟨i, x⟩ := u
      obtain ⟨i', y⟩ := v
      simp only at hi hrep
      subst hi
      simp only [fillV] at h
      split at h
      · rename_i off n hpl
        split at h
        · rename_i hc
          obtain ⟨h1, h2, h3⟩ := hc
          obtain ⟨g1, g2, g3⟩ := hrep.cells h3
          have hsz : y.cells.size = n := by rw [← h1, ← g1]; simp
          have hfold := get_fold off y.cells.toList 0 arr (by rw [g1, hA.1]; omega)
          have hfe : y.cells.zipIdx.foldl (fun cs (x : Value × Nat) => cs.setIfInBounds (off + x.2) x.1) arr = (y.cells.toList.zipIdx 0).foldl (fun cs (x : Value × Nat) => cs.setIfInBounds (off + x.2) x.1) arr := by
            rw [← Array.foldl_toList, Array.toList_zipIdx]
          rw [← hfe] at hfold
          have hA' : RepA F w (splice cs off x.cells) (y.cells.zipIdx.foldl (fun cs (x : Value × Nat) => cs.setIfInBounds (off + x.2) x.1) arr) := by
            refine ⟨by rw [hfold.1, splice_length, hA.1], fun p z hz => ?_⟩
            rw [hfold.2 p]
            rw [splice_get _ _ _ (by omega)] at hz
            simp only [Nat.add_zero]
            by_cases hq : off ≤ p ∧ p < off + x.cells.length
            · rw [if_pos hq] at hz
              rw [if_pos (by rw [g1]; exact hq)]
              obtain ⟨u, hu1, hu2⟩ := g2 _ z hz
              exact ⟨List.all_eq_true.1 h3 z (List.mem_of_getElem? hz), u, hu1, hu2⟩
            · rw [if_neg hq] at hz
              rw [if_neg (by rw [g1]; exact hq)]
              exact hA.2 p z hz
          obtain ⟨arr', e1, e2⟩ := ih vs (splice cs off x.cells) _ r hA' (by simpa using hl) (fun j u v hu hv => hr (j + 1) u v hu hv) h
          refine ⟨arr', ?_, e2⟩
          simp only [Instr.fill, hpl]
          have hA1 := hA.1
          rw [if_neg (by simp [hsz]; omega)]
          exact e1
        · cases h
      · cases h

theorem run_mapM {α β : Type} (g : α → Sem β) (r : α → β) (l : List α) (h : ∀ x, x ∈ l → (g x).run P w = .ok (r x) w) : (l.mapM g).run P w = .ok (l.map r) w := by
  induction l with
  | nil => rfl
  | cons x l ih =>
    rw [List.mapM_cons, Sem.run_bind, h x (List.mem_cons_self ..), Result.andThen_ok, Sem.run_bind, ih fun y hy => h y (List.mem_cons_of_mem _ hy)]
    rfl

theorem parts_rep (hs : Sim w0 M F σ a w) (ps : Array (Nat × Operand)) (i : Nat) (u : Nat × V) (v : Nat × Value) (hu : (ps.toList.map fun p => (p.1, σ.ev p.2))[i]? = some u)
    (hv : ((ps.map fun (i, x) => (i, a.eval x)).toList)[i]? = some v) : u.1 = v.1 ∧ Rep F w u.2 v.2 := by
  rw [Array.toList_map] at hv
  rw [List.getElem?_map] at hu hv
  rcases h : ps.toList[i]? with _ | y
  · rw [h] at hu; cases hu
  · rw [h] at hu hv; cases hu; cases hv
    exact ⟨rfl, hs.ev _⟩

theorem zero_repA {cs : List V} {z : Value} (hz : cs = z.cells.toList.map ofCell) (hone : cs.all V.one = true) : RepA F w cs z.cells := by
  refine ⟨by rw [hz]; simp, fun i x hx => ⟨List.all_eq_true.1 hone x (List.mem_of_getElem? hx), ?_⟩⟩
  obtain ⟨v, h1, h2⟩ := repeatRep (F := F) (w := w) hz i x hx
  exact ⟨v, by simpa using h1, h2⟩

theorem sound_build {o : Oper} {t : TypeId} {ps : Array (Nat × Operand)} (ho : o.op = .build t ps) (hT : T P o K σ) (hs : Sim w0 M F σ a w) {Q : Exit → Act → World → Prop} : o.wp P a w (Nx w0 M F K) Q := by
  unfold T at hT; rw [ho] at hT
  obtain ⟨cs, hz, hok, r, hr, hK⟩ := hT
  obtain ⟨i, z, hi, hzz, hcs, hone, hlen⟩ := zeroC_some hz
  obtain ⟨fs, hfs, hall⟩ : ∃ fs, P.underlying t = some (.struct fs) ∧ ∀ f, f ∈ fs.toList → (csz P f.type).isSome = true := by
    unfold okF at hok
    split at hok
    · rename_i fs hfs; exact ⟨fs, hfs, List.all_eq_true.1 hok⟩
    · cases hok
  have hmap : (fs.mapM fun f => do pure (f.offset, ← sizeOf f.type) : Sem (Array (Nat × Nat))).run P w = .ok (fs.map fun f => (f.offset, (csz P f.type).getD 0)) w := by
    rw [Array.mapM_eq_mapM_toList, Sem.run_map, run_mapM (r := fun f => (f.offset, (csz P f.type).getD 0))]
    · simp only [Result.andThen_ok, Result.ok.injEq, and_true]
      apply Array.ext'
      simp
    · intro f hf
      have := hall f hf
      obtain ⟨n, hn⟩ := Option.isSome_iff_exists.1 this
      simp [run_sizeOf hn, hn]
  have hpl : ∀ j p, fPl P t j = some p → ((fs.map fun f => (f.offset, (csz P f.type).getD 0))[j]?) = some p := by
    intro j p hp
    obtain ⟨fs', f, h1, h2, h3, h4, h5⟩ := fPl_some hp
    rw [hfs] at h1; cases h1
    obtain ⟨p1, p2⟩ := p
    simp only at h3 h5
    rw [Array.getElem?_map, h2, Option.map_some, h3, ← h5]
    rfl
  have hfill : fillV (fun j => (fs.map fun f => (f.offset, (csz P f.type).getD 0))[j]?) cs (ps.toList.map fun p => (p.1, σ.ev p.2)) = some r := by
    clear hK
    revert hr
    generalize (ps.toList.map fun p => (p.1, σ.ev p.2)) = us
    intro hr
    induction us generalizing cs with
    | nil => exact hr
    | cons u us ih =>
      obtain ⟨j, x⟩ := u
      simp only [fillV] at hr ⊢
      cases hp : fPl P t j with
      | none => rw [hp] at hr; cases hr
      | some p =>
        rw [hp] at hr
        rw [hpl j p hp]
        obtain ⟨p1, p2⟩ := p
        simp only at hr ⊢
        split at hr
        · rename_i hc
          rw [if_pos hc]
          have key : ∀ (us : List (Nat × V)) (cs r : List V), fillV (fPl P t) cs us = some r → fillV (fun j => (fs.map fun f => (f.offset, (csz P f.type).getD 0))[j]?) cs us = some r := by
            intro us
            induction us with
            | nil => intro cs r h; exact h
            | cons u us ih2 =>
              intro cs r h
              obtain ⟨j, x⟩ := u
              simp only [fillV] at h ⊢
              cases hp : fPl P t j with
              | none => rw [hp] at h; cases h
              | some p =>
                rw [hp] at h
                rw [hpl j p hp]
                obtain ⟨p1, p2⟩ := p
                simp only at h ⊢
                split at h
                · rename_i hc; rw [if_pos hc]; exact ih2 _ _ h
                · cases h
          exact key _ _ _ hr
        · cases hr
  obtain ⟨arr', e1, e2⟩ := fill_sound _ _ _ cs z.cells r (zero_repA hcs hone) (by simp) (fun j u v hu hv => parts_rep hs ps j u v hu hv) hfill
  refine wp_value (v := .agg arr') (w' := w) ?_ (nx_put hs (.agg _ _ e2.1 fun j x hx => ?_) hK)
  · simp only [execOp, ho, Instr.build, Sem.run_bind, run_zeroValue hi hzz, Result.andThen_ok, run_underlying hfs, hmap]
    rw [e1]
    simp
  · obtain ⟨_, v, h1, h2⟩ := e2.2 j x hx
    have : arr'.getD j undef = v := by simp [Array.getD_eq_getD_getElem?, h1]
    rw [this]; exact h2

theorem flat_get (cs : List V) (n : Nat) : ∀ p, ((List.replicate n cs).flatten)[p]? = if p < n * cs.length then cs[p % cs.length]? else none := by
  induction n with
  | zero => intro p; simp
  | succ n ih =>
    intro p
    rw [List.replicate_succ, List.flatten_cons]
    rcases Nat.lt_or_ge p cs.length with hp | hp
    · rw [List.getElem?_append_left hp, if_pos (by rw [Nat.add_mul]; omega), Nat.mod_eq_of_lt hp]
    · rw [List.getElem?_append_right hp, ih]
      have h1 : (p - cs.length) % cs.length = p % cs.length := by
        rw [Nat.mod_eq_sub_mod hp]
      rw [h1]
      by_cases hq : p < (n + 1) * cs.length
      · rw [if_pos hq, if_pos (by rw [Nat.add_mul] at hq; omega)]
      · rw [if_neg hq, if_neg (by rw [Nat.add_mul] at hq; omega)]

theorem zeros_repA {cs : List V} {z : Value} (hz : cs = z.cells.toList.map ofCell) (hone : cs.all V.one = true) (n : Nat) : RepA F w (List.replicate n cs).flatten ((Array.range (n * cs.length)).map (fun i => z.cells[i % z.cells.size]!)) := by
  have hsz : z.cells.size = cs.length := by rw [hz]; simp
  refine ⟨by simp, fun p x hx => ?_⟩
  rw [flat_get] at hx
  split at hx
  · rename_i hp
    refine ⟨List.all_eq_true.1 hone x (List.mem_of_getElem? hx), ?_⟩
    obtain ⟨v, h1, h2⟩ := repeatRep (F := F) (w := w) hz _ x hx
    refine ⟨v, ?_, h2⟩
    rw [Array.getElem?_map]
    have : (Array.range (n * cs.length))[p]? = some p := by simp [hp]
    rw [this]
    simp only [Option.map_some]
    rw [hsz]
    have h3 : z.cells[p % cs.length]? = some v := by simpa using h1
    rw [getElem!_def, h3]
  · cases hx

/-- A new row: elements of the size of cs. -/
theorem nx_row (hs : Sim w0 M F σ a w) {d : Option Nat} (c : Array Value) (t : TypeId) (sz n : Nat) (els : List (List V)) (hn : els.length = n) (hnm : n ≤ maxLen) (hlen : n * sz ≤ c.size)
    (hk : ∀ k e, els[k]? = some e → e.length = sz ∧ ∀ j x, e[j]? = some x → x.one = true ∧ ∃ v, c[k * sz + j]? = some v ∧ Rep F w x v)
    (hK : ∀ g : Int, 0 ≤ g → σ.bl g = none → K (({ σ with bl := upd σ.bl g (some ⟨sz, els⟩) } : St).put d (.lsl g sz 0 n))) :
    Nx w0 M F K (a.put d (.slice (some ⟨w.heap.size, 0, none⟩) n n)) (w.alloc (.cells c t)) := by
  obtain ⟨hnn, hm⟩ := hs.mem.alloc c t sz els (by rw [hn]; exact hlen) hk
  have hsame : ∀ k, k < w.heap.size → (w.alloc (.cells c t)).heap[k]? = w.heap[k]? := fun k hk => Below.heap_alloc _ _ _ hk
  have hs' : Sim w0 M F ({ σ with bl := upd σ.bl (w.heap.size : Int) (some ⟨sz, els⟩) } : St) a (w.alloc (.cells c t)) :=
    ⟨hm, hs.size, fun t ht => (hs.sl t ht).mono (fun _ h => h) (fun k hk => hsame k (hs.mem.fr k hk)) (.of_same hsame), hs.defers⟩
  refine ⟨_, F, fun _ h => h, hs'.put ?_, hK _ (by omega) hnn⟩
  have := Rep.lsl (F := F) (w := w.alloc (.cells c t)) (w.heap.size : Int) sz 0 n n (by omega) (Nat.le_refl _) hnm ⟨c, t, (0, 0), by show (w.heap.push _)[w.heap.size]? = _; simp, by simpa using hlen⟩
  simpa using this

theorem sound_makeSlice {o : Oper} {t : TypeId} {l c : Operand} (ho : o.op = .makeSlice t l c) (hT : T P o K σ) (hs : Sim w0 M F σ a w) {Q : Exit → Act → World → Prop} : o.wp P a w (Nx w0 M F K) Q := by
  unfold T at hT; rw [ho] at hT
  obtain ⟨e, he, cs, hz, n, hl, hc, hb, hn, hK⟩ := hT
  obtain ⟨i, z, hi, hzz, hcs, hone, hlen⟩ := zeroC_some hz
  have hlv := rep_int (hs.ev l) hl
  have hcv := rep_int (hs.ev c) hc
  have hbs : bsz P e = i.bytes := by simp [bsz, hi]
  rw [hbs] at hb
  refine wp_value (v := .slice (some ⟨w.heap.size, 0, none⟩) n n) (w' := w.alloc (.cells ((Array.range (n * cs.length)).map (fun i => z.cells[i % z.cells.size]!)) e)) ?_ (nx_row hs _ e cs.length n (List.replicate n cs) (by simp) hn (by simp) (fun k e' he' => ?_) hK)
  · have h1 : (i.bytes : Int) * (n : Int) ≤ 281474976710656 := by
      have h : ((i.bytes * n : Nat) : Int) ≤ 281474976710656 := by omega
      rwa [Int.natCast_mul] at h
    have hr := run_make (P := P) w t e i z (slE_some he) hi hzz .i64 .i64 n n (by omega) (Int.le_refl _) h1 (by simp only [maxLen] at hn; omega)
    simp only [Int.toNat_natCast, ← hlen, madeCells] at hr
    simp only [execOp, ho, hlv, hcv, Sem.run_bind, hr, Result.andThen_ok, Sem.run_pure]
  · have hA := zeros_repA (F := F) (w := w) hcs hone n
    have hk : k < n := by have := (List.getElem?_eq_some_iff.1 he').1; simpa using this
    have : e' = cs := by rw [List.getElem?_replicate, if_pos hk] at he'; cases he'; rfl
    subst this
    refine ⟨rfl, fun j x hx => ?_⟩
    have hj := (List.getElem?_eq_some_iff.1 hx).1
    have hp : k * e'.length + j < n * e'.length := idx_lt hk hj
    refine hA.2 (k * e'.length + j) x ?_
    rw [flat_get, if_pos hp, Nat.add_comm, Nat.add_mul_mod_self_right, Nat.mod_eq_of_lt hj]
    exact hx

end
end Go.Proofs.Ytpkphjoobeacfaa.Vm
