/- The program's long division: taking a multiple away in place, giving one back, the rounds; plain laws. -/

import Derived.Laws.Strings
import Derived.Test.YticmgmemnpcbbaaGreatQCFnExactCanCarry3

namespace Go.Proofs.YticmgmemnpcbbaaGreat.Vm
set_option linter.unusedSimpArgs false
set_option linter.unusedVariables false

theorem val_split (l : List Int) {k : Nat} (h : k ≤ l.length) : val l = val (l.take k) + LB ^ k * val (l.drop k) := by
  have := val_append (l.take k) (l.drop k)
  rw [List.take_append_drop, List.length_take, Nat.min_eq_left h] at this
  exact this
theorem take_lt {l : List Int} (h : Dig l) {k : Nat} : val (l.take k) < LB ^ k := by
  refine Nat.lt_of_lt_of_le (val_lt (take_dig h k)) (Nat.pow_le_pow_right LB_pos ?_)
  simp; omega
/-- Limbs above a bound are zero. -/
theorem above_zero : ∀ {l : List Int} {n : Nat} (h : Dig l) (hv : val l < LB ^ n) (k : Nat) (hk : k < l.length), n ≤ k → l[k] = 0
  | [], n, _, _, k, hk, _ => by simp at hk
  | d :: l, 0, h, hv, 0, hk, _ => by
    have := h d List.mem_cons_self
    simp [val] at hv ⊢; omega
  | d :: l, 0, h, hv, k + 1, hk, _ => by
    have h0 : val l < LB ^ 0 := by
      simp only [val, Nat.pow_zero] at hv ⊢
      rcases Nat.eq_zero_or_pos (val l) with h | h
      · omega
      · have := Nat.mul_le_mul (Nat.le_of_eq (rfl : LB = LB)) h
        have : LB = 1000000000 := rfl
        omega
    simpa using above_zero h.tail h0 k (by simpa using hk) (Nat.zero_le _)
  | d :: l, n + 1, h, hv, 0, hk, hn => by omega
  | d :: l, n + 1, h, hv, k + 1, hk, hn => by
    have h0 : val l < LB ^ n := by
      simp only [val, Nat.pow_succ] at hv
      rcases Nat.lt_or_ge (val l) (LB ^ n) with h | h
      · exact h
      · have := Nat.mul_le_mul_left LB h
        rw [Nat.mul_comm LB (LB ^ n)] at this
        omega
    simpa using above_zero h.tail h0 k (by simpa using hk) (by omega)
theorem val_to {l : List Int} {n : Nat} (hz : ∀ k (hk : k < l.length), n < k → l[k] = 0) (hn : n < l.length) : val l = val (l.take n) + LB ^ n * l[n].toNat := by
  rw [← val_take_succ hn, val_take_zero fun i hi h => hz i hi (by omega)]

/-! ### Taking a multiple away -/
structure TakeI (u : List Int) (V g j i : Nat) (O : List Int) (c : Nat) : Prop where
  len : O.length = u.length
  dig : Dig O
  c1 : c < 1000000000
  v : val O + LB ^ j * (g * pv V i) = val u + c * LB ^ (j + i)
  same : ∀ k (h : k < O.length) (h2 : k < u.length), k < j ∨ j + i ≤ k → O[k] = u[k]
theorem TakeI.start {u : List Int} (V g j : Nat) (h : Dig u) : TakeI u V g j 0 u 0 := ⟨rfl, h, by decide, by simp, fun _ _ _ _ => rfl⟩
theorem TakeI.acc (V g j i : Nat) : LB ^ j * (g * pv V (i + 1)) = LB ^ j * (g * pv V i) + LB ^ (j + i) * (g * dg V i) := by
  rw [pv_succ, Nat.mul_add, Nat.mul_add, Nat.pow_add]
  congr 1
  rw [← Nat.mul_assoc, ← Nat.mul_assoc, ← Nat.mul_assoc, Nat.mul_assoc (LB ^ j) g, Nat.mul_comm g (LB ^ i), ← Nat.mul_assoc]
theorem TakeI.x {u : List Int} {V g j i : Nat} {O : List Int} {c : Nat} (h : TakeI u V g j i O c) (hg : g < 1000000000) (hk : j + i < O.length) :
    0 ≤ (g : Int) * dg V i ∧ (g : Int) * dg V i ≤ 999999998000000001 := by
  have h2 := dg_lt V i
  refine ⟨by rw [← Int.natCast_mul]; omega, ?_⟩
  have : (g : Int) * dg V i ≤ 999999999 * 999999999 := Int.mul_le_mul (by omega) (by omega) (by omega) (by omega)
  omega
theorem TakeI.next0 {u : List Int} {V g j i : Nat} {O : List Int} {c : Nat} (h : TakeI u V g j i O c) (hg : g < 1000000000) (hk : j + i < O.length) {x : Int} (hx : x = O[j + i] - g * dg V i - c) (h0 : 0 ≤ x) :
    TakeI u V g j (i + 1) (O.set (j + i) x) 0 := by
  have ho := h.dig.at hk
  obtain ⟨m0, m1⟩ := h.x hg hk
  refine ⟨by simp [h.len], h.dig.set (by omega), by decide, ?_, fun k h1 h2 h3 => ?_⟩
  · rw [TakeI.acc, ← Nat.add_assoc j i 1]
    have := take_set hk h.dig h.v (m := g * dg V i) (c' := 0) (x := x) (by rw [hx]; simp) h0
    omega
  · rw [List.getElem_set_ne (by omega)]
    exact h.same k _ h2 (by omega)
theorem TakeI.next1 {u : List Int} {V g j i : Nat} {O : List Int} {c : Nat} (h : TakeI u V g j i O c) (hg : g < 1000000000) (hk : j + i < O.length) {x y : Int} (hx : x = O[j + i] - g * dg V i - c) (h0 : x < 0) (hy : y = (1000000000 - 1 - x).tdiv 1000000000) :
    0 ≤ y ∧ y < 1000000000 ∧ TakeI u V g j (i + 1) (O.set (j + i) (x + y * 1000000000)) y.toNat := by
  have ho := h.dig.at hk
  have hc := h.c1
  obtain ⟨m0, m1⟩ := h.x hg hk
  obtain ⟨c1, c2, c3⟩ := take_carry (o := 0) h0 hy
  have c4 : y < 1000000000 := by
    rw [Int.tdiv_eq_ediv_of_nonneg (by omega)] at hy
    omega
  refine ⟨c3, c4, by simp [h.len], h.dig.set ⟨c1, c2⟩, by omega, ?_, fun k h1 h2 h3 => ?_⟩
  · rw [TakeI.acc, ← Nat.add_assoc j i 1]
    have := take_set hk h.dig h.v (m := g * dg V i) (c' := y.toNat) (x := x + y * 1000000000) (by rw [hx]; simp; omega) c1
    omega
  · rw [List.getElem_set_ne (by omega)]
    exact h.same k _ h2 (by omega)

structure GiveI (O : List Int) (V j i : Nat) (W : List Int) (c : Nat) : Prop where
  len : W.length = O.length
  dig : Dig W
  c1 : c ≤ 1
  v : val W + c * LB ^ (j + i) = val O + LB ^ j * pv V i
  same : ∀ k (h : k < W.length) (h2 : k < O.length), k < j ∨ j + i ≤ k → W[k] = O[k]
theorem GiveI.start {O : List Int} (V j : Nat) (h : Dig O) : GiveI O V j 0 O 0 := ⟨rfl, h, by decide, by simp, fun _ _ _ _ => rfl⟩
theorem GiveI.next {O : List Int} {V j i : Nat} {W : List Int} {c : Nat} (h : GiveI O V j i W c) (hk : j + i < W.length) :
    0 ≤ W[j + i] + dg V i + c ∧ W[j + i] + dg V i + c < 2000000000 ∧ 0 ≤ (W[j + i] + dg V i + c).tdiv 1000000000 ∧
    GiveI O V j (i + 1) (W.set (j + i) ((W[j + i] + dg V i + c).tmod 1000000000)) ((W[j + i] + dg V i + c).tdiv 1000000000).toNat := by
  have ho := h.dig.at hk
  have hd := dg_lt V i
  have hc := h.c1
  have b1 : 0 ≤ W[j + i] + dg V i + c := by omega
  have e2 : (W[j + i] + dg V i + c).tdiv 1000000000 = (W[j + i] + dg V i + c) / 1000000000 := Int.tdiv_eq_ediv_of_nonneg b1
  have e1 : (W[j + i] + dg V i + c).tmod 1000000000 = (W[j + i] + dg V i + c) % 1000000000 := Int.tmod_eq_emod_of_nonneg b1
  refine ⟨b1, by omega, by omega, by simp [h.len], h.dig.set (by omega), by omega, ?_, fun k h1 h2 h3 => ?_⟩
  · have := give_set hk h.dig h.v (m := dg V i)
    rw [← Nat.add_assoc j i 1, this, pv_succ, Nat.mul_add, Nat.pow_add]
    have : LB ^ j * (LB ^ i * dg V i) = LB ^ j * LB ^ i * dg V i := (Nat.mul_assoc _ _ _).symm
    omega
  · rw [List.getElem_set_ne (by omega)]
    exact h.same k _ h2 (by omega)

/-- What is taken is not too much. -/
theorem knuth_fits {u O : List Int} {V g j n c : Nat} (hu : Dig u) (h : TakeI u V g j n O c) (hn : (lim V).length = n) (hk : j + n < O.length) (hg : g = val (u.drop j) / V ∨ g = val (u.drop j) / V + 1) (hV : 0 < V) (hc : (c : Int) ≤ O[j + n]) :
    Dig (O.set (j + n) (O[j + n] - c)) ∧ g = val (u.drop j) / V ∧ val (O.set (j + n) (O[j + n] - c)) + LB ^ j * (val (u.drop j) / V * V) = val u := by
  have ho := h.dig.at hk
  have hv := val_set hk (O[j + n] - c)
  have h1 := h.v
  rw [pv_out (by omega)] at h1
  have hl := h.len
  have h2 := val_split u (k := j) (by omega)
  have h3 := take_lt hu (k := j)
  obtain ⟨o, ho2⟩ : ∃ o : Nat, O[j + n] = o := ⟨O[j + n].toNat, by omega⟩
  rw [ho2] at hv hc ⊢
  have e : ((o : Int) - c).toNat = o - c := by omega
  rw [e] at hv
  simp only [Int.toNat_natCast] at hv
  have e2 : LB ^ (j + n) * (o - c) + LB ^ (j + n) * c = LB ^ (j + n) * o := by rw [← Nat.mul_add]; congr 1; omega
  have e3 : c * LB ^ (j + n) = LB ^ (j + n) * c := Nat.mul_comm _ _
  have h4 : val (O.set (j + n) ((o : Int) - c)) + LB ^ j * (g * V) = val u := by omega
  have h5 : g * V ≤ val (u.drop j) := by
    rcases Nat.lt_or_ge (val (u.drop j)) (g * V) with hh | hh
    · have := Nat.mul_le_mul_left (LB ^ j) (Nat.succ_le_of_lt hh)
      rw [Nat.mul_succ] at this
      omega
    · exact hh
  have h6 : g = val (u.drop j) / V := by
    have := (Nat.le_div_iff_mul_le hV).2 h5
    omega
  refine ⟨h.dig.set (by rw [ho2] at ho; omega), h6, ?_⟩
  rw [← h6]; exact h4
/-- What is taken is too much. -/
theorem knuth_over {u O : List Int} {V g j n c : Nat} (hu : Dig u) (h : TakeI u V g j n O c) (hn : (lim V).length = n) (hk : j + n < O.length) (hz : ∀ k (hk : k < u.length), j + n < k → u[k] = 0) (hg : g = val (u.drop j) / V ∨ g = val (u.drop j) / V + 1) (hV : 0 < V) (hc : O[j + n] < c) :
    g = val (u.drop j) / V + 1 := by
  have ho := h.dig.at hk
  have h1 := h.v
  rw [pv_out (by omega)] at h1
  have hl := h.len
  have h2 := val_split u (k := j) (by omega)
  have h3 := val_to (l := O) (n := j + n) (fun k hk2 hjk => by rw [h.same k hk2 (by omega) (by omega)]; exact hz k (by omega) hjk) hk
  obtain ⟨o, ho2⟩ : ∃ o : Nat, O[j + n] = o := ⟨O[j + n].toNat, by omega⟩
  rw [ho2] at h3 hc
  simp only [Int.toNat_natCast] at h3
  have h4 := take_lt h.dig (k := j + n)
  rcases hg with hg | hg
  · exfalso
    have h5 : g * V ≤ val (u.drop j) := by rw [hg]; exact Nat.div_mul_le_self _ _
    have h6 := Nat.mul_le_mul_left (LB ^ j) h5
    have h7 : LB ^ (j + n) * (o + 1) ≤ LB ^ (j + n) * c := Nat.mul_le_mul_left _ (by omega)
    rw [Nat.mul_add] at h7
    have e3 : c * LB ^ (j + n) = LB ^ (j + n) * c := Nat.mul_comm _ _
    omega
  · exact hg
/-- One given back. -/
theorem knuth_back {u O W : List Int} {V g j n c d : Nat} (hu : Dig u) (h : TakeI u V g j n O c) (hw : GiveI O V j n W d) (hn : (lim V).length = n) (hk : j + n < O.length) (hk2 : j + n < W.length) (hz : ∀ k (hk : k < u.length), j + n < k → u[k] = 0) (hg : g = val (u.drop j) / V + 1) (hV : 0 < V) :
    O[j + n] - c + d = 0 ∧ Dig (W.set (j + n) 0) ∧ val (W.set (j + n) 0) + LB ^ j * (val (u.drop j) / V * V) = val u := by
  have h1 := h.v
  have h1w := hw.v
  rw [pv_out (by omega)] at h1 h1w
  have hl := h.len
  have hlw := hw.len
  have e0 : W[j + n] = O[j + n] := hw.same _ hk2 hk (by omega)
  have ho := h.dig.at hk
  have h2 := val_split u (k := j) (by omega)
  have h3 := val_to (l := W) (n := j + n) (fun k hk2 hjk => by rw [hw.same k hk2 (by omega) (by omega), h.same k (by omega) (by omega) (by omega)]; exact hz k (by omega) hjk) hk2
  have hs := val_set hk2 0
  rw [e0] at h3 hs
  obtain ⟨o, ho2⟩ : ∃ o : Nat, O[j + n] = o := ⟨O[j + n].toNat, by omega⟩
  rw [ho2] at h3 hs ⊢
  simp only [Int.toNat_natCast, Int.toNat_zero, Nat.mul_zero, Nat.add_zero] at h3 hs
  have h4 := take_lt hw.dig (k := j + n)
  have h5 := take_lt hu (k := j)
  have hVn : V < LB ^ n := lim_length_le.1 (by omega)
  generalize hU : val (u.drop j) = U at *
  have hm := Nat.div_add_mod U V
  have hlt := Nat.mod_lt U hV
  -- what is left
  have hR : val (u.take j) + LB ^ j * (U % V) < LB ^ (j + n) := by
    rw [Nat.pow_add]
    have : LB ^ j * (U % V + 1) ≤ LB ^ j * LB ^ n := Nat.mul_le_mul_left _ (by omega)
    rw [Nat.mul_add] at this
    omega
  have eU : LB ^ j * U = LB ^ j * (U / V * V) + LB ^ j * (U % V) := by
    rw [← Nat.mul_add, Nat.mul_comm (U / V) V, hm]
  have eg : LB ^ j * (g * V) = LB ^ j * (U / V * V) + LB ^ j * V := by rw [hg, Nat.add_mul, Nat.one_mul, Nat.mul_add]
  have hmain : val (W.take (j + n)) + LB ^ (j + n) * (o + d) = (val (u.take j) + LB ^ j * (U % V)) + LB ^ (j + n) * c := by
    rw [Nat.mul_add, Nat.mul_comm (LB ^ (j + n)) d, Nat.mul_comm (LB ^ (j + n)) c]
    omega
  generalize LB ^ (j + n) = P at *
  have hod : o + d = c := by
    have a1 := congrArg (fun x => x / P) hmain
    try simp only at a1
    rw [Nat.add_mul_div_left _ _ (by omega), Nat.add_mul_div_left _ _ (by omega), Nat.div_eq_of_lt h4, Nat.div_eq_of_lt hR] at a1
    omega
  refine ⟨by omega, hw.dig.set (by decide), ?_⟩
  rw [hod] at hmain
  omega

/-! ### The rounds -/
structure KnI (A V L n j : Nat) (u Q : List Int) : Prop where
  len : u.length = L
  dig : Dig u
  le : j + n ≤ L
  qlen : Q.length = L - n - j
  qdig : Dig Q
  v : val u + LB ^ j * (val Q * V) = A
  r : val (u.drop j) < V
theorem KnI.U {A V L n j : Nat} {u Q : List Int} (h : KnI A V L n (j + 1) u Q) : val (u.drop j) < LB * V := by
  have hj : j < u.length := by have := h.len; have := h.le; omega
  rw [List.drop_eq_getElem_cons hj, val]
  have := h.dig.at hj
  have h2 := Nat.mul_le_mul_left LB (Nat.succ_le_of_lt h.r)
  have : LB = 1000000000 := rfl
  rw [Nat.mul_succ] at h2
  omega
theorem KnI.zero {A V L n j : Nat} {u Q : List Int} (h : KnI A V L n (j + 1) u Q) (hn : (lim V).length = n) : ∀ k (hk : k < u.length), j + n < k → u[k] = 0 := by
  intro k hk hjk
  have hV : V < LB ^ n := lim_length_le.1 (by omega)
  have := above_zero (l := u.drop (j + 1)) (n := n) (fun d hd => h.dig d (List.mem_of_mem_drop hd)) (Nat.lt_trans h.r hV) (k - (j + 1)) (by simp; omega) (by omega)
  rw [List.getElem_drop] at this
  have e : j + 1 + (k - (j + 1)) = k := by omega
  simpa [e] using this
theorem KnI.next {A V L n j : Nat} {u Q O : List Int} (h : KnI A V L n (j + 1) u Q) (hl : O.length = L) (hd : Dig O) (hv : val O + LB ^ j * (val (u.drop j) / V * V) = val u) : KnI A V L n j O ((val (u.drop j) / V : Nat) :: Q) := by
  have hU := h.U
  have hV : 0 < V := by have := h.r; omega
  have hq : val (u.drop j) / V < LB := by rw [Nat.div_lt_iff_lt_mul hV]; exact hU
  have hLB : LB = 1000000000 := rfl
  have hle := h.le
  have hlen := h.len
  refine ⟨hl, hd, by omega, by simp [h.qlen]; omega, fun d hd => ?_, ?_, ?_⟩
  · rcases List.mem_cons.1 hd with rfl | hd
    · rw [hLB] at hq
      generalize val (u.drop j) / V = q at hq ⊢
      omega
    · exact h.qdig d hd
  · have := h.v
    rw [val, Int.toNat_natCast, Nat.add_mul, Nat.mul_add]
    rw [Nat.pow_succ] at this
    have e : LB ^ j * (LB * val Q * V) = LB ^ j * LB * (val Q * V) := by rw [Nat.mul_assoc LB, ← Nat.mul_assoc]
    omega
  · have h1 := val_split u (k := j) (by omega)
    have h2 := val_split O (k := j) (by omega)
    have h3 := take_lt h.dig (k := j)
    have h4 := take_lt hd (k := j)
    have hm := Nat.div_add_mod (val (u.drop j)) V
    have hlt := Nat.mod_lt (val (u.drop j)) hV
    have eU : LB ^ j * val (u.drop j) = LB ^ j * (val (u.drop j) / V * V) + LB ^ j * (val (u.drop j) % V) := by
      rw [← Nat.mul_add, Nat.mul_comm (val (u.drop j) / V) V, hm]
    have hmain : val (O.take j) + LB ^ j * val (O.drop j) = val (u.take j) + LB ^ j * (val (u.drop j) % V) := by omega
    have a1 := congrArg (fun x => x / LB ^ j) hmain
    try simp only at a1
    have hP : 0 < LB ^ j := Nat.pow_pos LB_pos
    rw [Nat.add_mul_div_left _ _ hP, Nat.add_mul_div_left _ _ hP, Nat.div_eq_of_lt h4, Nat.div_eq_of_lt h3] at a1
    omega
theorem KnI.done {A V L n : Nat} {u Q : List Int} (h : KnI A V L n 0 u Q) : val Q = A / V ∧ val u = A % V := by
  have hv := h.v
  have hr := h.r
  simp at hv hr
  rw [← hv, Nat.mul_comm (val Q), Nat.add_comm, Nat.mul_add_div (by omega), Nat.div_eq_of_lt hr, Nat.mul_add_mod, Nat.mod_eq_of_lt hr]
  exact ⟨rfl, rfl⟩

/-! ### The first limbs of a round -/
theorem top_V {V n : Nat} (hn : (lim V).length = n + 2) : V = (dg V (n + 1) * LB + dg V n) * LB ^ n + pv V n := by
  have h1 := pv_succ V n
  have h2 := pv_succ V (n + 1)
  have e0 : pv V (n + 1 + 1) = V := pv_out (by omega)
  rw [h2, h1, Nat.pow_succ] at e0
  have e1 : dg V (n + 1) * LB * LB ^ n = LB ^ n * LB * dg V (n + 1) := by ac_rfl
  have e2 : dg V n * LB ^ n = LB ^ n * dg V n := Nat.mul_comm _ _
  rw [Nat.add_mul]
  omega
theorem top_pos {V n : Nat} (hn : (lim V).length = n + 1) : 0 < dg V n := by
  have h : n < (lim V).length := by omega
  have h1 := lim_at h
  have h2 := lim_last V ((lim V)[n]) (by rw [List.getLast?_eq_getElem?, hn]; simp [h])
  omega
theorem top_alg (x y z T L : Nat) : ((x * L + y) * L + z) * T = T * L * L * x + T * L * y + T * z := by
  rw [Nat.add_mul, Nat.add_mul, Nat.add_mul]
  have e1 : x * L * L * T = T * L * L * x := by ac_rfl
  have e2 : y * L * T = T * L * y := by ac_rfl
  rw [e1, e2, Nat.mul_comm z T]
theorem top_u {u : List Int} {n j : Nat} (hu : Dig u) (hz : ∀ k (hk : k < u.length), j + (n + 2) < k → u[k] = 0) (h2 : j + (n + 2) < u.length) (h1 : j + (n + 1) < u.length) (h0 : j + n < u.length) :
    val (u.drop j) = ((u[j + (n + 2)].toNat * LB + u[j + (n + 1)].toNat) * LB + u[j + n].toNat) * LB ^ n + val ((u.drop j).take n) := by
  have hd : Dig (u.drop j) := fun d hd => hu d (List.mem_of_mem_drop hd)
  have e := val_to (l := u.drop j) (n := n + 2) (fun k hk hlt => by rw [List.getElem_drop]; exact hz _ (by simp at hk; omega) (by omega)) (by simp; omega)
  have e1 := val_take_succ (l := u.drop j) (i := n + 1) (by simp; omega)
  have e0 := val_take_succ (l := u.drop j) (i := n) (by simp; omega)
  simp only [List.getElem_drop] at e e1 e0
  have p1 : LB ^ (n + 1) = LB ^ n * LB := Nat.pow_succ ..
  have p2 : LB ^ (n + 2) = LB ^ n * LB * LB := by rw [Nat.pow_succ, Nat.pow_succ]
  rw [top_alg, e, e1, e0, p1, p2]
  omega
/-- The first limb of the rest is at most that of the divisor. -/
theorem KnI.top {A V L n j : Nat} {u Q : List Int} (h : KnI A V L (n + 2) (j + 1) u Q) (hn : (lim V).length = n + 2) (hk : j + (n + 2) < u.length) : u[j + (n + 2)] ≤ dg V (n + 1) := by
  have hz := h.zero hn
  have hd : Dig (u.drop (j + 1)) := fun d hd => h.dig d (List.mem_of_mem_drop hd)
  have e := val_to (l := u.drop (j + 1)) (n := n + 1) (fun k hk hlt => by rw [List.getElem_drop]; exact hz _ (by simp at hk; omega) (by omega)) (by simp; omega)
  simp only [List.getElem_drop] at e
  have e9 : j + 1 + (n + 1) = j + (n + 2) := by omega
  simp only [e9] at e
  have hr := h.r
  have hV := pv_succ V (n + 1)
  rw [pv_out (by omega)] at hV
  have hlt := pv_lt V (n + 1)
  have ho := h.dig.at hk
  have h1 : LB ^ (n + 1) * u[j + (n + 2)].toNat < LB ^ (n + 1) * (dg V (n + 1) + 1) := by rw [Nat.mul_add]; omega
  have := Nat.lt_of_mul_lt_mul_left h1
  omega
end Go.Proofs.YticmgmemnpcbbaaGreat.Vm

namespace Go.Proofs.YticmgmemnpcbbaaGreat.Vm
open Go Go.Proofs
set_option linter.unusedSimpArgs false
set_option linter.unusedVariables false

def kindName (n : Int) : ByteArray := if n = 1 then { data := #[114, 111, 112, 101] } else if n = 2 then { data := #[115, 116, 114, 117, 116] } else if n = 3 then { data := #[98, 97, 114] } else { data := #[] }

theorem l01In_ro (n lo hi : Int) : RO Tryz.prog 127 [.int .i64 n, .int .i64 lo, .int .i64 hi] (.bool (decide (lo ≤ n) && decide (n ≤ hi))) := by
  refine ro_of2 Tryz.func127 rfl rfl (by rw [Tryz.ntmps127]; simp) fun bl => ?_
  rw [Tryz.ntmps127, Tryz.results127]
  refine AW_run ?_
  simp
  refine AW_way [(0, .int .i64 n), (1, .int .i64 lo), (2, .int .i64 hi)] _ bl 6 (.bool (decide (lo ≤ n) && decide (n ≤ hi))) bl ⟨rfl, by simp, Sub.refl _⟩ rfl ?_ ?_
  · simp; grind
  simp
  exact retRO0 (by simp) rfl rfl

end Go.Proofs.YticmgmemnpcbbaaGreat.Vm

namespace Go.Proofs.YticmgmemnpcbbaaGreat.Vm
open Go Go.Proofs
set_option linter.unusedSimpArgs false
set_option linter.unusedVariables false

theorem str_eq {a b : ByteArray} : a.toList = b.toList ↔ a = b := by
  refine ⟨fun h => ?_, fun h => by rw [h]⟩
  rw [ByteArray.toList_eq, ByteArray.toList_eq] at h
  exact ByteArray.ext (Array.toList_inj.1 h)

def charOk (i : Nat) (c : Nat) : Bool := (decide (97 ≤ c) && decide (c ≤ 122)) || (decide (i ≠ 0) && (decide (48 ≤ c) && decide (c ≤ 57)))
def isName (s : ByteArray) : Bool := decide (1 ≤ s.size) && decide (s.size ≤ 8) && decide (∀ i (h : i < s.size), charOk i s[i].toNat = true)

theorem spec_IsName_ro (s : ByteArray) (hs : s.size ≤ 140737488351232) : RO Tryz.prog 252 [.str s] (.bool (isName s)) := by
  refine ro_of2 Tryz.func252 rfl rfl (by rw [Tryz.ntmps252]; simp) fun bl => ?_
  rw [Tryz.ntmps252, Tryz.results252]
  refine AW_run ?_
  simp
  refine AW_for (fun i : Nat => [(0, .str s), (3, .int .i64 i)]) (fun _ => bl) (fun i => i ≤ s.size ∧ ∀ j (h : j < s.size), j < i → charOk j s[j].toNat = true) (fun i => s.size - i) _ 0 ⟨Nat.zero_le _, fun j h h0 => by omega⟩ ⟨rfl, by simp, Sub.refl _⟩ ?_
  intro i ⟨hi, hc⟩
  refine AW_run ?_
  simp
  refine ⟨fun h => ?_, fun h => ?_⟩
  · refine AW_way [(0, .str s), (3, .int .i64 i)] _ bl 4 (.bool (decide (97 ≤ s[i].toNat) && decide (s[i].toNat ≤ 122))) bl ⟨rfl, by simp, Sub.refl _⟩ rfl ?_ ?_
    · simp [h]; grind
    simp
    refine AW_way [(4, .bool (decide (97 ≤ s[i].toNat) && decide (s[i].toNat ≤ 122))), (0, .str s), (3, .int .i64 i)] _ bl 38 (.bool (! charOk i s[i].toNat)) bl ⟨rfl, by simp, Sub.refl _⟩ rfl ?_ ?_
    · simp [h, charOk]; grind
    simp
    refine ⟨fun h1 => ?_, fun h1 => ?_⟩
    · refine retRO0 (by simp [isName]; intro _ _; exact ⟨i, h, h1⟩) rfl rfl
    · simp (disch := omega) [i64_in, loopQ_normal]
      refine ⟨i + 1, ⟨by omega, fun j hj hji => ?_⟩, by omega, rfl, by simp, Sub.refl _⟩
      rcases Nat.lt_or_ge j i with hlt | hge
      · exact hc j hj hlt
      · obtain rfl : j = i := by omega
        exact h1
  · refine callP_ro (l01In_ro _ _ _) ?_
    simp
    refine retRO0 ?_ rfl rfl
    have hall : ∀ j (h : j < s.size), charOk j s[j].toNat = true := fun j hj => hc j hj (by omega)
    simp [isName, hall]
    grind

theorem isLetter_ro (c : Nat) : RO Tryz.prog 232 [.int .u8 c] (.bool (decide (97 ≤ c) && decide (c ≤ 122))) := by
  refine ro_of2 Tryz.func232 rfl rfl (by rw [Tryz.ntmps232]; simp) fun bl => ?_
  rw [Tryz.ntmps232, Tryz.results232]
  refine AW_run ?_
  simp
  refine AW_way [(0, .int .u8 c)] _ bl 2 (.bool (decide (97 ≤ c) && decide (c ≤ 122))) bl ⟨rfl, by simp, Sub.refl _⟩ rfl ?_ ?_
  · simp; grind
  simp
  exact retRO0 (by simp) rfl rfl

theorem isDigit_ro (c : Nat) : RO Tryz.prog 233 [.int .u8 c] (.bool (decide (48 ≤ c) && decide (c ≤ 57))) := by
  refine ro_of2 Tryz.func233 rfl rfl (by rw [Tryz.ntmps233]; simp) fun bl => ?_
  rw [Tryz.ntmps233, Tryz.results233]
  refine AW_run ?_
  simp
  refine AW_way [(0, .int .u8 c)] _ bl 2 (.bool (decide (48 ≤ c) && decide (c ≤ 57))) bl ⟨rfl, by simp, Sub.refl _⟩ rfl ?_ ?_
  · simp; grind
  simp
  exact retRO0 (by simp) rfl rfl

theorem isPlace_ro (n : Int) : RO Tryz.prog 165 [.int .i64 n] (.bool (decide (-50 ≤ n) && decide (n ≤ 50))) := by
  refine ro_of2 Tryz.func165 rfl rfl (by rw [Tryz.ntmps165]; simp) fun bl => ?_
  rw [Tryz.ntmps165, Tryz.results165]
  refine AW_run ?_
  simp
  refine AW_way [(0, .int .i64 n)] _ bl 2 (.bool (decide (-50 ≤ n) && decide (n ≤ 50))) bl ⟨rfl, by simp, Sub.refl _⟩ rfl ?_ ?_
  · simp; grind
  simp
  exact retRO0 (by simp) rfl rfl

theorem impl_IsName_ro (s : ByteArray) (hs : s.size ≤ 140737488351232) : RO Tryz.prog 164 [.str s] (.bool (isName s)) := by
  refine ro_of2 Tryz.func164 rfl rfl (by rw [Tryz.ntmps164]; simp) fun bl => ?_
  rw [Tryz.ntmps164, Tryz.results164]
  refine AW_run ?_
  simp
  refine AW_for (fun i : Nat => [(0, .str s), (5, .int .i64 s.size), (6, .int .i64 i)]) (fun _ => bl) (fun i => i ≤ s.size ∧ ∀ j (h : j < s.size), j < i → charOk j s[j].toNat = true) (fun i => s.size - i) _ 0 ⟨Nat.zero_le _, fun j h h0 => by omega⟩ ⟨rfl, by simp, Sub.refl _⟩ ?_
  intro i ⟨hi, hc⟩
  refine AW_run ?_
  simp
  refine ⟨fun h => ?_, fun h => ?_⟩
  · refine AW_way [(0, .str s), (5, .int .i64 s.size), (6, .int .i64 i), (3, .int .i64 i)] _ bl 24 (.bool (! charOk i s[i].toNat)) bl ⟨rfl, by simp, Sub.refl _⟩ rfl ?_ ?_
    · simp [h]
      refine callP_ro (isLetter_ro _) ?_
      simp [h, charOk]
      refine ⟨fun h1 => ⟨fun h2 => ⟨h1, .inl h2⟩, fun h2 => ?_⟩, by omega⟩
      refine callP_ro (isDigit_ro _) ?_
      simp
      grind
    simp
    refine ⟨fun h1 => ?_, fun h1 => ?_⟩
    · refine retRO0 (by simp [isName]; intro _ _; exact ⟨i, h, h1⟩) rfl rfl
    · simp (disch := omega) [i64_in, loopQ_normal]
      refine ⟨i + 1, ⟨by omega, fun j hj hji => ?_⟩, by omega, rfl, by simp, Sub.refl _⟩
      rcases Nat.lt_or_ge j i with hlt | hge
      · exact hc j hj hlt
      · obtain rfl : j = i := by omega
        exact h1
  · have hall : ∀ j (h : j < s.size), charOk j s[j].toNat = true := fun j hj => hc j hj (by omega)
    refine AW_way [(0, .str s)] _ bl 2 (.bool (isName s)) bl ⟨rfl, by simp, Sub.refl _⟩ rfl ?_ ?_
    · by_cases hz : s.size = 0
      · obtain rfl : s = ByteArray.empty := ByteArray.ext (Array.eq_empty_of_size_eq_zero hz)
        simp [isName]
      · have h1 : s ≠ ByteArray.empty := fun h => hz (by rw [h]; rfl)
        have h2 : s.toList ≠ [] := fun h => hz (by rw [ByteArray.toList_eq, ← List.length_eq_zero_iff, Array.length_toList] at h; exact h)
        simp [isName, hall, h1, h2]
        rw [Bool.eq_iff_iff]; simp; omega
    simp
    exact retRO0 (by simp) rfl rfl

/-! ### Joints -/
structure J where
  name : ByteArray
  x : Int
  y : Int
  fixed : Bool
  deriving DecidableEq
def J.c (j : J) : List V := [.str j.name, .int .i64 j.x, .int .i64 j.y, .bool j.fixed]
def J.fit (j : J) : Prop := j.name.size ≤ 140737488351232 ∧ (-9223372036854775808 ≤ j.x ∧ j.x ≤ 9223372036854775807) ∧ (-9223372036854775808 ≤ j.y ∧ j.y ≤ 9223372036854775807)
def J.ok (j : J) : Bool := isName j.name && (decide (-50 ≤ j.x) && decide (j.x ≤ 50)) && (decide (-50 ≤ j.y) && decide (j.y ≤ 50))

theorem spec_JointOk_ro (j : J) (hj : j.name.size ≤ 140737488351232) : RO Tryz.prog 199 [.agg j.c] (.bool j.ok) := by
  refine ro_of2 Tryz.func199 rfl rfl (by rw [Tryz.ntmps199]; simp) fun bl => ?_
  rw [Tryz.ntmps199, Tryz.results199]
  refine AW_run ?_
  simp [J.c]
  intro g hg0 hg
  refine AW_way [(1, .loc g 4 0 0)] _ (upd bl g (some ⟨4, [j.c]⟩)) 2 (.bool j.ok) (upd bl g (some ⟨4, [j.c]⟩)) ⟨rfl, by simp, Sub.refl _⟩ rfl ?_ ?_
  · simp [J.c]
    refine callP_ro (spec_IsName_ro _ hj) ?_
    simp
    refine ⟨fun h => ?_, fun h => ?_⟩
    · refine callP_ro (l01In_ro _ _ _) ?_
      simp
      refine ⟨fun h1 h2 => ?_, fun h1 => ?_⟩
      · refine callP_ro (l01In_ro _ _ _) ?_
        simp [J.ok, h, h1, h2]
      · simp [J.ok, h]
        grind
    · simp [J.ok, h]
  simp
  exact retRO [_] 0 rfl rfl ((Sub.refl bl).upd hg _)

theorem impl_JointOk_ro (j : J) (hj : j.name.size ≤ 140737488351232) : RO Tryz.prog 87 [.agg j.c] (.bool j.ok) := by
  refine ro_of2 Tryz.func87 rfl rfl (by rw [Tryz.ntmps87]; simp) fun bl => ?_
  rw [Tryz.ntmps87, Tryz.results87]
  refine AW_run ?_
  simp [J.c]
  intro g hg0 hg
  refine AW_way [(1, .loc g 4 0 0)] _ (upd bl g (some ⟨4, [j.c]⟩)) 2 (.bool j.ok) (upd bl g (some ⟨4, [j.c]⟩)) ⟨rfl, by simp, Sub.refl _⟩ rfl ?_ ?_
  · simp [J.c]
    refine callP_ro (impl_IsName_ro _ hj) ?_
    simp
    refine ⟨fun h => ?_, fun h => ?_⟩
    · refine callP_ro (isPlace_ro _) ?_
      simp
      refine ⟨fun h1 h2 => ?_, fun h1 => ?_⟩
      · refine callP_ro (isPlace_ro _) ?_
        simp [J.ok, h, h1, h2]
      · simp [J.ok, h]
        grind
    · simp [J.ok, h]
  simp
  exact retRO [_] 0 rfl rfl ((Sub.refl bl).upd hg _)

end Go.Proofs.YticmgmemnpcbbaaGreat.Vm

namespace Go.Proofs.YticmgmemnpcbbaaGreat.Vm
open Go Go.Proofs
set_option linter.unusedSimpArgs false
set_option linter.unusedVariables false

/-- What is left of an allowance. -/
def less (left : Int) (n : Nat) : Int := if left - n < 0 then -1 else left - n

theorem szJoint_ro (j : J) (left : Int) (hl : -1 ≤ left ∧ left ≤ 1048576) (hj : j.name.size ≤ 140737488351232) : RO Tryz.prog 187 [.agg j.c, .int .i64 left] (.int .i64 (less left j.name.size)) := by
  refine ro_of2 Tryz.func187 rfl rfl (by rw [Tryz.ntmps187]; simp) fun bl => ?_
  rw [Tryz.ntmps187, Tryz.results187]
  refine AW_run ?_
  simp [J.c]
  intro g hg0 hg
  simp (disch := omega) [i64_in]
  refine ⟨fun h => ?_, fun h => ?_⟩
  · exact retRO [_] 0 rfl (by simp [frz, less]; omega) ((Sub.refl bl).upd hg _)
  · exact retRO [_] 0 rfl (by simp [frz, less]; omega) ((Sub.refl bl).upd hg _)

theorem toJoint_ro (j : J) : RO Tryz.prog 195 [.agg j.c] (.agg j.c) := by
  refine ro_of2 Tryz.func195 rfl rfl (by rw [Tryz.ntmps195]; simp) fun bl => ?_
  rw [Tryz.ntmps195, Tryz.results195]
  refine AW_run ?_
  simp [J.c]
  intro g1 hg1 hb1 g2 hg2 h21 hb2
  intro g3 hg3 h32 h31 hb3
  simp [h21, h31, h32, Ne.symm h21, Ne.symm h31, Ne.symm h32]
  refine retRO [.agg j.c] 1 ?_ ?_ ?_
  · simp [h21, h31, h32, Ne.symm h21, Ne.symm h31, Ne.symm h32, J.c]
  · rfl
  · simp [hb1, hb2, hb3]

end Go.Proofs.YticmgmemnpcbbaaGreat.Vm

namespace Go.Proofs.YticmgmemnpcbbaaGreat.Vm
open Go Go.Proofs
set_option linter.unusedSimpArgs false
set_option linter.unusedVariables false

theorem mixedO : Tryz.prog.follows .mixedOrders = true := by kernel_rfl

/-- Numbers as the elements of a slice. -/
def iv (ns : List Int) : List (List V) := ns.map fun n => [.int .i64 n]
@[simp] theorem iv_length (ns : List Int) : (iv ns).length = ns.length := by simp [iv]
@[simp] theorem iv_get (ns : List Int) (i : Nat) (h : i < ns.length) : (iv ns)[i]? = some [.int .i64 ns[i]] := by simp [iv, h]

@[simp] theorem iv_getE (ns : List Int) (i : Nat) (h : i < (iv ns).length) : (iv ns)[i] = [.int .i64 (ns[i]'(by simpa using h))] := by simp [iv]

theorem iv_cl (ns : List Int) : (iv ns).all (fun e => e.all V.cl) = true := by simp [iv, V.cl]

theorem eqIntS_ro (a b : List Int) (ha : a.length ≤ 140737488351232) : RO Tryz.prog 51 [.sl (iv a), .sl (iv b)] (.bool (decide (a = b))) := by
  refine ro_of2 Tryz.func51 rfl rfl (by rw [Tryz.ntmps51]; simp) fun bl => ?_
  rw [Tryz.ntmps51, Tryz.results51]
  refine AW_run ?_
  simp
  refine ⟨fun h => ?_, fun h => ?_⟩
  · exact retRO0 (by simp; rintro rfl; exact h rfl) rfl rfl
  refine AW_for (fun i : Nat => [(0, .sl (iv a)), (1, .sl (iv b)), (5, .int .i64 i)]) (fun _ => bl) (fun i => i ≤ a.length ∧ ∀ j (h1 : j < a.length) (h2 : j < b.length), j < i → a[j] = b[j]) (fun i => a.length - i) _ 0 ⟨Nat.zero_le _, fun j _ _ h0 => by omega⟩ ⟨rfl, by simp, Sub.refl _⟩ ?_
  intro i ⟨hi, hc⟩
  refine AW_run ?_
  simp
  refine ⟨fun h1 => ?_, fun h1 => ?_⟩
  · refine AW_quiet mixedO (by kernel_rfl) ?_
    have h2 : i < b.length := by omega
    simp [h1, h2]
    refine ⟨fun h3 => ?_, fun h3 => ?_⟩
    · exact retRO0 (by simp; rintro rfl; exact h3 rfl) rfl rfl
    · simp (disch := omega) [i64_in, loopQ_normal]
      refine ⟨i + 1, ⟨by omega, fun j hj1 hj2 hji => ?_⟩, by omega, rfl, by simp, Sub.refl _⟩
      rcases Nat.lt_or_ge j i with hlt | hge
      · exact hc j hj1 hj2 hlt
      · obtain rfl : j = i := by omega
        exact h3
  · refine retRO0 (by simp; exact List.ext_getElem (by omega) fun j hj1 hj2 => hc j hj1 hj2 (by omega)) rfl rfl

theorem toIntS_ro (a : List Int) (ha : a.length ≤ 1048576) : RO Tryz.prog 49 [.sl (iv a)] (.sl (iv a)) := by
  refine ro_of2 Tryz.func49 rfl rfl (by rw [Tryz.ntmps49]; simp) fun bl => ?_
  rw [Tryz.ntmps49, Tryz.results49]
  refine AW_run ?_
  simp
  refine ⟨by omega, by unfold maxLen; omega, fun g hg0 hg => ?_⟩
  refine AW_for (fun i : Nat => [(0, .sl (iv a)), (3, .lsl g 1 0 a.length), (4, .int .i64 i)]) (fun i => upd bl g (some ⟨1, part (iv a) [.int .i64 0] i⟩)) (fun i => i ≤ a.length) (fun i => a.length - i) _ 0 (Nat.zero_le _) ⟨rfl, by simp, sub_eq (by simp)⟩ ?_
  intro i hi
  refine AW_run ?_
  simp
  refine ⟨fun h => ?_, fun h => ?_⟩
  · have hi' : i < (iv a).length := by simpa using h
    simp (disch := omega) [h, part_get _ _ _ hi', i64_in, loopQ_normal]
    refine ⟨i + 1, by omega, by omega, rfl, by simp, sub_eq ?_⟩
    simp only [upd_idem]
    rw [part_set _ _ _ hi']
    simp
  · refine retRO [.lsl g 1 0 a.length] 1 (by simp) ?_ (by simp [hg])
    rw [part_all _ _ _ (by simpa using h)]
    exact frz_slice hg0 hg (by simp) (by simp) (iv_cl a)

end Go.Proofs.YticmgmemnpcbbaaGreat.Vm

namespace Go.Proofs.YticmgmemnpcbbaaGreat.Vm
open Go Go.Proofs
set_option linter.unusedSimpArgs false
set_option linter.unusedVariables false

structure Mb where
  a : Int
  b : Int
  kind : Int
  deriving DecidableEq
def Mb.c (m : Mb) : List V := [.int .i64 m.a, .int .i64 m.b, .int .i64 m.kind]
def jv (js : List J) : List (List V) := js.map J.c
def mv (ms : List Mb) : List (List V) := ms.map Mb.c
structure Str where
  js : List J
  ms : List Mb
  deriving DecidableEq
def Str.c (s : Str) : List V := [.sl (jv s.js), .sl (mv s.ms)]
@[simp] theorem jv_length (ns : List J) : (jv ns).length = ns.length := by simp [jv]
@[simp] theorem jv_getE (ns : List J) (i : Nat) (h : i < (jv ns).length) : (jv ns)[i] = (ns[i]'(by simpa using h)).c := by simp [jv]
@[simp] theorem mv_length (ns : List Mb) : (mv ns).length = ns.length := by simp [mv]
@[simp] theorem mv_getE (ns : List Mb) (i : Nat) (h : i < (mv ns).length) : (mv ns)[i] = (ns[i]'(by simpa using h)).c := by simp [mv]
theorem jv_cl (ns : List J) : (jv ns).all (fun e => e.all V.cl) = true := by simp [jv, J.c, V.cl]
theorem mv_cl (ns : List Mb) : (mv ns).all (fun e => e.all V.cl) = true := by simp [mv, Mb.c, V.cl]
@[simp] theorem J.c_length (j : J) : j.c.length = 4 := rfl
@[simp] theorem Mb.c_length (j : Mb) : j.c.length = 3 := rfl

theorem toMember_ro (m : Mb) : RO Tryz.prog 196 [.agg m.c] (.agg m.c) := by
  refine ro_of2 Tryz.func196 rfl rfl (by rw [Tryz.ntmps196]; simp) fun bl => ?_
  rw [Tryz.ntmps196, Tryz.results196]
  refine AW_run ?_
  simp [Mb.c]
  intro g1 hg1 hb1 g2 hg2 h21 hb2
  intro g3 hg3 h32 h31 hb3
  simp [h21, h31, h32, Ne.symm h21, Ne.symm h31, Ne.symm h32]
  refine retRO [.agg m.c] 1 ?_ ?_ ?_
  · simp [h21, h31, h32, Ne.symm h21, Ne.symm h31, Ne.symm h32, Mb.c]
  · rfl
  · simp [hb1, hb2, hb3]

theorem toJointS_ro (a : List J) (ha : a.length ≤ 1048576) : RO Tryz.prog 118 [.sl (jv a)] (.sl (jv a)) := by
  refine ro_of2 Tryz.func118 rfl rfl (by rw [Tryz.ntmps118]; simp) fun bl => ?_
  rw [Tryz.ntmps118, Tryz.results118]
  refine AW_run ?_
  simp
  refine ⟨by omega, by unfold maxLen; omega, fun g hg0 hg => ?_⟩
  refine AW_for (fun i : Nat => [(0, .sl (jv a)), (3, .lsl g 4 0 a.length), (4, .int .i64 i)]) (fun i => upd bl g (some ⟨4, part (jv a) [.str { data := #[] }, .int .i64 0, .int .i64 0, .bool false] i⟩)) (fun i => i ≤ a.length) (fun i => a.length - i) _ 0 (Nat.zero_le _) ⟨rfl, by simp, sub_eq (by simp)⟩ ?_
  intro i hi
  refine AW_run ?_
  simp
  refine ⟨fun h => ?_, fun h => ?_⟩
  · have hi' : i < (jv a).length := by simpa using h
    simp [h]
    refine callP_ro (toJoint_ro a[i]) ?_
    simp (disch := omega) [h, part_get _ _ _ hi', i64_in, loopQ_normal, J.c]
    refine ⟨i + 1, by omega, by omega, rfl, by simp, sub_eq ?_⟩
    simp only [upd_idem]
    rw [part_set _ _ _ hi']
    simp [J.c]
  · refine retRO [.lsl g 4 0 a.length] 1 (by simp) ?_ (by simp [hg])
    rw [part_all _ _ _ (by simpa using h)]
    exact frz_slice hg0 hg (by simp) (by simp) (jv_cl a)

theorem toMemberS_ro (a : List Mb) (ha : a.length ≤ 1048576) : RO Tryz.prog 119 [.sl (mv a)] (.sl (mv a)) := by
  refine ro_of2 Tryz.func119 rfl rfl (by rw [Tryz.ntmps119]; simp) fun bl => ?_
  rw [Tryz.ntmps119, Tryz.results119]
  refine AW_run ?_
  simp
  refine ⟨by omega, by unfold maxLen; omega, fun g hg0 hg => ?_⟩
  refine AW_for (fun i : Nat => [(0, .sl (mv a)), (3, .lsl g 3 0 a.length), (4, .int .i64 i)]) (fun i => upd bl g (some ⟨3, part (mv a) [.int .i64 0, .int .i64 0, .int .i64 0] i⟩)) (fun i => i ≤ a.length) (fun i => a.length - i) _ 0 (Nat.zero_le _) ⟨rfl, by simp, sub_eq (by simp)⟩ ?_
  intro i hi
  refine AW_run ?_
  simp
  refine ⟨fun h => ?_, fun h => ?_⟩
  · have hi' : i < (mv a).length := by simpa using h
    simp [h]
    refine callP_ro (toMember_ro a[i]) ?_
    simp (disch := omega) [h, part_get _ _ _ hi', i64_in, loopQ_normal, Mb.c]
    refine ⟨i + 1, by omega, by omega, rfl, by simp, sub_eq ?_⟩
    simp only [upd_idem]
    rw [part_set _ _ _ hi']
    simp [Mb.c]
  · refine retRO [.lsl g 3 0 a.length] 1 (by simp) ?_ (by simp [hg])
    rw [part_all _ _ _ (by simpa using h)]
    exact frz_slice hg0 hg (by simp) (by simp) (mv_cl a)

theorem toStructure_ro (s : Str) (hj : s.js.length ≤ 1048576) (hm : s.ms.length ≤ 1048576) : RO Tryz.prog 48 [.agg s.c] (.agg s.c) := by
  refine ro_of2 Tryz.func48 rfl rfl (by rw [Tryz.ntmps48]; simp) fun bl => ?_
  rw [Tryz.ntmps48, Tryz.results48]
  refine AW_run ?_
  simp [Str.c]
  intro g1 hg1 hb1 g2 hg2 h21 hb2
  intro g3 hg3 h32 h31 hb3
  simp [h21, h31, h32, Ne.symm h21, Ne.symm h31, Ne.symm h32]
  refine callP_ro (toJointS_ro _ hj) ?_
  simp [h21, h31, h32, Ne.symm h21, Ne.symm h31, Ne.symm h32]
  refine callP_ro (toMemberS_ro _ hm) ?_
  simp [h21, h31, h32, Ne.symm h21, Ne.symm h31, Ne.symm h32]
  refine retRO [.agg s.c] 1 ?_ ?_ ?_
  · simp [h21, h31, h32, Ne.symm h21, Ne.symm h31, Ne.symm h32, Str.c]
  · rfl
  · simp [hb1, hb2, hb3]

end Go.Proofs.YticmgmemnpcbbaaGreat.Vm

namespace Go.Proofs.YticmgmemnpcbbaaGreat.Vm
open Go Go.Proofs
set_option linter.unusedSimpArgs false
set_option linter.unusedVariables false

theorem J.ext_iff' {a b : J} : a = b ↔ a.name = b.name ∧ a.x = b.x ∧ a.y = b.y ∧ a.fixed = b.fixed := by
  cases a; cases b; simp
theorem Mb.ext_iff' {a b : Mb} : a = b ↔ a.a = b.a ∧ a.b = b.b ∧ a.kind = b.kind := by
  cases a; cases b; simp

theorem eqJoint_ro (a b : J) : RO Tryz.prog 197 [.agg a.c, .agg b.c] (.bool (decide (a = b))) := by
  refine ro_of2 Tryz.func197 rfl rfl (by rw [Tryz.ntmps197]; simp) fun bl => ?_
  rw [Tryz.ntmps197, Tryz.results197]
  refine AW_run ?_
  simp [J.c]
  intro g1 hg1 hb1 g2 hg2 h21 hb2
  simp [h21, Ne.symm h21, str_eq]
  refine ⟨fun h => ?_, fun h1 => ⟨fun h => ?_, fun h2 => ⟨fun h => ?_, fun h3 => ⟨fun h => ?_, fun h4 => ?_⟩⟩⟩⟩
  all_goals refine retRO [_] 0 rfl ?_ ?_
  all_goals first | (simp [frz, J.ext_iff', *]; done) | (simp [hb1, hb2]; done)

theorem eqMember_ro (a b : Mb) : RO Tryz.prog 198 [.agg a.c, .agg b.c] (.bool (decide (a = b))) := by
  refine ro_of2 Tryz.func198 rfl rfl (by rw [Tryz.ntmps198]; simp) fun bl => ?_
  rw [Tryz.ntmps198, Tryz.results198]
  refine AW_run ?_
  simp [Mb.c]
  intro g1 hg1 hb1 g2 hg2 h21 hb2
  simp [h21, Ne.symm h21]
  refine ⟨fun h => ?_, fun h1 => ⟨fun h => ?_, fun h2 => ⟨fun h => ?_, fun h3 => ?_⟩⟩⟩
  all_goals refine retRO [_] 0 rfl ?_ ?_
  all_goals first | (simp [frz, Mb.ext_iff', *]; done) | (simp [hb1, hb2]; done)

theorem eqJointS_ro (a b : List J) (ha : a.length ≤ 140737488351232) : RO Tryz.prog 120 [.sl (jv a), .sl (jv b)] (.bool (decide (a = b))) := by
  refine ro_of2 Tryz.func120 rfl rfl (by rw [Tryz.ntmps120]; simp) fun bl => ?_
  rw [Tryz.ntmps120, Tryz.results120]
  refine AW_run ?_
  simp
  refine ⟨fun h => ?_, fun h => ?_⟩
  · exact retRO0 (by simp; rintro rfl; exact h rfl) rfl rfl
  refine AW_for (fun i : Nat => [(0, .sl (jv a)), (1, .sl (jv b)), (5, .int .i64 i)]) (fun _ => bl) (fun i => i ≤ a.length ∧ ∀ j (h1 : j < a.length) (h2 : j < b.length), j < i → a[j] = b[j]) (fun i => a.length - i) _ 0 ⟨Nat.zero_le _, fun j _ _ h0 => by omega⟩ ⟨rfl, by simp, Sub.refl _⟩ ?_
  intro i ⟨hi, hc⟩
  refine AW_run ?_
  simp
  refine ⟨fun h1 => ?_, fun h1 => ?_⟩
  · refine AW_quiet mixedO (by kernel_rfl) ?_
    have h2 : i < b.length := by omega
    simp [h1, h2]
    refine hcQ_ro (eqJoint_ro a[i] b[i]) ?_
    simp
    refine ⟨fun h3 => ?_, fun h3 => ?_⟩
    · exact retRO0 (by simp; rintro rfl; exact h3 rfl) rfl rfl
    · simp (disch := omega) [i64_in, loopQ_normal]
      refine ⟨i + 1, ⟨by omega, fun j hj1 hj2 hji => ?_⟩, by omega, rfl, by simp, Sub.refl _⟩
      rcases Nat.lt_or_ge j i with hlt | hge
      · exact hc j hj1 hj2 hlt
      · obtain rfl : j = i := by omega
        exact h3
  · refine retRO0 (by simp; exact List.ext_getElem (by omega) fun j hj1 hj2 => hc j hj1 hj2 (by omega)) rfl rfl

theorem eqMemberS_ro (a b : List Mb) (ha : a.length ≤ 140737488351232) : RO Tryz.prog 121 [.sl (mv a), .sl (mv b)] (.bool (decide (a = b))) := by
  refine ro_of2 Tryz.func121 rfl rfl (by rw [Tryz.ntmps121]; simp) fun bl => ?_
  rw [Tryz.ntmps121, Tryz.results121]
  refine AW_run ?_
  simp
  refine ⟨fun h => ?_, fun h => ?_⟩
  · exact retRO0 (by simp; rintro rfl; exact h rfl) rfl rfl
  refine AW_for (fun i : Nat => [(0, .sl (mv a)), (1, .sl (mv b)), (5, .int .i64 i)]) (fun _ => bl) (fun i => i ≤ a.length ∧ ∀ j (h1 : j < a.length) (h2 : j < b.length), j < i → a[j] = b[j]) (fun i => a.length - i) _ 0 ⟨Nat.zero_le _, fun j _ _ h0 => by omega⟩ ⟨rfl, by simp, Sub.refl _⟩ ?_
  intro i ⟨hi, hc⟩
  refine AW_run ?_
  simp
  refine ⟨fun h1 => ?_, fun h1 => ?_⟩
  · refine AW_quiet mixedO (by kernel_rfl) ?_
    have h2 : i < b.length := by omega
    simp [h1, h2]
    refine hcQ_ro (eqMember_ro a[i] b[i]) ?_
    simp
    refine ⟨fun h3 => ?_, fun h3 => ?_⟩
    · exact retRO0 (by simp; rintro rfl; exact h3 rfl) rfl rfl
    · simp (disch := omega) [i64_in, loopQ_normal]
      refine ⟨i + 1, ⟨by omega, fun j hj1 hj2 hji => ?_⟩, by omega, rfl, by simp, Sub.refl _⟩
      rcases Nat.lt_or_ge j i with hlt | hge
      · exact hc j hj1 hj2 hlt
      · obtain rfl : j = i := by omega
        exact h3
  · refine retRO0 (by simp; exact List.ext_getElem (by omega) fun j hj1 hj2 => hc j hj1 hj2 (by omega)) rfl rfl

theorem eqStructure_ro (a b : Str) (ha : a.js.length ≤ 140737488351232) (hm : a.ms.length ≤ 140737488351232) : RO Tryz.prog 50 [.agg a.c, .agg b.c] (.bool (decide (a = b))) := by
  refine ro_of2 Tryz.func50 rfl rfl (by rw [Tryz.ntmps50]; simp) fun bl => ?_
  rw [Tryz.ntmps50, Tryz.results50]
  refine AW_run ?_
  simp [Str.c]
  intro g1 hg1 hb1 g2 hg2 h21 hb2
  simp [h21, Ne.symm h21]
  refine callP_ro (eqJointS_ro _ _ ha) ?_
  simp
  refine ⟨fun h => ?_, fun h => ?_⟩
  · refine retRO [_] 0 rfl ?_ (by simp [hb1, hb2])
    simp [frz]; rintro rfl; exact h rfl
  simp [h21, Ne.symm h21]
  refine callP_ro (eqMemberS_ro _ _ hm) ?_
  simp
  refine ⟨fun h' => ?_, fun h' => ?_⟩
  · refine retRO [_] 0 rfl ?_ (by simp [hb1, hb2])
    simp [frz]; rintro rfl; exact h' rfl
  · refine retRO [_] 0 rfl ?_ (by simp [hb1, hb2])
    cases a; cases b; simp_all [frz]

/-! ### Sizes: an allowance that is spent, -1 when it is overspent -/
theorem less_le {left : Int} {n : Nat} (h : -1 ≤ left ∧ left ≤ 1048576) : -1 ≤ less left n ∧ less left n ≤ 1048576 := by unfold less; split <;> omega

theorem szMemberS_ro (a : List Mb) (left : Int) (hl : -1 ≤ left ∧ left ≤ 1048576) (ha : a.length ≤ 140737488351232) : RO Tryz.prog 114 [.sl (mv a), .int .i64 left] (.int .i64 (less left a.length)) := by
  refine ro_of2 Tryz.func114 rfl rfl (by rw [Tryz.ntmps114]; simp) fun bl => ?_
  rw [Tryz.ntmps114, Tryz.results114]
  refine AW_run ?_
  simp
  simp (disch := omega) [i64_in]
  refine ⟨fun h => ?_, fun h => ?_⟩
  · exact retRO [_] 0 rfl (by simp [frz, less]; omega) (Sub.refl _)
  · exact retRO [_] 0 rfl (by simp [frz, less]; omega) (Sub.refl _)

/-- What joints leave of an allowance, one after another; -1 at once when it is overspent. -/
def szJs : List J → Int → Int
  | [], left => left
  | j :: js, left => if less left j.name.size < 0 then -1 else szJs js (less left j.name.size)
def szJS (js : List J) (left : Int) : Int := if less left js.length < 0 then -1 else szJs js (less left js.length)

theorem szJointS_ro (a : List J) (left : Int) (hl : -1 ≤ left ∧ left ≤ 1048576) (ha : a.length ≤ 140737488351232) (hn : ∀ j, j ∈ a → j.name.size ≤ 140737488351232) : RO Tryz.prog 113 [.sl (jv a), .int .i64 left] (.int .i64 (szJS a left)) := by
  refine ro_of2 Tryz.func113 rfl rfl (by rw [Tryz.ntmps113]; simp) fun bl => ?_
  rw [Tryz.ntmps113, Tryz.results113]
  refine AW_run ?_
  simp
  simp (disch := omega) [i64_in]
  refine ⟨fun h => ?_, fun h => ?_⟩
  · exact retRO [_] 0 rfl (by simp [frz, szJS, less]; omega) (Sub.refl _)
  refine AW_for (fun p : Nat × Int => [(0, .sl (jv a)), (1, .int .i64 p.2), (5, .int .i64 p.1)]) (fun _ => bl) (fun p => p.1 ≤ a.length ∧ 0 ≤ p.2 ∧ p.2 ≤ 1048576 ∧ szJS a left = szJs (a.drop p.1) p.2) (fun p => a.length - p.1) _ (0, left - a.length) ⟨Nat.zero_le _, by simp; omega, by simp; omega, ?_⟩ ⟨rfl, by simp, Sub.refl _⟩ ?_
  · have h0 : ¬ (left - (a.length : Int) < 0) := by omega
    simp only [szJS, less, if_neg h0, List.drop_zero]
  intro ⟨i, l⟩ ⟨hi, hl0, hl1, hs⟩
  simp at hi hl0 hl1 hs
  refine AW_run ?_
  simp
  refine ⟨fun h1 => ?_, fun h1 => ?_⟩
  · simp [h1]
    refine callP_ro (szJoint_ro a[i] l (by omega) (hn _ (List.getElem_mem _))) ?_
    simp
    rw [List.drop_eq_getElem_cons h1, szJs] at hs
    have := less_le (left := l) (n := a[i].name.size) (by omega)
    refine ⟨fun h2 => ?_, fun h2 => ?_⟩
    · exact retRO [_] 0 rfl (by simp [frz, hs, h2]) (Sub.refl _)
    · simp (disch := omega) [i64_in, loopQ_normal]
      rw [if_neg (by omega)] at hs
      exact ⟨i + 1, less l a[i].name.size, ⟨by omega, by omega, by omega, hs⟩, by omega, rfl, by simp, Sub.refl _⟩
  · rw [List.drop_eq_nil_of_le h1, szJs] at hs
    exact retRO [_] 0 rfl (by simp [frz, hs]) (Sub.refl _)

/-- What a structure leaves of an allowance. -/
def szStr (s : Str) (left : Int) : Int := if szJS s.js left < 0 then -1 else if less (szJS s.js left) s.ms.length < 0 then -1 else less (szJS s.js left) s.ms.length

theorem szJs_le : ∀ (js : List J) (left : Int), -1 ≤ left ∧ left ≤ 1048576 → -1 ≤ szJs js left ∧ szJs js left ≤ left
  | [], left, h => by simp [szJs]; omega
  | j :: js, left, h => by
    unfold szJs
    have := less_le (left := left) (n := j.name.size) h
    split
    · omega
    · have h2 := szJs_le js _ this
      have : less left j.name.size ≤ left := by unfold less at *; split <;> split at * <;> omega
      omega
theorem szJS_le (js : List J) (left : Int) (h : -1 ≤ left ∧ left ≤ 1048576) : -1 ≤ szJS js left ∧ szJS js left ≤ left ∧ (0 ≤ szJS js left → (js.length : Int) ≤ left) := by
  unfold szJS
  split
  · omega
  · rename_i hn
    have h1 := less_le (left := left) (n := js.length) h
    have h2 := szJs_le js _ h1
    have : less left js.length = left - js.length := by unfold less at *; split <;> split at * <;> omega
    omega

theorem szStructure_ro (s : Str) (left : Int) (hl : -1 ≤ left ∧ left ≤ 1048576) (hj : s.js.length ≤ 140737488351232) (hm : s.ms.length ≤ 140737488351232) (hn : ∀ j, j ∈ s.js → j.name.size ≤ 140737488351232) :
    RO Tryz.prog 46 [.agg s.c, .int .i64 left] (.int .i64 (szStr s left)) := by
  refine ro_of2 Tryz.func46 rfl rfl (by rw [Tryz.ntmps46]; simp) fun bl => ?_
  rw [Tryz.ntmps46, Tryz.results46]
  refine AW_run ?_
  simp [Str.c]
  intro g hg0 hg
  refine callP_ro (szJointS_ro _ _ hl hj hn) ?_
  have hle := szJS_le s.js left hl
  simp
  refine ⟨fun h => ?_, fun h => ?_⟩
  · exact retRO [_] 0 rfl (by simp [frz, szStr, h]) (by simp [hg])
  refine callP_ro (szMemberS_ro _ _ (by omega) hm) ?_
  simp
  refine ⟨fun h2 => ?_, fun h2 => ?_⟩
  · exact retRO [_] 0 rfl (by simp [frz, szStr, h2]) (by simp [hg])
  · refine retRO [_] 0 rfl ?_ (by simp [hg])
    simp only [szStr, if_neg (show ¬ szJS s.js left < 0 by omega), if_neg (show ¬ less (szJS s.js left) s.ms.length < 0 by omega)]
    rfl

theorem szStr_le {s : Str} {left : Int} (hl : -1 ≤ left ∧ left ≤ 1048576) (h : 0 ≤ szStr s left) : (s.js.length : Int) ≤ left ∧ (s.ms.length : Int) ≤ left ∧ szStr s left ≤ left := by
  have hle := szJS_le s.js left hl
  unfold szStr at *
  split at h
  · omega
  · rename_i h1
    rw [if_neg h1]
    split at h
    · omega
    · rename_i h2
      rw [if_neg h2]
      unfold less at *
      split at h2
      · omega
      · rename_i h3
        rw [if_neg h3]
        omega

end Go.Proofs.YticmgmemnpcbbaaGreat.Vm

namespace Go.Proofs.YticmgmemnpcbbaaGreat.Vm
open Go Go.Proofs
set_option linter.unusedSimpArgs false
set_option linter.unusedVariables false

theorem str_beq (a b : ByteArray) : (a.toList == b.toList) = decide (a = b) := by
  rw [Bool.eq_iff_iff]; simp [str_eq]

/-- The first index at which p holds, else -1. -/
def ixf {α : Type} (p : α → Bool) (xs : List α) : Int := match xs.findIdx? p with | some i => i | none => -1
theorem ixf_here {α : Type} {p : α → Bool} {xs : List α} {i : Nat} (h : i < xs.length) (hb : ∀ j (hj : j < xs.length), j < i → p xs[j] = false) (hp : p xs[i] = true) : ixf p xs = i := by
  unfold ixf
  have : xs.findIdx? p = some i := by
    rw [List.findIdx?_eq_some_iff_getElem]
    exact ⟨h, hp, fun j hj => by simp [hb j (by omega) hj]⟩
  rw [this]
theorem ixf_none {α : Type} {p : α → Bool} {xs : List α} (hb : ∀ j (hj : j < xs.length), p xs[j] = false) : ixf p xs = -1 := by
  unfold ixf
  have : xs.findIdx? p = none := by
    rw [List.findIdx?_eq_none_iff]
    intro x hx
    obtain ⟨i, hi, rfl⟩ := List.mem_iff_getElem.1 hx
    exact hb i hi
  rw [this]

theorem IndexFunc_joints_ro (a : List J) (f : FuncId) (cap : List V) (p : J → Bool) (ha : a.length ≤ 140737488351232) (hf : ∀ j, j ∈ a → RO Tryz.prog f (.agg j.c :: cap) (.bool (p j))) :
    RO Tryz.prog 166 [.sl (jv a), .fn f cap] (.int .i64 (ixf p a)) := by
  refine ro_of2 Tryz.func166 rfl rfl (by rw [Tryz.ntmps166]; simp) fun bl => ?_
  rw [Tryz.ntmps166, Tryz.results166]
  refine AW_run ?_
  simp
  refine AW_for (fun i : Nat => [(0, .sl (jv a)), (1, .fn f cap), (7, .int .i64 a.length), (8, .int .i64 i)]) (fun _ => bl) (fun i => i ≤ a.length ∧ ∀ j (h1 : j < a.length), j < i → p a[j] = false) (fun i => a.length - i) _ 0 ⟨Nat.zero_le _, fun j _ h0 => by omega⟩ ⟨rfl, by simp, Sub.refl _⟩ ?_
  intro i ⟨hi, hc⟩
  refine AW_run ?_
  simp
  refine ⟨fun h1 => ?_, fun h1 => ?_⟩
  · simp [h1]
    refine callP_ro (hf _ (List.getElem_mem h1)) ?_
    simp
    refine ⟨fun h2 => ?_, fun h2 => ?_⟩
    · exact retRO0 (by simp [ixf_here h1 hc h2]) rfl rfl
    · simp (disch := omega) [i64_in, loopQ_normal]
      refine ⟨i + 1, ⟨by omega, fun j hj1 hji => ?_⟩, by omega, rfl, by simp, Sub.refl _⟩
      rcases Nat.lt_or_ge j i with hlt | hge
      · exact hc j hj1 hlt
      · obtain rfl : j = i := by omega
        exact h2
  · exact retRO0 (by simp [ixf_none fun j hj => hc j hj (by omega)]) rfl rfl

theorem JointNamed1_ro (j : J) (name : ByteArray) : RO Tryz.prog 167 [.agg j.c, .ptr [.str name]] (.bool (decide (j.name = name))) := by
  refine ro_of2 Tryz.func167 rfl rfl (by rw [Tryz.ntmps167]; simp) fun bl => ?_
  rw [Tryz.ntmps167, Tryz.results167]
  refine AW_run ?_
  simp [J.c]
  intro g hg0 hg
  exact retRO [_] 0 (by simp [str_beq]; rfl) rfl (by simp [hg])

theorem impl_JointNamed_ro (s : Str) (name : ByteArray) (hj : s.js.length ≤ 140737488351232) : RO Tryz.prog 88 [.agg s.c, .str name] (.int .i64 (ixf (fun j => decide (j.name = name)) s.js)) := by
  refine ro_of2 Tryz.func88 rfl rfl (by rw [Tryz.ntmps88]; simp) fun bl => ?_
  rw [Tryz.ntmps88, Tryz.results88]
  refine AW_run ?_
  simp [Str.c]
  intro g1 hg1 hb1 g2 hg2 h21 hb2
  simp [h21, Ne.symm h21]
  refine callP_borrow 2 (ys := [.sl (jv s.js), .fn 167 [.ptr [.str name]]]) ?_ (IndexFunc_joints_ro _ _ _ (fun j => decide (j.name = name)) hj fun j _ => JointNamed1_ro j name) rfl ?_
  · simp [frz, dropB, V.cl]
  simp
  exact retRO [_] 0 rfl rfl (by simp [hb1, hb2])

theorem spec_JointNamed_ro (s : Str) (name : ByteArray) (hj : s.js.length ≤ 140737488351232) : RO Tryz.prog 200 [.agg s.c, .str name] (.int .i64 (ixf (fun j => decide (j.name = name)) s.js)) := by
  refine ro_of2 Tryz.func200 rfl rfl (by rw [Tryz.ntmps200]; simp) fun bl => ?_
  rw [Tryz.ntmps200, Tryz.results200]
  refine AW_run ?_
  simp [Str.c]
  intro g1 hg1 hb1
  refine AW_for (fun i : Nat => [(1, .str name), (8, .sl (jv s.js)), (9, .int .i64 s.js.length), (10, .int .i64 i)]) (fun _ => bl) (fun i => i ≤ s.js.length ∧ ∀ j (h1 : j < s.js.length), j < i → decide (s.js[j].name = name) = false) (fun i => s.js.length - i) _ 0 ⟨Nat.zero_le _, fun j _ h0 => by omega⟩ ⟨rfl, by simp, by simp [hb1]⟩ ?_
  intro i ⟨hi, hc⟩
  refine AW_run ?_
  simp
  refine ⟨fun h1 => ?_, fun h1 => ?_⟩
  · simp [h1]
    intro g hg0 hg
    simp [J.c, str_beq]
    refine ⟨fun h2 => ?_, fun h2 => ?_⟩
    · exact retRO [_] 0 rfl (by simp [frz]; exact (ixf_here (p := fun j => decide (j.name = name)) h1 hc (by simpa using h2)).symm) (by simp [hg])
    · simp (disch := omega) [i64_in, loopQ_normal]
      refine ⟨i + 1, ⟨by omega, fun j hj1 hji => ?_⟩, by omega, rfl, by simp, by simp [hg]⟩
      rcases Nat.lt_or_ge j i with hlt | hge
      · simpa using hc j hj1 hlt
      · obtain rfl : j = i := by omega
        simpa using h2
  · exact retRO [_] 0 rfl (by simp [frz]; exact (ixf_none (p := fun j => decide (j.name = name)) fun j hj => hc j hj (by omega)).symm) (Sub.refl _)

end Go.Proofs.YticmgmemnpcbbaaGreat.Vm

namespace Go.Proofs.YticmgmemnpcbbaaGreat.Vm
open Go Go.Proofs
set_option linter.unusedSimpArgs false
set_option linter.unusedVariables false

end Go.Proofs.YticmgmemnpcbbaaGreat.Vm

namespace Go.Proofs.YticmgmemnpcbbaaGreat.Vm
open Go Go.Proofs
set_option linter.unusedSimpArgs false
set_option linter.unusedVariables false

theorem AW_way0 {P : Program} {id : Nat} {ops : Array Oper} {K : Ex → St → Prop} {σ : St} (l : List (Nat × V)) (n : Nat) (bl : Int → Option Blk) (t : Nat) (v : V) (hf : Fit l n bl σ) (hd : (l.all fun p => !(ops.toList.map (·.dst)).contains (some p.1)) = true)
    (h1 : OpsF P (ops.toList.map (·.dst)) ops.toList (fun σ' => σ'.sl t = v ∧ σ'.bl = bl) ⟨n, hv l, bl⟩) (h2 : K .normal ⟨n, hv ((t, v) :: l), bl⟩) : AW P (.region id ops false) K σ := AW_way l n bl t v bl hf hd h1 h2

instance : Inhabited J := ⟨⟨⟨#[]⟩, 0, 0, false⟩⟩
/-- The joint at an index. -/
def jat (js : List J) (n : Int) : J := js.getD n.toNat default
def mOk (js : List J) (m : Mb) : Bool :=
  (decide (0 ≤ m.a) && decide (m.a < js.length)) && (decide (0 ≤ m.b) && decide (m.b < js.length)) && (decide (1 ≤ m.kind) && decide (m.kind ≤ 3)) &&
  ((decide ((jat js m.a).x ≠ (jat js m.b).x) || decide ((jat js m.a).y ≠ (jat js m.b).y)) && !((jat js m.a).fixed && (jat js m.b).fixed))
def sOk (s : Str) : Bool := decide (s.js.length ≤ 6) && decide (s.ms.length ≤ 8) &&
  decide (∀ i (h : i < s.js.length), s.js[i].ok = true ∧ ixf (fun j => decide (j.name = s.js[i].name)) s.js = i) && s.ms.all (mOk s.js)

theorem jv_at {js : List J} {n : Int} (h0 : 0 ≤ n) (h1 : n < js.length) : (jv js)[n.toNat]? = some (jat js n).c := by
  have : n.toNat < js.length := by omega
  simp [jv, jat, this]

theorem memberOk_ro (s : Str) (m : Mb) (hj : s.js.length ≤ 140737488351232) : RO Tryz.prog 91 [.ptr s.c, .agg m.c] (.bool (mOk s.js m)) := by
  refine ro_of2 Tryz.func91 rfl rfl (by rw [Tryz.ntmps91]; simp) fun bl => ?_
  rw [Tryz.ntmps91, Tryz.results91]
  refine AW_run ?_
  simp [Mb.c, Str.c]
  intro g hg0 hg
  refine AW_way [(0, .ptr s.c), (3, .loc g 3 0 0), (5, .int .i64 s.js.length)] _ (upd bl g (some ⟨3, [m.c]⟩)) 42 (.bool (! ((decide (0 ≤ m.a) && decide (m.a < s.js.length)) && (decide (0 ≤ m.b) && decide (m.b < s.js.length)) && (decide (1 ≤ m.kind) && decide (m.kind ≤ 3))))) (upd bl g (some ⟨3, [m.c]⟩)) ⟨rfl, by simp [Mb.c, Str.c], sub_eq (by simp [Mb.c])⟩ rfl ?_ ?_
  · simp [Mb.c]
    refine ⟨fun h => by omega, fun h1 => ⟨fun h => by omega, fun h2 => ⟨fun h => by omega, fun h3 => ⟨fun h => by omega, fun h4 => ⟨fun h => by omega, fun h5 => ?_⟩⟩⟩⟩⟩
    rw [Bool.eq_iff_iff]; simp; omega
  simp
  refine ⟨fun h => ?_, fun h1 h2 h3 h4 h5 h6 => ?_⟩
  · refine retRO [_] 0 rfl ?_ (by simp [hg])
    simp [frz, mOk]
    intro h1 h2 h3 h4 h5 h6
    omega
  · refine AW_mixed mixedO [0, 1, 2, 3, 4, 5, 6, 7, 8, 9, 10, 11, 12, 13, 14, 15] 4 (by kernel_rfl) ?_
    simp [Str.c, Mb.c, h1, h3, jv_at h1 h2, jv_at h3 h4, J.c]
    refine DAny_two (i := 16) (j := 17) (by kernel_rfl) rfl rfl rfl rfl ?_ ?_
    · simp
      intro g1 hg1 h1g hb1
      refine ⟨by simp [hg, hb1, h1g], DAny_one (i := 17) (by kernel_rfl) rfl rfl ?_⟩
      simp
      intro g2 hg2 h21 h2g hb2
      refine ⟨by simp [hg, hb1, h1g, h21, h2g, hb2], DAny_one (i := 18) (by kernel_rfl) rfl rfl ?_⟩
      simp [h1g, h21, h2g, Ne.symm h1g, Ne.symm h21, Ne.symm h2g]
      refine ⟨by simp [hg, hb1, h1g, h21, h2g, hb2], DAny_one (i := 19) (by kernel_rfl) rfl rfl ?_⟩
      simp [h1g, h21, h2g, Ne.symm h1g, Ne.symm h21, Ne.symm h2g]
      refine ⟨by simp [hg, hb1, h1g, h21, h2g, hb2], DAny_done (by kernel_rfl) ?_⟩
      simp [h1g, h21, h2g, Ne.symm h1g, Ne.symm h21, Ne.symm h2g]
      refine AW_way0 [(6, .loc g1 4 0 0), (7, .loc g2 4 0 0)] _ _ 4 (.bool (mOk s.js m)) ⟨rfl, by simp, Sub.refl _⟩ rfl ?_ ?_
      · simp [h1g, h21, h2g, Ne.symm h1g, Ne.symm h21, Ne.symm h2g, mOk, h1, h2, h3, h4, h5, h6]
        grind
      simp
      exact retRO [_] 0 rfl rfl (by simp [hg, hb1, hb2])
    · simp
      intro g2 hg2 h2g hb2
      refine ⟨by simp [hg, hb2, h2g], DAny_one (i := 16) (by kernel_rfl) rfl rfl ?_⟩
      simp
      intro g1 hg1 h12 h1g hb1
      have h21 := Ne.symm h12
      refine ⟨by simp [hg, hb1, h1g, h21, h2g, hb2], DAny_one (i := 18) (by kernel_rfl) rfl rfl ?_⟩
      simp [h1g, h12, h21, h2g, Ne.symm h1g, Ne.symm h2g]
      refine ⟨by simp [hg, hb1, h1g, h21, h2g, hb2], DAny_one (i := 19) (by kernel_rfl) rfl rfl ?_⟩
      simp [h1g, h12, h21, h2g, Ne.symm h1g, Ne.symm h2g]
      refine ⟨by simp [hg, hb1, h1g, h21, h2g, hb2], DAny_done (by kernel_rfl) ?_⟩
      simp [h1g, h12, h21, h2g, Ne.symm h1g, Ne.symm h2g]
      refine AW_way0 [(6, .loc g1 4 0 0), (7, .loc g2 4 0 0)] _ _ 4 (.bool (mOk s.js m)) ⟨rfl, by simp, Sub.refl _⟩ rfl ?_ ?_
      · simp [h1g, h12, h21, h2g, Ne.symm h1g, Ne.symm h2g, mOk, h1, h2, h3, h4, h5, h6]
        grind
      simp
      exact retRO [_] 0 rfl rfl (by simp [hg, hb1, hb2])

end Go.Proofs.YticmgmemnpcbbaaGreat.Vm

namespace Go.Proofs.YticmgmemnpcbbaaGreat.Vm
open Go Go.Proofs
set_option linter.unusedSimpArgs false
set_option linter.unusedVariables false

theorem IndexFunc_members_ro (a : List Mb) (f : FuncId) (cap : List V) (p : Mb → Bool) (ha : a.length ≤ 140737488351232) (hf : ∀ j, j ∈ a → RO Tryz.prog f (.agg j.c :: cap) (.bool (p j))) :
    RO Tryz.prog 168 [.sl (mv a), .fn f cap] (.int .i64 (ixf p a)) := by
  refine ro_of2 Tryz.func168 rfl rfl (by rw [Tryz.ntmps168]; simp) fun bl => ?_
  rw [Tryz.ntmps168, Tryz.results168]
  refine AW_run ?_
  simp
  refine AW_for (fun i : Nat => [(0, .sl (mv a)), (1, .fn f cap), (7, .int .i64 a.length), (8, .int .i64 i)]) (fun _ => bl) (fun i => i ≤ a.length ∧ ∀ j (h1 : j < a.length), j < i → p a[j] = false) (fun i => a.length - i) _ 0 ⟨Nat.zero_le _, fun j _ h0 => by omega⟩ ⟨rfl, by simp, Sub.refl _⟩ ?_
  intro i ⟨hi, hc⟩
  refine AW_run ?_
  simp
  refine ⟨fun h1 => ?_, fun h1 => ?_⟩
  · simp [h1]
    refine callP_ro (hf _ (List.getElem_mem h1)) ?_
    simp
    refine ⟨fun h2 => ?_, fun h2 => ?_⟩
    · exact retRO0 (by simp [ixf_here h1 hc h2]) rfl rfl
    · simp (disch := omega) [i64_in, loopQ_normal]
      refine ⟨i + 1, ⟨by omega, fun j hj1 hji => ?_⟩, by omega, rfl, by simp, Sub.refl _⟩
      rcases Nat.lt_or_ge j i with hlt | hge
      · exact hc j hj1 hlt
      · obtain rfl : j = i := by omega
        exact h2
  · exact retRO0 (by simp [ixf_none fun j hj => hc j hj (by omega)]) rfl rfl

theorem StructureOk1_ro (s : Str) (m : Mb) (hj : s.js.length ≤ 140737488351232) : RO Tryz.prog 90 [.agg m.c, .ptr s.c] (.bool (!mOk s.js m)) := by
  refine ro_of2 Tryz.func90 rfl rfl (by rw [Tryz.ntmps90]; simp) fun bl => ?_
  rw [Tryz.ntmps90, Tryz.results90]
  refine AW_run ?_
  simp [Mb.c]
  intro g hg0 hg
  refine callP_ro (memberOk_ro s m hj) ?_
  simp
  exact retRO [_] 0 rfl rfl (by simp [hg])

theorem ixf_lt {α : Type} (p : α → Bool) (xs : List α) : (decide (0 ≤ ixf p xs)) = xs.any p := by
  unfold ixf
  cases h : xs.findIdx? p with
  | none =>
    rw [List.findIdx?_eq_none_iff] at h
    have : xs.any p = false := by rw [List.any_eq_false]; intro x hx; simp [h x hx]
    simp [this]
  | some i =>
    rw [List.findIdx?_eq_some_iff_getElem] at h
    obtain ⟨h1, h2, _⟩ := h
    have : xs.any p = true := List.any_eq_true.2 ⟨xs[i], List.getElem_mem h1, h2⟩
    rw [this]; simp

theorem ContainsFunc_members_ro (a : List Mb) (f : FuncId) (cap : List V) (p : Mb → Bool) (ha : a.length ≤ 140737488351232) (hf : ∀ j, j ∈ a → RO Tryz.prog f (.agg j.c :: cap) (.bool (p j))) :
    RO Tryz.prog 89 [.sl (mv a), .fn f cap] (.bool (a.any p)) := by
  refine ro_of2 Tryz.func89 rfl rfl (by rw [Tryz.ntmps89]; simp) fun bl => ?_
  rw [Tryz.ntmps89, Tryz.results89]
  refine AW_run ?_
  simp
  refine callP_ro (IndexFunc_members_ro a f cap p ha hf) ?_
  simp
  exact retRO0 (by simp [ixf_lt]) rfl rfl

/-- The joint at i is valid and the first of its name. -/
def jOk (js : List J) (i : Nat) : Bool := if h : i < js.length then js[i].ok && decide (ixf (fun j => decide (j.name = js[i].name)) js = i) else false
theorem sOk_eq (s : Str) : sOk s = (decide (s.js.length ≤ 6) && decide (s.ms.length ≤ 8) && decide (∀ i, i < s.js.length → jOk s.js i = true) && s.ms.all (mOk s.js)) := by
  unfold sOk
  congr 2
  rw [Bool.eq_iff_iff]
  simp only [decide_eq_true_eq]
  constructor
  · intro h i hi; simp only [jOk, dif_pos hi, Bool.and_eq_true, decide_eq_true_eq]; exact h i hi
  · intro h i hi; have := h i hi; simp only [jOk, dif_pos hi, Bool.and_eq_true, decide_eq_true_eq] at this; exact this

theorem impl_StructureOk_ro (s : Str) (hj : s.js.length ≤ 140737488351232) (hm : s.ms.length ≤ 140737488351232) (hn : ∀ j, j ∈ s.js → j.name.size ≤ 140737488351232) : RO Tryz.prog 24 [.agg s.c] (.bool (sOk s)) := by
  refine ro_of2 Tryz.func24 rfl rfl (by rw [Tryz.ntmps24]; simp) fun bl => ?_
  rw [Tryz.ntmps24, Tryz.results24]
  refine AW_run ?_
  simp [Str.c]
  intro g hg0 hg
  refine AW_way [(1, .loc g 2 0 0)] _ (upd bl g (some ⟨2, [s.c]⟩)) 14 (.bool (! (decide (s.js.length ≤ 6) && decide (s.ms.length ≤ 8)))) (upd bl g (some ⟨2, [s.c]⟩)) ⟨rfl, by simp, sub_eq (by simp [Str.c])⟩ rfl ?_ ?_
  · simp [Str.c]
    refine ⟨fun h => .inl (by omega), fun h => ?_⟩
    rw [Bool.eq_iff_iff]; simp; omega
  simp [Str.c]
  refine ⟨fun h => ?_, fun hl1 hl2 => ?_⟩
  · refine retRO [_] 0 rfl ?_ (by simp [hg])
    simp [frz, sOk_eq]; omega
  refine AW_for (fun i : Nat => [(1, .loc g 2 0 0), (16, .sl (jv s.js)), (17, .int .i64 s.js.length), (18, .int .i64 i)]) (fun _ => upd bl g (some ⟨2, [s.c]⟩)) (fun i => i ≤ s.js.length ∧ ∀ j, j < i → jOk s.js j = true) (fun i => s.js.length - i) _ 0 ⟨Nat.zero_le _, fun j h0 => by omega⟩ ⟨rfl, by simp, sub_eq (by simp [Str.c])⟩ ?_
  intro i ⟨hi, hc⟩
  refine AW_run ?_
  simp
  refine ⟨fun h1 => ?_, fun h1 => ?_⟩
  · simp [h1, J.c]
    intro g2 hg2 h2g hb2
    refine AW_way [(1, .loc g 2 0 0), (3, .int .i64 i), (4, .loc g2 4 0 0), (16, .sl (jv s.js)), (17, .int .i64 s.js.length), (18, .int .i64 i)] _ (upd (upd bl g (some ⟨2, [s.c]⟩)) g2 (some ⟨4, [s.js[i].c]⟩)) 33 (.bool (!jOk s.js i)) (upd (upd bl g (some ⟨2, [s.c]⟩)) g2 (some ⟨4, [s.js[i].c]⟩)) ⟨rfl, by simp, sub_eq (by simp [J.c])⟩ rfl ?_ ?_
    · simp [J.c, h2g, Ne.symm h2g]
      refine callP_ro (impl_JointOk_ro s.js[i] (hn _ (List.getElem_mem h1))) ?_
      simp [h2g, Ne.symm h2g, Str.c]
      refine ⟨fun h => by simp [jOk, h1, h], fun h => ?_⟩
      refine callP_ro (impl_JointNamed_ro s _ hj) ?_
      simp [jOk, h1, h]
      rw [Bool.eq_iff_iff]; simp
    simp
    refine ⟨fun h3 => ?_, fun h3 => ?_⟩
    · refine retRO [_] 0 rfl ?_ (by simp [hg, hb2])
      have : ¬ ∀ i, i < s.js.length → jOk s.js i = true := fun hh => by rw [hh i h1] at h3; cases h3
      simp [frz, sOk_eq, this]
    · simp (disch := omega) [i64_in, loopQ_normal]
      refine ⟨i + 1, ⟨by omega, fun j hji => ?_⟩, by omega, rfl, by simp, by simp [h2g, hb2, hg]⟩
      rcases Nat.lt_or_ge j i with hlt | hge
      · exact hc j hlt
      · obtain rfl : j = i := by omega
        exact h3
  · have hall : ∀ i, i < s.js.length → jOk s.js i = true := fun j hj => hc j (by omega)
    simp [Str.c]
    refine callP_borrow 2 (ys := [.sl (mv s.ms), .fn 90 [.ptr s.c]]) ?_ (ContainsFunc_members_ro s.ms _ _ (fun m => !mOk s.js m) hm fun m _ => StructureOk1_ro s m hj) rfl ?_
    · simp [frz, dropB, V.cl, Str.c]
    simp
    have hd : decide (∀ i, i < s.js.length → jOk s.js i = true) = true := decide_eq_true hall
    have hs : sOk s = !s.ms.any fun m => !mOk s.js m := by
      rw [sOk_eq]
      simp only [hl1, hl2, hd, decide_true, Bool.true_and]
      rw [Bool.eq_iff_iff]; simp
    exact retRO [_] 0 rfl (by rw [hs]; rfl) (by simp [hg])

end Go.Proofs.YticmgmemnpcbbaaGreat.Vm

namespace Go.Proofs.YticmgmemnpcbbaaGreat.Vm
open Go Go.Proofs
set_option linter.unusedSimpArgs false
set_option linter.unusedVariables false

theorem spec_StructureOk_ro (s : Str) (hj : s.js.length ≤ 140737488351232) (hm : s.ms.length ≤ 140737488351232) (hn : ∀ j, j ∈ s.js → j.name.size ≤ 140737488351232) : RO Tryz.prog 122 [.agg s.c] (.bool (sOk s)) := by
  refine ro_of2 Tryz.func122 rfl rfl (by rw [Tryz.ntmps122]; simp) fun bl => ?_
  rw [Tryz.ntmps122, Tryz.results122]
  refine AW_run ?_
  simp [Str.c]
  intro g hg0 hg
  refine AW_way [(1, .loc g 2 0 0)] _ (upd bl g (some ⟨2, [s.c]⟩)) 19 (.bool (! (decide (s.js.length ≤ 6) && decide (s.ms.length ≤ 8)))) (upd bl g (some ⟨2, [s.c]⟩)) ⟨rfl, by simp, sub_eq (by simp [Str.c])⟩ rfl ?_ ?_
  · simp [Str.c]
    refine ⟨fun h => .inl (by omega), fun h => ?_⟩
    rw [Bool.eq_iff_iff]; simp; omega
  simp [Str.c]
  refine ⟨fun h => ?_, fun hl1 hl2 => ?_⟩
  · refine retRO [_] 0 rfl ?_ (by simp [hg])
    simp [frz, sOk_eq]; omega
  refine AW_for (fun i : Nat => [(1, .loc g 2 0 0), (21, .sl (jv s.js)), (22, .int .i64 s.js.length), (23, .int .i64 i)]) (fun _ => upd bl g (some ⟨2, [s.c]⟩)) (fun i => i ≤ s.js.length ∧ ∀ j, j < i → jOk s.js j = true) (fun i => s.js.length - i) _ 0 ⟨Nat.zero_le _, fun j h0 => by omega⟩ ⟨rfl, by simp, sub_eq (by simp [Str.c])⟩ ?_
  intro i ⟨hi, hc⟩
  refine AW_run ?_
  simp
  refine ⟨fun h1 => ?_, fun h1 => ?_⟩
  · simp [h1, J.c]
    intro g2 hg2 h2g hb2
    refine AW_way [(1, .loc g 2 0 0), (3, .int .i64 i), (4, .loc g2 4 0 0), (21, .sl (jv s.js)), (22, .int .i64 s.js.length), (23, .int .i64 i)] _ (upd (upd bl g (some ⟨2, [s.c]⟩)) g2 (some ⟨4, [s.js[i].c]⟩)) 38 (.bool (!jOk s.js i)) (upd (upd bl g (some ⟨2, [s.c]⟩)) g2 (some ⟨4, [s.js[i].c]⟩)) ⟨rfl, by simp, sub_eq (by simp [J.c])⟩ rfl ?_ ?_
    · simp [J.c, h2g, Ne.symm h2g]
      refine callP_ro (spec_JointOk_ro s.js[i] (hn _ (List.getElem_mem h1))) ?_
      simp [h2g, Ne.symm h2g, Str.c]
      refine ⟨fun h => by simp [jOk, h1, h], fun h => ?_⟩
      refine callP_ro (spec_JointNamed_ro s _ hj) ?_
      simp [jOk, h1, h]
      rw [Bool.eq_iff_iff]; simp
    simp
    refine ⟨fun h3 => ?_, fun h3 => ?_⟩
    · refine retRO [_] 0 rfl ?_ (by simp [hg, hb2])
      have : ¬ ∀ i, i < s.js.length → jOk s.js i = true := fun hh => by rw [hh i h1] at h3; cases h3
      simp [frz, sOk_eq, this]
    · simp (disch := omega) [i64_in, loopQ_normal]
      refine ⟨i + 1, ⟨by omega, fun j hji => ?_⟩, by omega, rfl, by simp, by simp [h2g, hb2, hg]⟩
      rcases Nat.lt_or_ge j i with hlt | hge
      · exact hc j hlt
      · obtain rfl : j = i := by omega
        exact h3
  have hall : ∀ i, i < s.js.length → jOk s.js i = true := fun j hj => hc j (by omega)
  simp [Str.c]
  simp (disch := omega) [i64_in]
  have hd : decide (∀ i, i < s.js.length → jOk s.js i = true) = true := decide_eq_true hall
  have hs : sOk s = s.ms.all (mOk s.js) := by
    rw [sOk_eq]
    simp only [hl1, hl2, hd, decide_true, Bool.true_and]
  rw [hs]
  refine AW_for (fun i : Nat => [(1, .loc g 2 0 0), (5, .int .i64 (s.js.length - 1)), (45, .sl (mv s.ms)), (46, .int .i64 s.ms.length), (47, .int .i64 i)]) (fun _ => upd bl g (some ⟨2, [s.c]⟩)) (fun i => i ≤ s.ms.length ∧ ∀ j (h : j < s.ms.length), j < i → mOk s.js s.ms[j] = true) (fun i => s.ms.length - i) _ 0 ⟨Nat.zero_le _, fun j _ h0 => by omega⟩ ⟨rfl, by simp, sub_eq (by simp [Str.c])⟩ ?_
  clear hc hi h1
  intro k ⟨hk, hc⟩
  refine AW_run ?_
  simp
  refine ⟨fun h1 => ?_, fun h1 => ?_⟩
  · simp [h1, Mb.c]
    intro g2 hg2 h2g hb2
    refine AW_way [(1, .loc g 2 0 0), (5, .int .i64 (s.js.length - 1)), (7, .loc g2 3 0 0), (45, .sl (mv s.ms)), (46, .int .i64 s.ms.length), (47, .int .i64 k)] _ (upd (upd bl g (some ⟨2, [s.c]⟩)) g2 (some ⟨3, [s.ms[k].c]⟩)) 68
      (.bool (! ((decide (0 ≤ s.ms[k].a) && decide (s.ms[k].a < s.js.length)) && (decide (0 ≤ s.ms[k].b) && decide (s.ms[k].b < s.js.length)) && (decide (1 ≤ s.ms[k].kind) && decide (s.ms[k].kind ≤ 3))))) (upd (upd bl g (some ⟨2, [s.c]⟩)) g2 (some ⟨3, [s.ms[k].c]⟩)) ⟨rfl, by simp, sub_eq (by simp [Mb.c])⟩ rfl ?_ ?_
    · simp [Mb.c, h2g, Ne.symm h2g]
      refine callP_ro (l01In_ro _ _ _) ?_
      simp [h2g, Ne.symm h2g]
      refine ⟨fun h => by omega, fun h2 h3 => ?_⟩
      refine callP_ro (l01In_ro _ _ _) ?_
      simp [h2g, Ne.symm h2g]
      refine ⟨fun h => by omega, fun h4 h5 => ?_⟩
      refine callP_ro (l01In_ro _ _ _) ?_
      simp
      omega
    simp
    refine ⟨fun h => ?_, fun h2 h3 h4 h5 h6 h7 => ?_⟩
    · refine retRO [_] 0 rfl ?_ (by simp [hg, hb2])
      have h0 : mOk s.js s.ms[k] = false := by
        simp [mOk]
        intro a1 a2 a3 a4 a5 a6
        omega
      have : s.ms.all (mOk s.js) = false := by
        rw [Bool.eq_false_iff]; intro hh
        rw [List.all_eq_true.1 hh _ (List.getElem_mem h1)] at h0; cases h0
      rw [this]; rfl
    simp [h2g, Ne.symm h2g, Str.c, Mb.c, h2, h4, jv_at h2 h3, jv_at h4 h5, J.c]
    intro g3 hg3 h32 h3g hb3
    simp [h2g, Ne.symm h2g, h32, h3g, Ne.symm h32, Ne.symm h3g, Str.c, Mb.c, h2, h4, jv_at h2 h3, jv_at h4 h5, J.c]
    intro g4 hg4 h43 h42 h4g hb4
    try simp [h2g, Ne.symm h2g, h32, h3g, Ne.symm h32, Ne.symm h3g, h43, h42, h4g, Ne.symm h43, Ne.symm h42, Ne.symm h4g]
    refine AW_way0 [(1, .loc g 2 0 0), (5, .int .i64 (s.js.length - 1)), (8, .loc g3 4 0 0), (9, .loc g4 4 0 0), (45, .sl (mv s.ms)), (46, .int .i64 s.ms.length), (47, .int .i64 k)] _ _ 100 (.bool (!mOk s.js s.ms[k])) ⟨rfl, by simp, Sub.refl _⟩ rfl ?_ ?_
    · simp [h2g, Ne.symm h2g, h32, h3g, Ne.symm h32, Ne.symm h3g, h43, h42, h4g, Ne.symm h43, Ne.symm h42, Ne.symm h4g, mOk, h2, h3, h4, h5, h6, h7]
      grind
    simp
    refine ⟨fun h8 => ?_, fun h8 => ?_⟩
    · refine retRO [_] 0 rfl ?_ (by simp [hg, hb2, hb3, hb4])
      have : s.ms.all (mOk s.js) = false := by
        rw [Bool.eq_false_iff]; intro hh
        rw [List.all_eq_true.1 hh _ (List.getElem_mem h1)] at h8; cases h8
      rw [this]; rfl
    · simp (disch := omega) [i64_in, loopQ_normal]
      refine ⟨k + 1, ⟨by omega, fun j hj1 hji => ?_⟩, by omega, rfl, by simp, by simp [h2g, h3g, h4g, hb2, hb3, hb4, hg, Str.c]⟩
      rcases Nat.lt_or_ge j k with hlt | hge
      · exact hc j hj1 hlt
      · obtain rfl : j = k := by omega
        exact h8
  · refine retRO [_] 0 rfl ?_ (by simp [hg])
    have : s.ms.all (mOk s.js) = true := List.all_eq_true.2 fun m hm => by
      obtain ⟨j, hj, rfl⟩ := List.mem_iff_getElem.1 hm
      exact hc j hj (by omega)
    rw [this]; rfl

end Go.Proofs.YticmgmemnpcbbaaGreat.Vm

namespace Go.Proofs.YticmgmemnpcbbaaGreat.Vm
open Go Go.Proofs
set_option linter.unusedSimpArgs false
set_option linter.unusedVariables false

end Go.Proofs.YticmgmemnpcbbaaGreat.Vm

namespace Go.Proofs.YticmgmemnpcbbaaGreat.Vm
open Go Go.Proofs
set_option linter.unusedSimpArgs false
set_option linter.unusedVariables false

theorem IndexFunc_ints_ro (a : List Int) (f : FuncId) (cap : List V) (p : Int → Bool) (ha : a.length ≤ 140737488351232) (hf : ∀ j, j ∈ a → RO Tryz.prog f (V.int .i64 j :: cap) (.bool (p j))) :
    RO Tryz.prog 225 [.sl (iv a), .fn f cap] (.int .i64 (ixf p a)) := by
  refine ro_of2 Tryz.func225 rfl rfl (by rw [Tryz.ntmps225]; simp) fun bl => ?_
  rw [Tryz.ntmps225, Tryz.results225]
  refine AW_run ?_
  simp
  refine AW_for (fun i : Nat => [(0, .sl (iv a)), (1, .fn f cap), (7, .int .i64 a.length), (8, .int .i64 i)]) (fun _ => bl) (fun i => i ≤ a.length ∧ ∀ j (h1 : j < a.length), j < i → p a[j] = false) (fun i => a.length - i) _ 0 ⟨Nat.zero_le _, fun j _ h0 => by omega⟩ ⟨rfl, by simp, Sub.refl _⟩ ?_
  intro i ⟨hi, hc⟩
  refine AW_run ?_
  simp
  refine ⟨fun h1 => ?_, fun h1 => ?_⟩
  · simp [h1]
    refine callP_ro (hf _ (List.getElem_mem h1)) ?_
    simp
    refine ⟨fun h2 => ?_, fun h2 => ?_⟩
    · exact retRO0 (by simp [ixf_here h1 hc h2]) rfl rfl
    · simp (disch := omega) [i64_in, loopQ_normal]
      refine ⟨i + 1, ⟨by omega, fun j hj1 hji => ?_⟩, by omega, rfl, by simp, Sub.refl _⟩
      rcases Nat.lt_or_ge j i with hlt | hge
      · exact hc j hj1 hlt
      · obtain rfl : j = i := by omega
        exact h2
  · exact retRO0 (by simp [ixf_none fun j hj => hc j hj (by omega)]) rfl rfl

theorem ContainsFunc_ints_ro (a : List Int) (f : FuncId) (cap : List V) (p : Int → Bool) (ha : a.length ≤ 140737488351232) (hf : ∀ j, j ∈ a → RO Tryz.prog f (V.int .i64 j :: cap) (.bool (p j))) :
    RO Tryz.prog 154 [.sl (iv a), .fn f cap] (.bool (a.any p)) := by
  refine ro_of2 Tryz.func154 rfl rfl (by rw [Tryz.ntmps154]; simp) fun bl => ?_
  rw [Tryz.ntmps154, Tryz.results154]
  refine AW_run ?_
  simp
  refine callP_ro (IndexFunc_ints_ro a f cap p ha hf) ?_
  simp
  exact retRO0 (by simp [ixf_lt]) rfl rfl

def forceOk (n : Int) : Bool := decide (-100 ≤ n) && decide (n ≤ 100)
def fitsL (js : List J) (l : List Int) : Bool := decide (l.length = 2 * js.length) && l.all forceOk
def lOk (s : Str) (l : List Int) : Bool := sOk s && fitsL s.js l

theorem isForce_ro (n : Int) : RO Tryz.prog 156 [.int .i64 n] (.bool (forceOk n)) := by
  refine ro_of2 Tryz.func156 rfl rfl (by rw [Tryz.ntmps156]; simp) fun bl => ?_
  rw [Tryz.ntmps156, Tryz.results156]
  refine AW_run ?_
  simp
  refine AW_way [(0, .int .i64 n)] _ bl 2 (.bool (forceOk n)) bl ⟨rfl, by simp, Sub.refl _⟩ rfl ?_ ?_
  · simp [forceOk]; grind
  simp
  exact retRO0 (by simp) rfl rfl

theorem fitsLoad1_ro (n : Int) : RO Tryz.prog 155 [.int .i64 n] (.bool (!forceOk n)) := by
  refine ro_of2 Tryz.func155 rfl rfl (by rw [Tryz.ntmps155]; simp) fun bl => ?_
  rw [Tryz.ntmps155, Tryz.results155]
  refine AW_run ?_
  simp
  refine callP_ro (isForce_ro n) ?_
  simp
  exact retRO0 (by simp) rfl rfl

theorem fitsLoad_ro (s : Str) (l : List Int) (hj : s.js.length ≤ 140737488351232) (hl : l.length ≤ 140737488351232) : RO Tryz.prog 79 [.ptr s.c, .sl (iv l)] (.bool (fitsL s.js l)) := by
  refine ro_of2 Tryz.func79 rfl rfl (by rw [Tryz.ntmps79]; simp) fun bl => ?_
  rw [Tryz.ntmps79, Tryz.results79]
  refine AW_run ?_
  simp
  refine AW_way [(0, .ptr s.c), (1, .sl (iv l))] _ bl 4 (.bool (fitsL s.js l)) bl ⟨rfl, by simp, Sub.refl _⟩ rfl ?_ ?_
  · simp [Str.c]
    simp (disch := omega) [i64_in]
    refine ⟨fun h => ?_, fun h => ?_⟩
    · refine callP_ro (ContainsFunc_ints_ro l _ [] (fun n => !forceOk n) hl fun n _ => fitsLoad1_ro n) ?_
      simp
      have : l.length = 2 * s.js.length := by omega
      simp [fitsL, this]
      rw [Bool.eq_iff_iff]; simp
    · have : ¬ l.length = 2 * s.js.length := by omega
      simp [fitsL, this]
  simp
  exact retRO0 (by simp) rfl rfl

theorem impl_LoadOk_ro (s : Str) (l : List Int) (hj : s.js.length ≤ 140737488351232) (hm : s.ms.length ≤ 140737488351232) (hn : ∀ j, j ∈ s.js → j.name.size ≤ 140737488351232) (hl : l.length ≤ 140737488351232) : RO Tryz.prog 23 [.agg s.c, .sl (iv l)] (.bool (lOk s l)) := by
  refine ro_of2 Tryz.func23 rfl rfl (by rw [Tryz.ntmps23]; simp) fun bl => ?_
  rw [Tryz.ntmps23, Tryz.results23]
  refine AW_run ?_
  simp [Str.c]
  intro g hg0 hg
  refine AW_way0 [(1, .sl (iv l)), (2, .loc g 2 0 0)] _ _ 4 (.bool (lOk s l)) ⟨rfl, by simp, Sub.refl _⟩ rfl ?_ ?_
  · simp
    refine callP_ro (impl_StructureOk_ro s hj hm hn) ?_
    simp
    refine ⟨fun h => ?_, fun h => ?_⟩
    · refine callP_borrow 2 (ys := [.ptr s.c, .sl (iv l)]) ?_ (fitsLoad_ro s l hj hl) rfl ?_
      · simp [frz, dropB, V.cl, Str.c]
      simp [lOk, h]
    · simp [lOk, h]
  simp
  exact retRO [_] 0 rfl rfl (by simp [hg])

theorem spec_LoadOk_ro (s : Str) (l : List Int) (hj : s.js.length ≤ 140737488351232) (hm : s.ms.length ≤ 140737488351232) (hn : ∀ j, j ∈ s.js → j.name.size ≤ 140737488351232) (hl : l.length ≤ 140737488351232) : RO Tryz.prog 115 [.agg s.c, .sl (iv l)] (.bool (lOk s l)) := by
  refine ro_of2 Tryz.func115 rfl rfl (by rw [Tryz.ntmps115]; simp) fun bl => ?_
  rw [Tryz.ntmps115, Tryz.results115]
  refine AW_run ?_
  simp [Str.c]
  intro g hg0 hg
  refine AW_way [(1, .sl (iv l)), (2, .loc g 2 0 0)] _ (upd bl g (some ⟨2, [s.c]⟩)) 18 (.bool (!(sOk s && decide (l.length = 2 * s.js.length)))) (upd bl g (some ⟨2, [s.c]⟩)) ⟨rfl, by simp, sub_eq (by simp [Str.c])⟩ rfl ?_ ?_
  · simp [Str.c]
    refine callP_ro (spec_StructureOk_ro s hj hm hn) ?_
    simp
    refine ⟨fun h => by simp [h], fun h => ?_⟩
    simp (disch := omega) [i64_in, h]
    rw [Bool.eq_iff_iff]; simp; omega
  simp [Str.c]
  refine ⟨fun h => ?_, fun h1 h2 => ?_⟩
  · refine retRO [_] 0 rfl ?_ (by simp [hg])
    simp [frz, lOk, fitsL]
    intro a b
    rcases h with h | h
    · rw [h] at a; cases a
    · exact absurd b h
  have hs : lOk s l = l.all forceOk := by simp [lOk, fitsL, h1, h2]
  rw [hs]
  refine AW_for (fun i : Nat => [(19, .sl (iv l)), (20, .int .i64 l.length), (21, .int .i64 i)]) (fun _ => bl) (fun i => i ≤ l.length ∧ ∀ j (h : j < l.length), j < i → forceOk l[j] = true) (fun i => l.length - i) _ 0 ⟨Nat.zero_le _, fun j _ h0 => by omega⟩ ⟨rfl, by simp, by simp [hg]⟩ ?_
  intro i ⟨hi, hc⟩
  refine AW_run ?_
  simp
  refine ⟨fun h3 => ?_, fun h3 => ?_⟩
  · simp [h3]
    refine callP_ro (l01In_ro _ _ _) ?_
    simp
    refine ⟨fun h => ?_, fun h4 h5 => ?_⟩
    · have h0 : forceOk l[i] = false := by
        simp [forceOk]; omega
      have : l.all forceOk = false := by
        rw [Bool.eq_false_iff]; intro hh
        rw [List.all_eq_true.1 hh _ (List.getElem_mem h3)] at h0; cases h0
      exact retRO [_] 0 rfl (by rw [this]; rfl) (Sub.refl _)
    · simp (disch := omega) [i64_in, loopQ_normal]
      refine ⟨i + 1, ⟨by omega, fun j hj1 hji => ?_⟩, by omega, rfl, by simp, Sub.refl _⟩
      rcases Nat.lt_or_ge j i with hlt | hge
      · exact hc j hj1 hlt
      · obtain rfl : j = i := by omega
        simp [forceOk, h4, h5]
  · have : l.all forceOk = true := List.all_eq_true.2 fun m hm => by
      obtain ⟨j, hj, rfl⟩ := List.mem_iff_getElem.1 hm
      exact hc j hj (by omega)
    exact retRO [_] 0 rfl (by rw [this]; rfl) (Sub.refl _)

end Go.Proofs.YticmgmemnpcbbaaGreat.Vm

namespace Go.Proofs.YticmgmemnpcbbaaGreat.Vm
open Go Go.Proofs
set_option linter.unusedSimpArgs false
set_option linter.unusedVariables false

/-- What a valid structure is known for. -/
structure SOk (s : Str) : Prop where
  nj : s.js.length ≤ 6
  nm : s.ms.length ≤ 8
  pl : ∀ i, i < s.js.length → (-50 ≤ (s.js.getD i default).x ∧ (s.js.getD i default).x ≤ 50) ∧ (-50 ≤ (s.js.getD i default).y ∧ (s.js.getD i default).y ≤ 50)
  ix : ∀ m, m ∈ s.ms → (0 ≤ m.a ∧ m.a < s.js.length) ∧ (0 ≤ m.b ∧ m.b < s.js.length)
  kd : ∀ m, m ∈ s.ms → 1 ≤ m.kind ∧ m.kind ≤ 3

theorem sOk_of {s : Str} (h : sOk s = true) : SOk s := by
  unfold sOk at h
  simp only [Bool.and_eq_true, decide_eq_true_eq] at h
  obtain ⟨⟨⟨h1, h2⟩, h3⟩, h4⟩ := h
  refine ⟨h1, h2, fun i hi => ?_, fun m hm => ?_, fun m hm => ?_⟩
  · have := (h3 i hi).1
    simp [J.ok] at this
    simp [hi]
    omega
  · have := List.all_eq_true.1 h4 m hm
    simp [mOk] at this
    omega
  · have := List.all_eq_true.1 h4 m hm
    simp [mOk] at this
    omega

theorem SOk.at {s : Str} (h : SOk s) {n : Int} (h0 : 0 ≤ n) (h1 : n < s.js.length) : (-50 ≤ (jat s.js n).x ∧ (jat s.js n).x ≤ 50) ∧ (-50 ≤ (jat s.js n).y ∧ (jat s.js n).y ≤ 50) := h.pl n.toNat (by omega)

instance : Inhabited Mb := ⟨⟨0, 0, 0⟩⟩
/-- From joint A to joint B of a member. -/
def vx (s : Str) (m : Mb) : Int := (jat s.js m.b).x - (jat s.js m.a).x
def vy (s : Str) (m : Mb) : Int := (jat s.js m.b).y - (jat s.js m.a).y
def mat (s : Str) (k : Int) : Mb := s.ms.getD k.toNat default
theorem mat_mem {s : Str} {k : Int} (h0 : 0 ≤ k) (h1 : k < s.ms.length) : mat s k ∈ s.ms := by
  have : k.toNat < s.ms.length := by omega
  simp [mat, this]
theorem mv_at {s : Str} {k : Int} (h0 : 0 ≤ k) (h1 : k < s.ms.length) : (mv s.ms)[k.toNat]? = some (mat s k).c := by
  have : k.toNat < s.ms.length := by omega
  simp [mv, mat, this]

theorem l12Vector_ro (s : Str) (k : Int) (hs : SOk s) (h0 : 0 ≤ k) (h1 : k < s.ms.length) : RO Tryz.prog 251 [.agg s.c, .int .i64 k] (.tup [.int .i64 (vx s (mat s k)), .int .i64 (vy s (mat s k))]) := by
  obtain ⟨⟨a1, a2⟩, ⟨b1, b2⟩⟩ := hs.ix _ (mat_mem h0 h1)
  have ca := hs.at a1 a2
  have cb := hs.at b1 b2
  refine ro_of2 Tryz.func251 rfl rfl (by rw [Tryz.ntmps251]; simp) fun bl => ?_
  rw [Tryz.ntmps251, Tryz.results251]
  refine AW_run ?_
  simp [Str.c]
  intro g hg0 hg
  refine AW_mixed mixedO [0, 1, 2, 3, 4, 5, 6, 7, 8, 9] 2 (by kernel_rfl) ?_
  simp [Str.c, h0, mv_at h0 h1, Mb.c, a1, jv_at a1 a2, J.c]
  refine DAny_one (i := 10) (by kernel_rfl) rfl rfl ?_
  simp
  intro g1 hg1 h1g hb1
  refine ⟨by simp [hg, hb1, h1g], DAny_one (i := 11) (by kernel_rfl) rfl rfl ?_⟩
  simp [h1g, Ne.symm h1g]
  refine ⟨by simp [hg, hb1, h1g], DAny_done (by kernel_rfl) ?_⟩
  simp [h1g, Ne.symm h1g]
  refine AW_mixed mixedO [0, 1, 2, 3, 4, 5, 6, 7, 8, 9] 2 (by kernel_rfl) ?_
  simp [Str.c, h0, mv_at h0 h1, Mb.c, b1, jv_at b1 b2, J.c, h1g, Ne.symm h1g]
  refine DAny_one (i := 10) (by kernel_rfl) rfl rfl ?_
  simp
  intro g2 hg2 h2g h21 hb2
  refine ⟨by simp [hg, hb1, h1g, hb2, h2g, h21], DAny_one (i := 11) (by kernel_rfl) rfl rfl ?_⟩
  simp [h1g, Ne.symm h1g, h2g, h21, Ne.symm h2g, Ne.symm h21]
  refine ⟨by simp [hg, hb1, h1g, hb2, h2g, h21], DAny_done (by kernel_rfl) ?_⟩
  simp [h1g, Ne.symm h1g, h2g, h21, Ne.symm h2g, Ne.symm h21]
  refine AW_quiet mixedO (by kernel_rfl) ?_
  simp [h1g, Ne.symm h1g, h2g, h21, Ne.symm h2g, Ne.symm h21]
  simp (disch := omega) [i64_in]
  exact retRO [_, _] 1 rfl rfl (by simp [hg, hb1, hb2])

theorem vector_ro (s : Str) (k : Int) (hs : SOk s) (h0 : 0 ≤ k) (h1 : k < s.ms.length) : RO Tryz.prog 157 [.ptr s.c, .int .i64 k] (.tup [.int .i64 (vx s (mat s k)), .int .i64 (vy s (mat s k))]) := by
  obtain ⟨⟨a1, a2⟩, ⟨b1, b2⟩⟩ := hs.ix _ (mat_mem h0 h1)
  have ca := hs.at a1 a2
  have cb := hs.at b1 b2
  refine ro_of2 Tryz.func157 rfl rfl (by rw [Tryz.ntmps157]; simp) fun bl => ?_
  rw [Tryz.ntmps157, Tryz.results157]
  refine AW_run ?_
  simp [Str.c, h0, mv_at h0 h1, Mb.c]
  intro g hg0 hg
  refine AW_quiet mixedO (by kernel_rfl) ?_
  simp [a1, b1, jv_at a1 a2, jv_at b1 b2, J.c]
  simp (disch := omega) [i64_in]
  exact retRO [_, _] 1 rfl rfl (by simp [hg])

def vecX (s : Str) (k : Int) : Int := if (decide (0 ≤ k) && decide (k < s.ms.length) && sOk s) = true then vx s (mat s k) else 0
def vecY (s : Str) (k : Int) : Int := if (decide (0 ≤ k) && decide (k < s.ms.length) && sOk s) = true then vy s (mat s k) else 0

/-- What a member adds to the force on joint j. -/
def eqX (s : Str) (j : Int) (m : Mb) : Int := if j = m.a then vx s m else if j = m.b then -vx s m else 0
def eqY (s : Str) (j : Int) (m : Mb) : Int := if j = m.a then vy s m else if j = m.b then -vy s m else 0

end Go.Proofs.YticmgmemnpcbbaaGreat.Vm

namespace Go.Proofs.YticmgmemnpcbbaaGreat.Vm
open Go Go.RowKit
set_option linter.unusedSimpArgs false
set_option linter.unusedVariables false

/-- Data of the call's own: a cell, a slice, a place, a struct, several results. -/
inductive D where
  | c (x : V)
  | s (sz : Nat) (rows : List (List D))
  | p (row : List D)
  | a (cs : List D)
  | t (cs : List D)
  deriving Inhabited

mutual
def OwnD (bl : Int → Option Blk) : D → V → List Int → Prop
  | .c x, v, gs => v = x ∧ x.cl = true ∧ gs = []
  | .s sz rows, v, gs => (rows = [] ∧ v = .nils ∧ gs = []) ∨ ∃ g els gs', v = .lsl g sz 0 rows.length ∧ gs = g :: gs' ∧ g ∉ gs' ∧ bl g = some ⟨sz, els⟩ ∧ (g < 0 → els = []) ∧ OwnR bl sz rows els gs'
  | .p row, v, gs => ∃ g e gs', v = .loc g row.length 0 0 ∧ gs = g :: gs' ∧ g ∉ gs' ∧ 0 ≤ g ∧ bl g = some ⟨row.length, [e]⟩ ∧ OwnL bl row e gs'
  | .a cs, v, gs => ∃ vs, v = .agg vs ∧ OwnL bl cs vs gs
  | .t cs, v, gs => ∃ vs, v = .tup vs ∧ OwnL bl cs vs gs
def OwnL (bl : Int → Option Blk) : List D → List V → List Int → Prop
  | [], vs, gs => vs = [] ∧ gs = []
  | d :: ds, vs, gs => ∃ v vs' g1 g2, vs = v :: vs' ∧ gs = g1 ++ g2 ∧ (∀ g, g ∈ g1 → g ∉ g2) ∧ OwnD bl d v g1 ∧ OwnL bl ds vs' g2
def OwnR (bl : Int → Option Blk) (sz : Nat) : List (List D) → List (List V) → List Int → Prop
  | [], els, gs => els = [] ∧ gs = []
  | r :: rs, els, gs => ∃ e els' g1 g2, els = e :: els' ∧ gs = g1 ++ g2 ∧ (∀ g, g ∈ g1 → g ∉ g2) ∧ e.length = sz ∧ (e.all V.one = true) ∧ OwnL bl r e g1 ∧ OwnR bl sz rs els' g2
end

mutual
def D.fz : D → V
  | .c x => x
  | .s _ rows => .sl (D.fzR rows)
  | .p row => .ptr (D.fzL row)
  | .a cs => .agg (D.fzL cs)
  | .t cs => .tup (D.fzL cs)
def D.fzL : List D → List V
  | [] => []
  | d :: ds => d.fz :: D.fzL ds
def D.fzR : List (List D) → List (List V)
  | [] => []
  | r :: rs => D.fzL r :: D.fzR rs
end
theorem fzL_map : ∀ (ds : List D), D.fzL ds = ds.map D.fz
  | [] => by simp [D.fzL]
  | d :: ds => by simp [D.fzL, fzL_map ds]
theorem fzR_map : ∀ (rs : List (List D)), D.fzR rs = rs.map fun r => r.map D.fz
  | [] => by simp [D.fzR]
  | r :: rs => by simp [D.fzR, fzR_map rs, fzL_map]

/-! ### Only the blocks named matter -/
mutual
theorem OwnD.frame {bl bl' : Int → Option Blk} : ∀ {d : D} {v : V} {gs : List Int}, OwnD bl d v gs → (∀ g, g ∈ gs → bl' g = bl g) → OwnD bl' d v gs
  | .c x, v, gs, h, _ => by rw [OwnD] at h ⊢; exact h
  | .s sz rows, v, gs, h, hg => by
    rw [OwnD] at h ⊢
    rcases h with h | ⟨g, els, gs', h1, h2, h3, h4, h5, h6⟩
    · exact .inl h
    · subst h2
      exact .inr ⟨g, els, gs', h1, rfl, h3, by rw [hg g (by simp)]; exact h4, h5, OwnR.frame h6 fun g' hg' => hg g' (by simp [hg'])⟩
  | .p row, v, gs, h, hg => by
    rw [OwnD] at h ⊢
    obtain ⟨g, e, gs', h1, h2, h3, h0, h4, h5⟩ := h
    subst h2
    exact ⟨g, e, gs', h1, rfl, h3, h0, by rw [hg g (by simp)]; exact h4, OwnL.frame h5 fun g' hg' => hg g' (by simp [hg'])⟩
  | .a cs, v, gs, h, hg => by
    rw [OwnD] at h ⊢
    obtain ⟨vs, h1, h2⟩ := h
    exact ⟨vs, h1, OwnL.frame h2 hg⟩
  | .t cs, v, gs, h, hg => by
    rw [OwnD] at h ⊢
    obtain ⟨vs, h1, h2⟩ := h
    exact ⟨vs, h1, OwnL.frame h2 hg⟩
theorem OwnL.frame {bl bl' : Int → Option Blk} : ∀ {ds : List D} {vs : List V} {gs : List Int}, OwnL bl ds vs gs → (∀ g, g ∈ gs → bl' g = bl g) → OwnL bl' ds vs gs
  | [], vs, gs, h, _ => by rw [OwnL] at h ⊢; exact h
  | d :: ds, vs, gs, h, hg => by
    rw [OwnL] at h ⊢
    obtain ⟨v, vs', g1, g2, h1, h2, h3, h4, h5⟩ := h
    subst h2
    exact ⟨v, vs', g1, g2, h1, rfl, h3, OwnD.frame h4 fun g hgg => hg g (by simp [hgg]), OwnL.frame h5 fun g hgg => hg g (by simp [hgg])⟩
theorem OwnR.frame {bl bl' : Int → Option Blk} {sz : Nat} : ∀ {rs : List (List D)} {els : List (List V)} {gs : List Int}, OwnR bl sz rs els gs → (∀ g, g ∈ gs → bl' g = bl g) → OwnR bl' sz rs els gs
  | [], vs, gs, h, _ => by rw [OwnR] at h ⊢; exact h
  | r :: rs, els, gs, h, hg => by
    rw [OwnR] at h ⊢
    obtain ⟨e, els', g1, g2, h1, h2, h3, h4, h4', h5, h6⟩ := h
    subst h2
    exact ⟨e, els', g1, g2, h1, rfl, h3, h4, h4', OwnL.frame h5 fun g hgg => hg g (by simp [hgg]), OwnR.frame h6 fun g hgg => hg g (by simp [hgg])⟩
end

mutual
theorem OwnD.has {bl : Int → Option Blk} : ∀ {d : D} {v : V} {gs : List Int}, OwnD bl d v gs → ∀ g, g ∈ gs → ∃ b, bl g = some b
  | .c x, v, gs, h, g, hg => by rw [OwnD] at h; rw [h.2.2] at hg; cases hg
  | .s sz rows, v, gs, h, g, hg => by
    rw [OwnD] at h
    rcases h with ⟨_, _, h⟩ | ⟨g0, els, gs', h1, h2, h3, h4, h5, h6⟩
    · rw [h] at hg; cases hg
    · subst h2
      rcases List.mem_cons.1 hg with rfl | hg
      · exact ⟨_, h4⟩
      · exact OwnR.has h6 g hg
  | .p row, v, gs, h, g, hg => by
    rw [OwnD] at h
    obtain ⟨g0, e, gs', h1, h2, h3, h0, h4, h5⟩ := h
    subst h2
    rcases List.mem_cons.1 hg with rfl | hg
    · exact ⟨_, h4⟩
    · exact OwnL.has h5 g hg
  | .a cs, v, gs, h, g, hg => by
    rw [OwnD] at h
    obtain ⟨vs, h1, h2⟩ := h
    exact OwnL.has h2 g hg
  | .t cs, v, gs, h, g, hg => by
    rw [OwnD] at h
    obtain ⟨vs, h1, h2⟩ := h
    exact OwnL.has h2 g hg
theorem OwnL.has {bl : Int → Option Blk} : ∀ {ds : List D} {vs : List V} {gs : List Int}, OwnL bl ds vs gs → ∀ g, g ∈ gs → ∃ b, bl g = some b
  | [], vs, gs, h, g, hg => by rw [OwnL] at h; rw [h.2] at hg; cases hg
  | d :: ds, vs, gs, h, g, hg => by
    rw [OwnL] at h
    obtain ⟨v, vs', g1, g2, h1, h2, h3, h4, h5⟩ := h
    subst h2
    rcases List.mem_append.1 hg with hg | hg
    · exact OwnD.has h4 g hg
    · exact OwnL.has h5 g hg
theorem OwnR.has {bl : Int → Option Blk} {sz : Nat} : ∀ {rs : List (List D)} {els : List (List V)} {gs : List Int}, OwnR bl sz rs els gs → ∀ g, g ∈ gs → ∃ b, bl g = some b
  | [], vs, gs, h, g, hg => by rw [OwnR] at h; rw [h.2] at hg; cases hg
  | r :: rs, els, gs, h, g, hg => by
    rw [OwnR] at h
    obtain ⟨e, els', g1, g2, h1, h2, h3, h4, h4', h5, h6⟩ := h
    subst h2
    rcases List.mem_append.1 hg with hg | hg
    · exact OwnL.has h5 g hg
    · exact OwnR.has h6 g hg
end

theorem OwnD.sub {bl bl' : Int → Option Blk} {d : D} {v : V} {gs : List Int} (h : OwnD bl d v gs) (hs : Sub bl bl') : OwnD bl' d v gs := h.frame fun g hg => by
  obtain ⟨b, hb⟩ := h.has g hg
  rw [hb, hs g b hb]
theorem OwnL.sub {bl bl' : Int → Option Blk} {d : List D} {v : List V} {gs : List Int} (h : OwnL bl d v gs) (hs : Sub bl bl') : OwnL bl' d v gs := h.frame fun g hg => by
  obtain ⟨b, hb⟩ := h.has g hg
  rw [hb, hs g b hb]

theorem OwnL.length {bl : Int → Option Blk} : ∀ {ds : List D} {vs : List V} {gs : List Int}, OwnL bl ds vs gs → vs.length = ds.length
  | [], vs, gs, h => by rw [OwnL] at h; simp [h.1]
  | d :: ds, vs, gs, h => by
    rw [OwnL] at h
    obtain ⟨v, vs', g1, g2, h1, h2, h3, h4, h5⟩ := h
    rw [h1]; simp [OwnL.length h5]
theorem OwnR.length {bl : Int → Option Blk} {sz : Nat} : ∀ {ds : List (List D)} {vs : List (List V)} {gs : List Int}, OwnR bl sz ds vs gs → vs.length = ds.length
  | [], vs, gs, h => by rw [OwnR] at h; simp [h.1]
  | d :: ds, vs, gs, h => by
    rw [OwnR] at h
    obtain ⟨v, vs', g1, g2, h1, h2, h3, h4, h4', h5, h6⟩ := h
    rw [h1]; simp [OwnR.length h6]

/-! ### Freezing -/
theorem frz_cl {bl : Int → Option Blk} {n : Nat} {x : V} (h : x.cl = true) : frz bl n x = some x := by
  cases x <;> first | (simp [V.cl] at h; done) | (unfold frz; rfl)
theorem mapM_cl {bl : Int → Option Blk} {n : Nat} : ∀ {xs : List V}, xs.all V.cl = true → xs.mapM (frz bl n) = some xs
  | [], _ => rfl
  | x :: xs, h => by
    simp only [List.all_cons, Bool.and_eq_true] at h
    rw [List.mapM_cons, frz_cl h.1, mapM_cl h.2]; rfl
theorem mapMM_cl {bl : Int → Option Blk} {n : Nat} : ∀ {xs : List (List V)}, xs.all (fun e => e.all V.cl) = true → xs.mapM (fun e : List V => e.mapM (frz bl n)) = some xs
  | [], _ => rfl
  | x :: xs, h => by
    simp only [List.all_cons, Bool.and_eq_true] at h
    rw [List.mapM_cons, mapM_cl h.1, mapMM_cl h.2]; rfl
theorem frz_agg {bl : Int → Option Blk} {n : Nat} {cs : List V} : frz bl (n + 1) (.agg cs) = (cs.mapM (frz bl n)).map .agg := by
  simp only [frz]
  split
  · rename_i h; rw [mapM_cl h]; rfl
  · rfl
theorem frz_tup {bl : Int → Option Blk} {n : Nat} {cs : List V} : frz bl (n + 1) (.tup cs) = (cs.mapM (frz bl n)).map .tup := by
  simp only [frz]
  split
  · rename_i h; rw [mapM_cl h]; rfl
  · rfl
theorem frz_loc0 {bl : Int → Option Blk} {n sz : Nat} {g : Int} {e : List V} (hb : bl g = some ⟨sz, [e]⟩) : frz bl (n + 1) (.loc g sz 0 0) = (e.mapM (frz bl n)).map .ptr := by
  simp only [frz, hb]
  simp only [if_true, List.getElem?_cons_zero, List.drop_zero]
  split
  · rename_i h; rw [mapM_cl h]; rfl
  · rfl
theorem frz_lsl {bl : Int → Option Blk} {n sz : Nat} {g : Int} {els : List (List V)} (h0 : 0 ≤ g) (hb : bl g = some ⟨sz, els⟩) : frz bl (n + 1) (.lsl g sz 0 els.length) = (els.mapM (fun e : List V => e.mapM (frz bl n))).map .sl := by
  simp only [frz, hb]
  rw [if_neg (by omega), if_pos (by simp)]
  simp only [List.drop_zero, List.take_length]
  split
  · rename_i h; rw [mapMM_cl h]; rfl
  · rfl

mutual
def D.dep : Nat → D → Prop
  | _, .c _ => True
  | n, .s _ rows => 1 ≤ n ∧ D.depR (n - 1) rows
  | n, .p row => 1 ≤ n ∧ D.depL (n - 1) row
  | n, .a cs => 1 ≤ n ∧ D.depL (n - 1) cs
  | n, .t cs => 1 ≤ n ∧ D.depL (n - 1) cs
def D.depL : Nat → List D → Prop
  | _, [] => True
  | n, d :: ds => d.dep n ∧ D.depL n ds
def D.depR : Nat → List (List D) → Prop
  | _, [] => True
  | n, r :: rs => D.depL n r ∧ D.depR n rs
end

mutual
theorem OwnD.frz {bl : Int → Option Blk} : ∀ {d : D} {n : Nat} {v : V} {gs : List Int}, OwnD bl d v gs → d.dep n → Vm.frz bl n v = some d.fz
  | .c x, n, v, gs, h, _ => by rw [OwnD] at h; rw [h.1, frz_cl h.2.1, D.fz]
  | .s sz rows, n, v, gs, h, hn => by
    rw [OwnD] at h; rw [D.dep] at hn; rw [D.fz]
    obtain ⟨n, rfl⟩ : ∃ m, n = m + 1 := ⟨n - 1, by omega⟩
    rw [Nat.add_sub_cancel] at hn
    rcases h with ⟨rfl, rfl, _⟩ | ⟨g0, els, gs', h1, h2, h3, h4, h5, h6⟩
    · simp [Vm.frz, D.fzR]
    · have hl := OwnR.length h6
      rw [h1, ← hl]
      rcases Int.lt_or_le g0 0 with hg | hg
      · have := h5 hg
        subst this
        have : rows = [] := List.eq_nil_of_length_eq_zero (by simpa using hl.symm)
        subst this
        simp [Vm.frz, hg, D.fzR]
      · rw [frz_lsl hg h4, OwnR.frz h6 hn.2]; rfl
  | .p row, n, v, gs, h, hn => by
    rw [OwnD] at h; rw [D.dep] at hn; rw [D.fz]
    obtain ⟨n, rfl⟩ : ∃ m, n = m + 1 := ⟨n - 1, by omega⟩
    rw [Nat.add_sub_cancel] at hn
    obtain ⟨g0, e, gs', h1, h2, h3, h0, h4, h5⟩ := h
    rw [h1, frz_loc0 h4, OwnL.frz h5 hn.2]; rfl
  | .a cs, n, v, gs, h, hn => by
    rw [OwnD] at h; rw [D.dep] at hn; rw [D.fz]
    obtain ⟨n, rfl⟩ : ∃ m, n = m + 1 := ⟨n - 1, by omega⟩
    rw [Nat.add_sub_cancel] at hn
    obtain ⟨vs, h1, h2⟩ := h
    rw [h1, frz_agg, OwnL.frz h2 hn.2]; rfl
  | .t cs, n, v, gs, h, hn => by
    rw [OwnD] at h; rw [D.dep] at hn; rw [D.fz]
    obtain ⟨n, rfl⟩ : ∃ m, n = m + 1 := ⟨n - 1, by omega⟩
    rw [Nat.add_sub_cancel] at hn
    obtain ⟨vs, h1, h2⟩ := h
    rw [h1, frz_tup, OwnL.frz h2 hn.2]; rfl
theorem OwnL.frz {bl : Int → Option Blk} : ∀ {ds : List D} {n : Nat} {vs : List V} {gs : List Int}, OwnL bl ds vs gs → D.depL n ds → vs.mapM (Vm.frz bl n) = some (D.fzL ds)
  | [], n, vs, gs, h, _ => by rw [OwnL] at h; rw [h.1, D.fzL]; rfl
  | d :: ds, n, vs, gs, h, hn => by
    rw [OwnL] at h; rw [D.depL] at hn; rw [D.fzL]
    obtain ⟨v, vs', g1, g2, h1, h2, h3, h4, h5⟩ := h
    rw [h1, List.mapM_cons, OwnD.frz h4 hn.1, OwnL.frz h5 hn.2]; rfl
theorem OwnR.frz {bl : Int → Option Blk} {sz : Nat} : ∀ {rs : List (List D)} {n : Nat} {els : List (List V)} {gs : List Int}, OwnR bl sz rs els gs → D.depR n rs → els.mapM (fun e : List V => e.mapM (Vm.frz bl n)) = some (D.fzR rs)
  | [], n, vs, gs, h, _ => by rw [OwnR] at h; rw [h.1, D.fzR]; rfl
  | r :: rs, n, els, gs, h, hn => by
    rw [OwnR] at h; rw [D.depR] at hn; rw [D.fzR]
    obtain ⟨e, els', g1, g2, h1, h2, h3, h4, h4', h5, h6⟩ := h
    rw [h1, List.mapM_cons, OwnL.frz h5 hn.1, OwnR.frz h6 hn.2]; rfl
end

/-! ### Values that read the same whatever is frozen -/
mutual
def V.ow : V → Bool
  | .bool _ | .int _ _ | .str _ | .nilp | .nils | .sle | .lsl _ _ _ _ | .loc _ _ _ _ => true
  | .agg vs => V.owL vs
  | .tup vs => V.owL vs
  | _ => false
def V.owL : List V → Bool
  | [] => true
  | v :: vs => v.ow && V.owL vs
end
theorem owL_mem : ∀ {vs : List V}, V.owL vs = true → ∀ v, v ∈ vs → v.ow = true
  | [], _, v, hv => by cases hv
  | x :: vs, h, v, hv => by
    rw [V.owL, Bool.and_eq_true] at h
    rcases List.mem_cons.1 hv with rfl | hv
    · exact h.1
    · exact owL_mem h.2 v hv
theorem owL_of : ∀ {vs : List V}, (∀ v, v ∈ vs → v.ow = true) → V.owL vs = true
  | [], _ => by rw [V.owL]
  | x :: vs, h => by
    rw [V.owL, Bool.and_eq_true]
    exact ⟨h x List.mem_cons_self, owL_of fun v hv => h v (List.mem_cons_of_mem _ hv)⟩
section
variable {P : Program} {w0 : World} {M F : Nat → Prop} {w : World} {bl : Int → Option Blk}
theorem rep_ow {G : Nat → Prop} {x : V} {v : Value} (hx : x.ow = true) (h : Rep F w x v) : Rep G w x v := by
  induction h with
  | agg cs arr hlen hr ih => rw [V.ow] at hx; exact .agg cs arr hlen fun i x h => ih i x h (owL_mem hx x (List.mem_of_getElem? h))
  | tup cs arr hlen hr ih => rw [V.ow] at hx; exact .tup cs arr hlen fun i x h => ih i x h (owL_mem hx x (List.mem_of_getElem? h))
  | loc g sz k j => exact .loc g sz k j
  | lsl g sz o n cap hg hle hcap hb => exact .lsl g sz o n cap hg hle hcap hb
  | lsln g sz hg => exact .lsln g sz hg
  | bool b => exact .bool b
  | int k n => exact .int k n
  | str s => exact .str s
  | nilp => exact .nilp
  | nils => exact .nils
  | sle a cap => exact .sle a cap
  | _ => simp [V.ow] at hx

mutual
/-- No address of frozen data anywhere. -/
def D.sc : D → Bool
  | .c x => x.ow
  | .s _ rows => D.scR rows
  | .p row => D.scL row
  | .a cs => D.scL cs
  | .t cs => D.scL cs
def D.scL : List D → Bool
  | [] => true
  | d :: ds => d.sc && D.scL ds
def D.scR : List (List D) → Bool
  | [] => true
  | r :: rs => D.scL r && D.scR rs
end
def owB (bl : Int → Option Blk) (g : Int) : Prop := ∃ sz els, bl g = some ⟨sz, els⟩ ∧ ∀ e, e ∈ els → ∀ x, x ∈ e → x.ow = true

mutual
theorem OwnD.ow : ∀ {d : D} {v : V} {gs : List Int}, OwnD bl d v gs → d.sc = true → v.ow = true ∧ ∀ g, g ∈ gs → owB bl g
  | .c x, v, gs, h, hs => by
    rw [OwnD] at h; rw [D.sc] at hs
    obtain ⟨rfl, h2, rfl⟩ := h
    exact ⟨hs, fun g hg => by cases hg⟩
  | .s sz rows, v, gs, h, hs => by
    rw [OwnD] at h; rw [D.sc] at hs
    rcases h with ⟨rfl, rfl, rfl⟩ | ⟨g0, els, gs', rfl, rfl, h3, h4, h5, h6⟩
    · exact ⟨by rw [V.ow], fun g hg => by cases hg⟩
    · obtain ⟨k1, k2⟩ := OwnR.ow h6 hs
      refine ⟨by rw [V.ow], fun g hg => ?_⟩
      rcases List.mem_cons.1 hg with rfl | hg
      · exact ⟨sz, els, h4, k1⟩
      · exact k2 g hg
  | .p row, v, gs, h, hs => by
    rw [OwnD] at h; rw [D.sc] at hs
    obtain ⟨g0, e, gs', rfl, rfl, h3, h0, h4, h5⟩ := h
    obtain ⟨k1, k3⟩ := OwnL.ow h5 hs
    refine ⟨by rw [V.ow], fun g hg => ?_⟩
    rcases List.mem_cons.1 hg with rfl | hg
    · exact ⟨_, _, h4, fun e' he' => by
        obtain rfl : e' = e := by simpa using he'
        exact k1⟩
    · exact k3 g hg
  | .a cs, v, gs, h, hs => by
    rw [OwnD] at h; rw [D.sc] at hs
    obtain ⟨vs, rfl, h2⟩ := h
    obtain ⟨k1, k3⟩ := OwnL.ow h2 hs
    exact ⟨by rw [V.ow]; exact owL_of k1, k3⟩
  | .t cs, v, gs, h, hs => by
    rw [OwnD] at h; rw [D.sc] at hs
    obtain ⟨vs, rfl, h2⟩ := h
    obtain ⟨k1, k3⟩ := OwnL.ow h2 hs
    exact ⟨by rw [V.ow]; exact owL_of k1, k3⟩
theorem OwnL.ow : ∀ {ds : List D} {vs : List V} {gs : List Int}, OwnL bl ds vs gs → D.scL ds = true → (∀ x, x ∈ vs → x.ow = true) ∧ ∀ g, g ∈ gs → owB bl g
  | [], vs, gs, h, _ => by
    rw [OwnL] at h
    obtain ⟨rfl, rfl⟩ := h
    exact ⟨fun x hx => (by cases hx), fun g hg => by cases hg⟩
  | d :: ds, vs, gs, h, hs => by
    rw [OwnL] at h; rw [D.scL, Bool.and_eq_true] at hs
    obtain ⟨v, vs', g1, g2, rfl, rfl, h3, h4, h5⟩ := h
    obtain ⟨a1, a4⟩ := OwnD.ow h4 hs.1
    obtain ⟨b1, b3⟩ := OwnL.ow h5 hs.2
    refine ⟨fun x hx => ?_, fun g hg => ?_⟩
    · rcases List.mem_cons.1 hx with rfl | hx
      · exact a1
      · exact b1 x hx
    · rcases List.mem_append.1 hg with hg | hg
      · exact a4 g hg
      · exact b3 g hg
theorem OwnR.ow {sz : Nat} : ∀ {rs : List (List D)} {els : List (List V)} {gs : List Int}, OwnR bl sz rs els gs → D.scR rs = true → (∀ e, e ∈ els → ∀ x, x ∈ e → x.ow = true) ∧ ∀ g, g ∈ gs → owB bl g
  | [], vs, gs, h, _ => by
    rw [OwnR] at h
    obtain ⟨rfl, rfl⟩ := h
    exact ⟨fun e he => (by cases he), fun g hg => by cases hg⟩
  | r :: rs, els, gs, h, hs => by
    rw [OwnR] at h; rw [D.scR, Bool.and_eq_true] at hs
    obtain ⟨e, els', g1, g2, rfl, rfl, h3, h4, h4', h5, h6⟩ := h
    obtain ⟨a1, a3⟩ := OwnL.ow h5 hs.1
    obtain ⟨b1, b2⟩ := OwnR.ow h6 hs.2
    refine ⟨fun e' he => ?_, fun g hg => ?_⟩
    · rcases List.mem_cons.1 he with rfl | he
      · exact a1
      · exact b1 e' he
    · rcases List.mem_append.1 hg with hg | hg
      · exact a3 g hg
      · exact b2 g hg
end

/-! ### Calls that make data -/
theorem Mem.sub {bl2 : Int → Option Blk} (h : Mem w0 M F bl w) (hs : Sub bl2 bl) : Mem w0 M F bl2 w := by
  refine ⟨h.os, h.tape, h.output, h.size, h.frame, h.shapes, h.fr, ?_, fun g b hb => h.own g b (hs g b hb), fun g b hb => h.blk g b (hs g b hb)⟩
  obtain ⟨n, hn⟩ := h.fin
  refine ⟨n, fun g hg => ?_⟩
  cases hb : bl2 g with
  | none => rfl
  | some b => have := hs g b hb; rw [hn g hg] at this; cases this

/-- New data d, and nothing else. -/
def Made (bl : Int → Option Blk) (d : D) (v : V) (bl' : Int → Option Blk) : Prop := ∃ gs, OwnD bl' d v gs ∧ (∀ g, g ∈ gs → bl g = none) ∧ ∀ g, g ∉ gs → bl' g = bl g
/-- The function reads its arguments and makes d. -/
def NW (P : Program) (f : FuncId) (xs : List V) (d : D) : Prop := ∀ bl, CallP P f xs bl (Made bl d)
/-- .. but for what is left behind. -/
def MadeK (bl : Int → Option Blk) (d : D) (v : V) (bl' : Int → Option Blk) : Prop := ∃ gs, OwnD bl' d v gs ∧ (∀ g, g ∈ gs → bl g = none) ∧ Sub bl bl'

theorem callP_made {f : FuncId} {xs : List V} {d : D} (h : CallP P f xs bl (MadeK bl d)) : CallP P f xs bl (Made bl d) :=
  ⟨h.1, fun w0 M F w vs hm hr => (h.2 w0 M F w vs hm hr).mono fun e w' ⟨v, x, bl', F', h1, h2, h3, h4, h5, h6, gs, h7, h8, h9⟩ => by
    refine ⟨v, x, fun g => if g ∈ gs then bl' g else bl g, F', h1, h2, h3, h4, h5.sub fun g b hb => ?_, h6, gs, h7.frame fun g hg => by simp [hg], h8, fun g hg => by simp [hg]⟩
    split at hb
    · exact hb
    · exact h9 g b hb⟩

theorem nw_of {f : FuncId} {fn : Func} {c : Code} {xs : List V} {d : D} (hf : P.funcs[f]? = some fn) (hb : fn.body = some c) (hn : (fn.name == "runtime.NumGoroutine") = false) (hl : xs.length ≤ fn.ntmps)
    (h : ∀ bl, AW P c (retK P fn.results.toList (MadeK bl d)) ⟨fn.ntmps, fun t => xs.getD t .junk, bl⟩) : NW P f xs d := fun bl => callP_made (callP_of hf hb hn hl (h bl))

theorem retNW {rs : List ResultVar} {d : D} {σ : St} (vs : List V) (gs : List Int) (h : resV P σ rs = some vs) (ho : OwnD σ.bl d (retV vs) gs) (hf : ∀ g, g ∈ gs → bl g = none) (hs : Sub bl σ.bl) :
    retK P rs (MadeK bl d) .ret σ := by rw [retK_ret]; exact ⟨vs, h, gs, ho, hf, hs⟩

theorem Made.sub {d : D} {v : V} {gs : List Int} {bl' : Int → Option Blk} (h2 : ∀ g, g ∈ gs → bl g = none) (h3 : ∀ g, g ∉ gs → bl' g = bl g) : Sub bl bl' := fun g b hb => by
  rw [h3 g (fun hg => by rw [h2 g hg] at hb; cases hb)]; exact hb

/-- What has been made may be frozen. -/
theorem ro_of_nw {f : FuncId} {xs : List V} {d : D} (n : Nat) (h : NW P f xs d) (hn : d.dep n) : RO P f xs d.fz := fun bl =>
  callP_frz ((h bl).mono fun v bl' ⟨gs, h1, h2, h3⟩ => ⟨n, (OwnD.frame h1 fun g hg => by unfold dropB; rw [h2 g hg]).frz hn, Made.sub (d := d) (v := v) h2 h3⟩) ⟨rfl, rfl⟩

/-- A call that makes plain data may be handed data of the call's own. -/
theorem callP_lend {f : FuncId} {xs ys : List V} {d : D} {k : V → (Int → Option Blk) → Prop} (n : Nat) (hx : frzL bl n xs = some ys) (h : NW P f ys d) (hd : d.sc = true)
    (hk : ∀ v gs bl', OwnD bl' d v gs → (∀ g, g ∈ gs → bl g = none) → (∀ g, g ∉ gs → bl' g = bl g) → k v bl') : CallP P f xs bl k := by
  have h0 := h (fun g => if g < 0 then bl g else none)
  refine ⟨h0.1, fun w0 M F w vs hm hrep => ?_⟩
  have hsub : Sub (fun g => if g < 0 then bl g else none) bl := fun g b hb => by
    simp only at hb; split at hb
    · exact hb
    · cases hb
  have hm1 := hm.start.freeze hsub
  have hown : ∀ g b, bl g = some b → 0 ≤ g → (F g.toNat ∨ Own (dropB bl fun g => if g < 0 then bl g else none) g.toNat) := fun g b hb h0 =>
    .inr ⟨g, b, by unfold dropB; simp only; rw [if_neg (by omega)]; exact hb, h0, rfl⟩
  have hlen := frzL_get hx
  have hreps : Reps (fun k => F k ∨ Own (dropB bl fun g => if g < 0 then bl g else none) k) w ys vs := by
    refine ⟨by rw [hrep.1, hlen.1], fun i y hy => ?_⟩
    obtain ⟨x, h1, h2⟩ := hlen.2 i y hy
    exact frz_sound (fun g b hb => hm.blk g b hb) hown (fun b hb => .inl hb) n x y _ (hrep.2 i x h1) h2
  refine (h0.2 w (Own bl) _ w vs hm1 hreps).mono fun e w' ⟨v, x, bl', F', h1, h2, h3, h4, h5, h6, gs, h7, h8, h9⟩ => ?_
  have hF : ∀ b, F b → w'.heap[b]? = w.heap[b]? := fun b hb => h3 b (.inl hb)
  have hO : ∀ g b, bl g = some b → 0 ≤ g → w'.heap[g.toNat]? = w.heap[g.toNat]? := fun g b hb h0 => h3 _ (hown g b hb h0)
  obtain ⟨k1, k2⟩ := h7.ow hd
  have hnew : ∀ g, g ∈ gs → bl g = none := fun g hg => by
    have h10 := h8 g hg
    simp only at h10
    split at h10
    · exact h10
    · rename_i hg0
      cases hb : bl g with
      | none => rfl
      | some b =>
        obtain ⟨b', hb'⟩ := h7.has g hg
        have := h5.blk g b' hb'
        unfold BlkIn at this
        rw [if_neg hg0] at this
        exact absurd (h2 _ (hown g b hb (by omega))) this.1
  refine ⟨v, x, fun g => if g ∈ gs then bl' g else bl g, F, h1, fun _ h => h, hF, h4, ?_, rep_ow k1 h6, hk x gs _ (h7.frame fun g hg => by simp [hg]) hnew fun g hg => by simp [hg]⟩
  refine hm.step h5.os h5.tape h5.output h5.size h4 (fun k => Own bl k) (fun k hk hX => h5.frame k hk hX) (fun k hk => by obtain ⟨g, b, hb, h0, rfl⟩ := hk; exact hm.own g b hb h0)
    (fun k hk => Nat.lt_of_lt_of_le (hm.fr k hk) h5.size) ?_ fun g b hb => ?_
  · obtain ⟨n1, hn1⟩ := hm.fin
    obtain ⟨n2, hn2⟩ := h5.fin
    refine ⟨min n1 n2, fun g hg => ?_⟩
    split
    · exact hn2 g (by omega)
    · exact hn1 g (by omega)
  · split at hb
    · rename_i hg
      have hB := h5.blk g b hb
      refine ⟨fun h0 => ?_, ?_⟩
      · rcases h5.own g b hb h0 with h11 | ⟨g', b', hb', h0', he⟩
        · exact .inl (Nat.le_trans hm.size h11)
        · have : g' = g := by omega
          subst this
          rw [hnew g' hg] at hb'; cases hb'
      · unfold BlkIn at hB ⊢
        split
        · rename_i hg0; rw [if_pos hg0] at hB; exact hB
        · rename_i hg0
          rw [if_neg hg0] at hB
          obtain ⟨c1, c, t, c2, c3, c4⟩ := hB
          refine ⟨fun hFg => c1 (h2 _ (.inl hFg)), c, t, c2, c3, fun k e he => ⟨(c4 k e he).1, fun j y hy => ?_⟩⟩
          obtain ⟨c5, u, c6, c7⟩ := (c4 k e he).2 j y hy
          obtain ⟨sz, els, c8, c9⟩ := k2 g hg
          rw [hb] at c8
          cases c8
          exact ⟨c5, u, c6, rep_ow (c9 e (List.mem_of_getElem? he) y (List.mem_of_getElem? hy)) c7⟩
    · refine ⟨hm.own g b hb, ?_⟩
      refine (hm.blk g b hb).mono (fun _ h => h) (fun h0 hFg => ?_) hF h4 (fun h0 => hO g b hb h0)
      have := hm.blk g b hb
      unfold BlkIn at this
      rw [if_neg (by omega)] at this
      exact this.1 hFg

/-- Arguments may be told with less. -/
theorem callP_wk {f : FuncId} {xs ys : List V} {k : V → (Int → Option Blk) → Prop} (n : Nat) (hx : frzL (fun _ => none) n xs = some ys) (h : CallP P f ys bl k) : CallP P f xs bl k := by
  refine ⟨h.1, fun w0 M F w vs hm hrep => h.2 w0 M F w vs hm ?_⟩
  have hlen := frzL_get hx
  refine ⟨by rw [hrep.1, hlen.1], fun i y hy => ?_⟩
  obtain ⟨x, h1, h2⟩ := hlen.2 i y hy
  exact frz_sound (bl := fun _ => none) (fun g b hb => by cases hb) (fun g b hb => by cases hb) (fun b hb => hb) n x y _ (hrep.2 i x h1) h2
end

/-! ### More on blocks -/
theorem fresh_of {bl bl' : Int → Option Blk} {g : Int} (hs : Sub bl bl') (h : bl' g = none) : bl g = none := by
  cases hb : bl g with
  | none => rfl
  | some b => have := hs g b hb; rw [h] at this; cases this
@[simp] theorem sub_rem {bl bl' : Int → Option Blk} {g : Int} (h : bl g = none) : Sub bl (rem bl' g) = Sub bl bl' := by
  apply propext
  constructor
  · intro hs g' b' hb
    have := hs g' b' hb
    unfold rem at this
    split at this
    · cases this
    · exact this
  · intro hs; exact hs.rem h
@[simp] theorem rem_apply (f : Int → Option Blk) (g x : Int) : rem f g x = if x = g then none else f x := rfl
theorem sub_same {bl bl' : Int → Option Blk} {g : Int} {b : Option Blk} (hs : Sub bl bl') : Sub (upd bl g b) (upd bl' g b) := fun g' b' hb => by
  rw [upd_apply] at hb ⊢
  split
  · rename_i h; rw [if_pos h] at hb; exact hb
  · rename_i h; rw [if_neg h] at hb; exact hs g' b' hb

theorem sub_put {bl bl' : Int → Option Blk} {g : Int} {sz : Nat} {els els' : List (List V)} (he : els = els') (hs : Sub bl bl') : Sub (upd bl g (some ⟨sz, els⟩)) (upd bl' g (some ⟨sz, els'⟩)) := by
  subst he; exact sub_same hs

/-- One slot is frozen; blocks are given up. -/
theorem AW_frzAt {P : Program} {c : Code} {K : Ex → St → Prop} {σ : St} (n t : Nat) (v : V) (bl2 : Int → Option Blk) (hs : Sub bl2 σ.bl) (hv : frz (dropB σ.bl bl2) n (σ.sl t) = some v) (h : AW P c K ⟨σ.n, upd σ.sl t v, bl2⟩) : AW P c K σ := by
  refine AW_frz n _ bl2 hs (fun t' => ?_) h
  by_cases e : t' = t
  · subst e; right; rw [upd_same]; exact hv
  · left; exact upd_ne _ _ _ _ e

/-- An empty slice is nil or it is not. -/
theorem callP_nilsplit {P : Program} {f : FuncId} {post : List V} {bl : Int → Option Blk} {k : V → (Int → Option Blk) → Prop} (h1 : CallP P f (.nils :: post) bl k) (h2 : CallP P f (.sle :: post) bl k) : CallP P f (.sl [] :: post) bl k := by
  refine ⟨h1.1, fun w0 M F w vs hm hr => ?_⟩
  have key : ∀ v, (∀ w, Rep F w (.sl []) v → Rep F w .nils v ∨ Rep F w .sle v) := by
    intro v w h
    generalize hx : V.sl [] = x at h
    cases h <;> cases hx
    · rename_i a cap ha
      cases a with
      | none => rw [ha rfl]; exact .inl .nils
      | some a => exact .inr (.sle a cap)
    · exact .inr (.sle _ _)
  have h0 := hr.2 0 _ rfl
  have put : ∀ y, Rep F w y (vs.getD 0 undef) → Reps F w (y :: post) vs := fun y hy => ⟨by rw [hr.1]; rfl, fun i x hx => by
    cases i with
    | zero => cases hx; exact hy
    | succ i => exact hr.2 (i + 1) x (by simpa using hx)⟩
  rcases key _ w h0 with h | h
  · exact h1.2 w0 M F w vs hm (put _ h)
  · exact h2.2 w0 M F w vs hm (put _ h)

/-- A nil slice in a block is seen as an empty one of the call's own. -/
theorem AW_ghostCell {P : Program} {c : Code} {K : Ex → St → Prop} {σ : St} {g : Int} {s : Nat} {els : List (List V)} {e : List V} (k j sz : Nat) (hb : σ.bl g = some ⟨s, els⟩) (he : els[k]? = some e) (hj : e[j]? = some .nils)
    (h : ∀ g' : Int, σ.bl g' = none → g' ≠ g → AW P c K ⟨σ.n, σ.sl, upd (upd σ.bl g (some ⟨s, els.set k (e.set j (.lsl g' sz 0 0))⟩)) g' (some ⟨sz, []⟩)⟩) : AW P c K σ := by
  intro w0 M F a w hs
  obtain ⟨g', hg0, hgn, hm⟩ := hs.mem.ghost sz
  have hne : g' ≠ g := fun h => by rw [h, hb] at hgn; cases hgn
  have hB := hs.mem.blk g _ hb
  unfold BlkIn at hB
  have hge : ¬ g < 0 := fun h => by rw [if_pos h] at hB; simp only at hB; rw [hB] at he; cases he
  rw [if_neg hge] at hB
  obtain ⟨h1, cs, t, h2, h3, h4⟩ := hB
  refine h g' hgn hne w0 M F a w ⟨?_, hs.size, hs.sl, hs.defers⟩
  have hkl := (List.getElem?_eq_some_iff.1 he).1
  have hjl := (List.getElem?_eq_some_iff.1 hj).1
  refine ⟨hm.os, hm.tape, hm.output, hm.size, hm.frame, hm.shapes, hm.fr, ?_, fun x b hx h0 => ?_, fun x b hx => ?_⟩
  · obtain ⟨n, hn⟩ := hm.fin
    refine ⟨min n 0, fun x hx => ?_⟩
    have := hn x (by omega)
    show upd _ _ _ x = none
    simp only [upd_apply] at this ⊢
    split
    · rename_i hh; rw [if_pos hh] at this; exact this
    · rename_i hh
      rw [if_neg hh] at this
      rw [if_neg (by omega)]; exact this
  · by_cases hxg : x = g
    · subst hxg; exact hs.mem.own x _ hb h0
    · refine hm.own x b ?_ h0
      simp only [upd_apply] at hx ⊢
      rw [if_neg hxg] at hx
      exact hx
  · by_cases hxg : x = g
    · subst hxg
      simp only [upd_apply] at hx
      rw [if_neg (Ne.symm hne), if_pos trivial] at hx
      cases hx
      unfold BlkIn
      rw [if_neg hge]
      refine ⟨h1, cs, t, h2, by simpa using h3, fun k' e' he' => ?_⟩
      simp only at he' ⊢
      by_cases hkk : k' = k
      · subst hkk
        rw [List.getElem?_set_self hkl] at he'
        cases he'
        obtain ⟨h5, h6⟩ := h4 k' e he
        refine ⟨by rw [List.length_set]; exact h5, fun j' x' hx' => ?_⟩
        by_cases hjj : j' = j
        · subst hjj
          rw [List.getElem?_set_self hjl] at hx'
          cases hx'
          obtain ⟨h7, v, h8, h9⟩ := h6 j' _ hj
          refine ⟨rfl, v, h8, ?_⟩
          cases h9
          exact .lsln g' sz hg0
        · rw [List.getElem?_set_ne (Ne.symm hjj)] at hx'
          exact h6 j' x' hx'
      · rw [List.getElem?_set_ne (Ne.symm hkk)] at he'
        exact h4 k' e' he'
    · refine hm.blk x b ?_
      simp only [upd_apply] at hx ⊢
      rw [if_neg hxg] at hx
      exact hx

/-- Rows of plain cells. -/
def fl (sz : Nat) (rows : List (List V)) : D := .s sz (rows.map fun r => r.map .c)
theorem fzL_c (r : List V) : D.fzL (r.map .c) = r := by
  rw [fzL_map, List.map_map]
  conv => rhs; rw [← List.map_id r]
  exact List.map_congr_left fun x _ => by simp [D.fz]
@[simp] theorem fl_fz (sz : Nat) (rows : List (List V)) : (fl sz rows).fz = .sl rows := by
  unfold fl
  rw [D.fz, fzR_map, List.map_map]
  congr 1
  conv => rhs; rw [← List.map_id rows]
  exact List.map_congr_left fun r _ => by
    show List.map D.fz (r.map .c) = r
    rw [← fzL_map, fzL_c]
theorem depL_c (n : Nat) : ∀ (r : List V), D.depL n (r.map .c)
  | [] => by simp [D.depL]
  | x :: r => by simp [D.depL, D.dep, depL_c n r]
theorem depR_c (n : Nat) : ∀ (rows : List (List V)), D.depR n (rows.map fun r => r.map .c)
  | [] => by simp [D.depR]
  | r :: rs => by simp [D.depR, depL_c, depR_c n rs]
theorem fl_dep (sz : Nat) (rows : List (List V)) (n : Nat) : (fl sz rows).dep (n + 1) := by
  unfold fl
  rw [D.dep]
  exact ⟨by omega, depR_c _ _⟩
theorem V.one_of_cl {x : V} (h : x.cl = true) : x.one = true := by cases x <;> first | rfl | (simp [V.cl] at h)
theorem ownL_c {bl : Int → Option Blk} : ∀ {r vs : List V} {gs : List Int}, r.all V.cl = true → (OwnL bl (r.map .c) vs gs ↔ vs = r ∧ gs = [])
  | [], vs, gs, _ => by rw [List.map_nil, OwnL]
  | x :: r, vs, gs, h => by
    simp only [List.all_cons, Bool.and_eq_true] at h
    rw [List.map_cons, OwnL]
    constructor
    · rintro ⟨v, vs', g1, g2, rfl, rfl, _, h1, h2⟩
      rw [OwnD] at h1
      obtain ⟨rfl, _, rfl⟩ := h1
      obtain ⟨rfl, rfl⟩ := (ownL_c h.2).1 h2
      exact ⟨rfl, rfl⟩
    · rintro ⟨rfl, rfl⟩
      exact ⟨x, r, [], [], rfl, rfl, fun g hg => (by cases hg), by rw [OwnD]; exact ⟨rfl, h.1, rfl⟩, (ownL_c h.2).2 ⟨rfl, rfl⟩⟩
theorem ownR_c {bl : Int → Option Blk} {sz : Nat} : ∀ {rows els : List (List V)} {gs : List Int}, rows.all (fun r => r.all V.cl) = true → (∀ r, r ∈ rows → r.length = sz) → (OwnR bl sz (rows.map fun r => r.map .c) els gs ↔ els = rows ∧ gs = [])
  | [], els, gs, _, _ => by rw [List.map_nil, OwnR]
  | r :: rows, els, gs, h, hl => by
    simp only [List.all_cons, Bool.and_eq_true] at h
    rw [List.map_cons, OwnR]
    constructor
    · rintro ⟨e, els', g1, g2, rfl, rfl, _, _, _, h1, h2⟩
      obtain ⟨rfl, rfl⟩ := (ownL_c h.1).1 h1
      obtain ⟨rfl, rfl⟩ := (ownR_c h.2 fun r hr => hl r (List.mem_cons_of_mem _ hr)).1 h2
      exact ⟨rfl, rfl⟩
    · rintro ⟨rfl, rfl⟩
      exact ⟨r, rows, [], [], rfl, rfl, fun g hg => (by cases hg), hl r List.mem_cons_self, List.all_eq_true.2 fun x hx => V.one_of_cl (List.all_eq_true.1 h.1 x hx), (ownL_c h.1).2 ⟨rfl, rfl⟩, (ownR_c h.2 fun r hr => hl r (List.mem_cons_of_mem _ hr)).2 ⟨rfl, rfl⟩⟩
/-- A slice of plain rows. -/
theorem own_fl {bl : Int → Option Blk} {sz : Nat} {rows : List (List V)} {v : V} {gs : List Int} (h : rows.all (fun r => r.all V.cl) = true) (hl : ∀ r, r ∈ rows → r.length = sz) :
    OwnD bl (fl sz rows) v gs ↔ (rows = [] ∧ v = .nils ∧ gs = []) ∨ ∃ g, v = .lsl g sz 0 rows.length ∧ gs = [g] ∧ bl g = some ⟨sz, rows⟩ ∧ (g < 0 → rows = []) := by
  unfold fl
  rw [OwnD]
  constructor
  · rintro (⟨h1, h2, h3⟩ | ⟨g, els, gs', h1, h2, h3, h4, h5, h6⟩)
    · exact .inl ⟨by simpa using h1, h2, h3⟩
    · obtain ⟨rfl, rfl⟩ := (ownR_c h hl).1 h6
      exact .inr ⟨g, by simpa using h1, h2, h4, h5⟩
  · rintro (⟨h1, h2, h3⟩ | ⟨g, h1, h2, h4, h5⟩)
    · exact .inl ⟨by simpa using h1, h2, h3⟩
    · exact .inr ⟨g, rows, [], by simpa using h1, h2, by simp, h4, h5, (ownR_c h hl).2 ⟨rfl, rfl⟩⟩
end Go.Proofs.YticmgmemnpcbbaaGreat.Vm

namespace Go.Proofs.YticmgmemnpcbbaaGreat.Vm
open Go Go.Proofs
set_option linter.unusedSimpArgs false
set_option linter.unusedVariables false

theorem iv_clen (ns : List Int) : ∀ r, r ∈ iv ns → r.length = 1 := by
  intro r hr
  obtain ⟨n, _, rfl⟩ := List.mem_map.1 hr
  rfl
theorem iv_append (a b : List Int) : iv (a ++ b) = iv a ++ iv b := by simp [iv]
theorem iv_takeall (ns : List Int) : (iv ns).take ns.length = iv ns := by rw [← iv_length ns, List.take_length]
theorem own_iv {bl : Int → Option Blk} {ns : List Int} {v : V} {gs : List Int} : OwnD bl (fl 1 (iv ns)) v gs ↔ (ns = [] ∧ v = .nils ∧ gs = []) ∨ ∃ g, v = .lsl g 1 0 ns.length ∧ gs = [g] ∧ bl g = some ⟨1, iv ns⟩ ∧ (g < 0 → ns = []) := by
  rw [own_fl (iv_cl ns) (iv_clen ns)]
  simp [iv]

/-- The joints before n that are free. -/
def freesTo (js : List J) (n : Nat) : List Int := ((List.range n).filter fun i => !(js.getD i default).fixed).map fun (i : Nat) => (i : Int)
def frees (js : List J) : List Int := freesTo js js.length
theorem freesTo_succ (js : List J) (n : Nat) : freesTo js (n + 1) = freesTo js n ++ if (js.getD n default).fixed then [] else [(n : Int)] := by
  unfold freesTo
  rw [List.range_succ, List.filter_append, List.map_append]
  congr 1
  cases h : (js.getD n default).fixed <;> simp only [List.filter_cons, List.filter_nil, h] <;> simp
theorem freesTo_le (js : List J) (n : Nat) : (freesTo js n).length ≤ n := by
  unfold freesTo
  rw [List.length_map]
  exact Nat.le_trans (List.length_filter_le _ _) (by simp)
theorem getD_at {α : Type} (xs : List α) (i : Nat) (d : α) (h : i < xs.length) : xs.getD i d = xs[i] := by simp [h]

theorem freeJoints_nw (s : Str) (hj : s.js.length ≤ 1048576) : NW Tryz.prog 74 [.ptr s.c] (fl 1 (iv (frees s.js))) := by
  refine nw_of Tryz.func74 rfl rfl (by rw [Tryz.ntmps74]; simp) fun bl => ?_
  rw [Tryz.ntmps74, Tryz.results74]
  refine AW_run ?_
  simp [Str.c]
  refine AW_ghost 3 1 (by simp) fun g00 hg00 => ?_
  refine AW_for (fun p : Nat × Int => [(3, .lsl p.2 1 0 (freesTo s.js p.1).length), (9, .sl (jv s.js)), (10, .int .i64 s.js.length), (11, .int .i64 p.1)]) (fun p => upd bl p.2 (some ⟨1, iv (freesTo s.js p.1)⟩)) (fun p => p.1 ≤ s.js.length ∧ bl p.2 = none ∧ (p.2 < 0 → freesTo s.js p.1 = [])) (fun p => s.js.length - p.1) _ (0, g00) ⟨Nat.zero_le _, hg00, fun _ => rfl⟩ ⟨rfl, by simp [freesTo], sub_eq (by simp [freesTo, iv])⟩ ?_
  rintro ⟨i, g⟩ ⟨hi, hg, h0⟩
  simp only at hi hg h0
  have hl := freesTo_le s.js i
  refine AW_run ?_
  simp
  refine ⟨fun h => ?_, fun h => ?_⟩
  · simp [h, J.c]
    intro g1 hg1 h1g hb1
    refine ⟨fun hf => ?_, fun hf => ?_⟩
    · intro g2 hg2 h21 h2g hb2
      simp [h1g, h21, h2g, Ne.symm h1g, Ne.symm h21, Ne.symm h2g, appV, elsV, Int.not_lt.2 hg2]
      refine ⟨by omega, fun g3 hg3 hb3 => ?_⟩
      have hb3' : bl g3 = none := by grind
      simp (disch := omega) [i64_in, loopQ_normal]
      have hjf : (s.js.getD i default).fixed = false := by simpa [h] using hf
      have hs1 : freesTo s.js (i + 1) = freesTo s.js i ++ [(i : Int)] := by rw [freesTo_succ, hjf]; rfl
      refine ⟨i + 1, g3, ⟨by omega, hb3', by omega⟩, by omega, rfl, by simp [hs1], ?_⟩
      rw [hs1, iv_append]
      exact sub_put (by rw [iv_takeall]; rfl) (by simp [hg, hb1, hb2, h1g, h21, h2g])
    · simp (disch := omega) [i64_in, loopQ_normal]
      have hjf : (s.js.getD i default).fixed = true := by simpa [h] using hf
      have hs1 : freesTo s.js (i + 1) = freesTo s.js i := by rw [freesTo_succ, hjf]; simp
      refine ⟨i + 1, g, ⟨by omega, hg, by rw [hs1]; exact h0⟩, by omega, rfl, by simp [hs1], ?_⟩
      rw [hs1]
      simp [hb1, h1g]
  · have hi : i = s.js.length := by omega
    subst hi
    refine retNW [.lsl g 1 0 (freesTo s.js s.js.length).length] [g] (by simp) ?_ (by simpa using hg) (by simp [hg])
    refine own_iv.2 (.inr ⟨g, rfl, rfl, by simp [frees], h0⟩)

end Go.Proofs.YticmgmemnpcbbaaGreat.Vm

namespace Go.Proofs.YticmgmemnpcbbaaGreat.Vm
open Go Go.RowKit
set_option linter.unusedVariables false

section
variable {P : Program} {ops : Array Oper} {w0 : World} {M F : Nat → Prop} {a : Act} {w : World}

/-- i is one of the last, or one of the last is done. -/
def late (tl : Nat → Bool) (l : Array Bool) (i : Nat) : Bool := tl i || (List.range l.size).any fun k => tl k && l.getD k false
/-- DAny, where nothing is kept once one of the last operations is done. -/
def DL (P : Program) (ops : Array Oper) (blK : Int → Option Blk) (tl : Nat → Bool) (K : St → Prop) : Nat → Array Bool → St → Prop
  | 0, l, σ => Region.ready .any ops l = [] ∧ K σ
  | fuel + 1, l, σ => (Region.ready .any ops l = [] → K σ) ∧ ∀ i ∈ Region.ready .any ops l, D1 P ops i (fun σ' => (late tl l i = false → Sub blK σ'.bl) ∧ DL P ops blK tl K fuel (l.setIfInBounds i true) σ') σ

theorem DL_sound {blK : Int → Option Blk} {tl : Nat → Bool} {K : St → Prop} {Q : Exit → Act → World → Prop} {F0 : Nat → Prop} (hQ : ∀ σ F a w, (∀ b, F0 b → F b) → Sim w0 M F σ a w → K σ → Q .normal a w) :
    ∀ (fuel : Nat) (l : Array Bool) (σ : St) (F : Nat → Prop) (a : Act) (w : World), (∀ b, F0 b → F b) → DL P ops blK tl K fuel l σ → Sim w0 M F σ a w → wpAny P .any ops Q fuel l a w
  | 0, l, σ, F, a, w, hF, h, hs => ⟨h.1, hQ σ F a w hF hs h.2⟩
  | fuel + 1, l, σ, F, a, w, hF, h, hs => ⟨fun h0 => hQ σ F a w hF hs (h.1 h0), fun i hi => D1_sound (h.2 i hi) hs fun σ' F' a' w' hF' hs' hk => DL_sound hQ fuel _ σ' F' a' w' (fun b hb => hF' b (hF b hb)) hk.2 hs'⟩

theorem AW_drawL {id : Nat} {K : Ex → St → Prop} {σ : St} (hm : P.follows .mixedOrders = true) (blK : Int → Option Blk) {tl : Nat → Bool} (h : DL P ops blK tl (K .normal) ops.size (Array.replicate ops.size false) σ) : AW P (.region id ops true) K σ := by
  intro w0 M F a w hs
  refine wp_region_any hm (DL_sound (F0 := F) (w0 := w0) (M := M) (fun σ' F' a' w' hF' hs' hK => ⟨.normal, σ', F', rfl, hF', hs', hK⟩) _ _ σ F a _ (fun _ h => h) h ?_)
  have hsh : Shapes w { w with drawn := w.drawn + 1 } := fun b c t f hc => ⟨c, f, hc, rfl⟩
  refine ⟨⟨hs.mem.os, hs.mem.tape, hs.mem.output, hs.mem.size, hs.mem.frame, hs.mem.shapes, hs.mem.fr, hs.mem.fin, hs.mem.own, fun g b hb => ?_⟩, hs.size, fun t ht => ?_, hs.defers⟩
  · have hh : ∀ b, F b → ({ w with drawn := w.drawn + 1 } : World).heap[b]? = w.heap[b]? := fun _ _ => rfl
    have hg : 0 ≤ g → ({ w with drawn := w.drawn + 1 } : World).heap[g.toNat]? = w.heap[g.toNat]? := fun _ => rfl
    refine BlkIn.mono (fun _ h => h) (fun h0 hFg => ?_) hh hsh hg (hs.mem.blk g b hb)
    have := hs.mem.blk g b hb
    unfold BlkIn at this
    rw [if_neg (by omega)] at this
    exact this.1 hFg
  · have hh : ∀ b, F b → ({ w with drawn := w.drawn + 1 } : World).heap[b]? = w.heap[b]? := fun _ _ => rfl
    exact Rep.mono (fun _ h => h) hh hsh (hs.sl t ht)

theorem DL_first {blK : Int → Option Blk} {tl : Nat → Bool} {K : St → Prop} {i : Nat} {oi : Oper} {v : V} (hi : ops[i]? = some oi) (hti : tl i = false) (hT : ∀ j oj, tl j = true → ops[j]? = some oj → ∃ e ∈ oj.after, Region.binds .any e = true ∧ e.on = i) : ∀ (fuel : Nat) (l : Array Bool) (σ : St),
    (∀ j oj, ops[j]? = some oj → j ≠ i → l.getD j true = false → (∀ e ∈ oj.after, Region.binds .any e = true → e.on ≠ i) → oi.apart ops oj = true) → (∀ k, tl k = true → l.getD k false = false) →
    i ∈ Region.ready .any ops l → Sub blK σ.bl → DY P ops blK oi σ v → DL P ops blK tl K fuel (l.setIfInBounds i true) (σ.put oi.dst v) → DL P ops blK tl K (fuel + 1) l σ := by
  have hbl : ∀ (σ : St), (σ.put oi.dst v).bl = σ.bl := fun σ => by cases oi.dst <;> rfl
  intro fuel
  induction fuel with
  | zero =>
    intro l σ _ hN hr hs hy H
    refine ⟨fun h => (by rw [h] at hr; cases hr), fun j hj => ?_⟩
    by_cases hji : j = i
    · subst hji; exact hy.step hi hs ⟨fun _ => by rw [hbl]; exact hs, H⟩
    · have := ready_mono hj hji
      rw [H.1] at this
      cases this
  | succ fuel ih =>
    intro l σ hfree hN hr hs hy H
    refine ⟨fun h => (by rw [h] at hr; cases hr), fun j hj => ?_⟩
    by_cases hji : j = i
    · subst hji; exact hy.step hi hs ⟨fun _ => by rw [hbl]; exact hs, H⟩
    · have h1 := H.2 j (ready_mono hj hji)
      obtain ⟨hjun, oj, hoj, hall⟩ := mem_ready.1 hj
      have hnot : ∀ e ∈ oj.after, Region.binds .any e = true → e.on ≠ i := fun e he hb heq => by
        have h1 := hall e he hb
        have h0 := (mem_ready.1 hr).1
        rw [heq] at h1
        rcases Nat.lt_or_ge i l.size with h' | h'
        · simp [h'] at h0 h1; rw [h0] at h1; cases h1
        · simp [Array.getElem?_eq_none h'] at h1
      have h2 := DY.put hoj (hfree j oj hoj hji hjun hnot) hy h1
      have hfree' : ∀ k ok, ops[k]? = some ok → k ≠ i → (l.setIfInBounds j true).getD k true = false →
          (∀ e ∈ ok.after, Region.binds .any e = true → e.on ≠ i) → oi.apart ops ok = true := fun k ok hk hki hun hno => by
        refine hfree k ok hk hki ?_ hno
        by_cases hjk : j = k
        · subst hjk; exact hjun
        · rw [getD_set_ne true hjk] at hun; exact hun
      refine D1_mono h2 fun σ' ⟨h3, h4, h5⟩ => ?_
      have htj : tl j = false := by
        cases htl : tl j with
        | false => rfl
        | true =>
          obtain ⟨e, he, hb, hon⟩ := hT j oj htl hoj
          exact absurd hon (hnot e he hb)
      have hlate : late tl (l.setIfInBounds i true) j = false := by
        unfold late
        rw [htj, Bool.false_or, List.any_eq_false]
        intro k _ hk
        simp only [Bool.and_eq_true] at hk
        by_cases hki : i = k
        · subst hki; rw [hti] at hk; cases hk.1
        · rw [getD_set_ne false hki, hN k hk.1] at hk; cases hk.2
      have hN' : ∀ k, tl k = true → (l.setIfInBounds j true).getD k false = false := fun k hk => by
        by_cases hkj : j = k
        · subst hkj; rw [htj] at hk; cases hk
        · rw [getD_set_ne false hkj]; exact hN k hk
      have h4 := h4 hlate
      rw [hbl] at h4
      refine ⟨fun _ => h4, ih (l.setIfInBounds j true) σ' hfree' hN' (ready_mono hr (Ne.symm hji)) h4 h3 ?_⟩
      rw [Array.setIfInBounds_comm _ _ hji]
      exact h5

theorem DL_hoist {blK : Int → Option Blk} {tl : Nat → Bool} {K : St → Prop} (fuel : Nat) : ∀ (is : List Nat) (l : Array Bool) (σ : St), (∀ i, i ∈ is → tl i = false) → (∀ k, tl k = true → l.getD k false = false) → (∀ i, i ∈ is → ∀ j oj, tl j = true → ops[j]? = some oj → ∃ e ∈ oj.after, Region.binds .any e = true ∧ e.on = i) → hoistB ops is l = true → Sub blK σ.bl →
    Hoist P ops blK is (DL P ops blK tl K fuel (setAll is l)) σ → DL P ops blK tl K (fuel + is.length) l σ
  | [], l, σ, _, _, _, _, _, h => h
  | i :: is, l, σ, hI, hN, hT, hB, hs, h => by
    simp only [hoistB, Bool.and_eq_true] at hB
    obtain ⟨⟨hr, hf⟩, hB'⟩ := hB
    unfold Hoist at h
    split at h
    · rename_i o ho
      obtain ⟨v, hy, hK⟩ := h
      have : fuel + (i :: is).length = (fuel + is.length) + 1 := by simp; omega
      rw [this]
      refine DL_first ho (hI i List.mem_cons_self) (hT i List.mem_cons_self) _ _ _ (Region.free_spec ho hf) hN (by simpa using hr) hs hy (DL_hoist fuel is _ _ (fun i hi => hI i (List.mem_cons_of_mem _ hi)) (fun k hk => ?_) (fun i hi => hT i (List.mem_cons_of_mem _ hi)) hB' ?_ hK)
      · by_cases hki : i = k
        · subst hki; rw [hI i List.mem_cons_self] at hk; cases hk
        · rw [getD_set_ne false hki]; exact hN k hk
      cases o.dst <;> exact hs
    · exact h.elim

end

theorem AW_mixedL {P : Program} {id : Nat} {ops : Array Oper} {K : Ex → St → Prop} {σ : St} (hm : P.follows .mixedOrders = true) (blK : Int → Option Blk) (hs : Sub blK σ.bl) (is : List Nat) (fuel n : Nat) (hn : (ops.size == fuel + is.length && is.all (fun i => decide (i < ops.size)) && hoistB ops is (Array.replicate ops.size false) && tailB ops (fun j => decide (n ≤ j)) is && is.all (fun i => decide (i < n))) = true)
    (h : HoistF P (ops.toList.map (·.dst)) blK (is.filterMap fun i => ops[i]?) (DL P ops blK (fun j => decide (n ≤ j)) (K .normal) fuel (setAll is (Array.replicate ops.size false))) σ) : AW P (.region id ops true) K σ := by
  simp only [Bool.and_eq_true, beq_iff_eq] at hn
  refine AW_drawL hm blK (tl := fun j => decide (n ≤ j)) ?_
  have := DL_hoist (P := P) (ops := ops) (blK := blK) (tl := fun j => decide (n ≤ j)) (K := K .normal) fuel is (Array.replicate ops.size false) σ
    (fun i hi => by have := List.all_eq_true.1 hn.2 i hi; simp at this ⊢; exact this) (fun k _ => by
      rw [Array.getD_eq_getD_getElem?, Array.getElem?_replicate]; split <;> rfl) (tailB_spec hn.1.2) hn.1.1.2 hs (Hoist_is _ is σ (filter_some is hn.1.1.1.2) h)
  rw [← hn.1.1.1.1] at this
  exact this

section
variable {P : Program} {ops : Array Oper} {blK : Int → Option Blk} {tl : Nat → Bool} {K : St → Prop} {fuel : Nat} {l : Array Bool} {σ : St}
theorem DL_done (hr : Region.ready .any ops l = []) (h : K σ) : DL P ops blK tl K fuel l σ := by
  cases fuel with
  | zero => exact ⟨hr, h⟩
  | succ n => exact ⟨fun _ => h, fun i hi => by rw [hr] at hi; cases hi⟩
theorem DL_op {i : Nat} {o : Oper} {e : Bool} (ho : ops[i]? = some o) (hg : o.guard = none) (he : late tl l i = e) (h : T P o (fun σ' => (e = false → Sub blK σ'.bl) ∧ DL P ops blK tl K fuel (l.setIfInBounds i true) σ') σ) :
    D1 P ops i (fun σ' => (late tl l i = false → Sub blK σ'.bl) ∧ DL P ops blK tl K fuel (l.setIfInBounds i true) σ') σ := by
  subst he; unfold D1; rw [ho]; simp only [hg]; exact h
theorem DL_one {i : Nat} {o : Oper} (e : Bool) (hr : Region.ready .any ops l = [i]) (ho : ops[i]? = some o) (hg : o.guard = none) (he : late tl l i = e) (h : T P o (fun σ' => (e = false → Sub blK σ'.bl) ∧ DL P ops blK tl K fuel (l.setIfInBounds i true) σ') σ) : DL P ops blK tl K (fuel + 1) l σ := by
  refine ⟨fun h0 => (by rw [hr] at h0; cases h0), fun k hk => ?_⟩
  rw [hr] at hk
  obtain rfl : k = i := by simpa using hk
  exact DL_op ho hg he h
theorem DL_two {i j : Nat} {o p : Oper} (e f : Bool) (hr : Region.ready .any ops l = [i, j]) (ho : ops[i]? = some o) (hg : o.guard = none) (he : late tl l i = e) (ho' : ops[j]? = some p) (hg' : p.guard = none) (he' : late tl l j = f)
    (h : T P o (fun σ' => (e = false → Sub blK σ'.bl) ∧ DL P ops blK tl K fuel (l.setIfInBounds i true) σ') σ)
    (h' : T P p (fun σ' => (f = false → Sub blK σ'.bl) ∧ DL P ops blK tl K fuel (l.setIfInBounds j true) σ') σ) : DL P ops blK tl K (fuel + 1) l σ := by
  refine ⟨fun h0 => (by rw [hr] at h0; cases h0), fun k hk => ?_⟩
  rw [hr] at hk
  rcases List.mem_cons.1 hk with rfl | hk
  · exact DL_op ho hg he h
  · obtain rfl : k = j := by simpa using hk
    exact DL_op ho' hg' he' h'
theorem DL_three {i j m : Nat} {o p q : Oper} (e f g : Bool) (hr : Region.ready .any ops l = [i, j, m]) (ho : ops[i]? = some o) (hg : o.guard = none) (he : late tl l i = e) (ho' : ops[j]? = some p) (hg' : p.guard = none) (he' : late tl l j = f) (ho2 : ops[m]? = some q) (hg2 : q.guard = none) (he2 : late tl l m = g)
    (h : T P o (fun σ' => (e = false → Sub blK σ'.bl) ∧ DL P ops blK tl K fuel (l.setIfInBounds i true) σ') σ)
    (h' : T P p (fun σ' => (f = false → Sub blK σ'.bl) ∧ DL P ops blK tl K fuel (l.setIfInBounds j true) σ') σ)
    (h2 : T P q (fun σ' => (g = false → Sub blK σ'.bl) ∧ DL P ops blK tl K fuel (l.setIfInBounds m true) σ') σ) : DL P ops blK tl K (fuel + 1) l σ := by
  refine ⟨fun h0 => (by rw [hr] at h0; cases h0), fun k hk => ?_⟩
  rw [hr] at hk
  rcases List.mem_cons.1 hk with rfl | hk
  · exact DL_op ho hg he h
  · rcases List.mem_cons.1 hk with rfl | hk
    · exact DL_op ho' hg' he' h'
    · obtain rfl : k = m := by simpa using hk
      exact DL_op ho2 hg2 he2 h2
end

/-! ### A middle that is stated -/
def seqA (P : Program) (y : Code) (K : Ex → St → Prop) (e : Ex) (σ : St) : Prop := match e with | .normal => AW P y K σ | .exit i => K (.exit i) σ | .ret => K .ret σ
@[simp] theorem seqA_normal (P : Program) (y : Code) (K : Ex → St → Prop) (σ : St) : seqA P y K .normal σ = AW P y K σ := rfl
@[simp] theorem seqA_exit (P : Program) (y : Code) (K : Ex → St → Prop) (i : Nat) (σ : St) : seqA P y K (.exit i) σ = K (.exit i) σ := rfl
@[simp] theorem seqA_ret (P : Program) (y : Code) (K : Ex → St → Prop) (σ : St) : seqA P y K .ret σ = K .ret σ := rfl
/-- Runs up to the first semicolon. -/
theorem AW_runA {P : Program} {x y : Code} {K : Ex → St → Prop} {σ : St} (h : runC P x (seqA P y K) σ) : AW P (.seq x y) K σ := by
  refine AW_seq ((AW_run h).mono fun e σ' h' => ?_)
  cases e with
  | normal => exact h'
  | exit i => exact h'
  | ret => exact h'
def midQ {α : Type} (S : α → List (Nat × V)) (B : α → Int → Option Blk) (I : α → Prop) (n : Nat) (e : Ex) (σ : St) : Prop := e = .normal ∧ ∃ a, I a ∧ Fit (S a) n (B a) σ
theorem midQ_normal {α : Type} (S : α → List (Nat × V)) (B : α → Int → Option Blk) (I : α → Prop) (n : Nat) (σ : St) : midQ S B I n .normal σ = ∃ a, I a ∧ Fit (S a) n (B a) σ := by simp [midQ]
/-- Whatever way the first goes: these slots and blocks. -/
theorem AW_mid {α : Type} {P : Program} {x y : Code} {K : Ex → St → Prop} {σ : St} (S : α → List (Nat × V)) (B : α → Int → Option Blk) (I : α → Prop) (n : Nat) (h1 : AW P x (midQ S B I n) σ)
    (h2 : ∀ a, I a → AW P y K ⟨n, hv (S a), B a⟩) : AW P (.seq x y) K σ := by
  refine AW_seq (h1.mono fun e σ' ⟨he, a, hI, hf⟩ => ?_)
  subst he
  exact AW_at _ _ _ hf (h2 a hI)

/-! ### The rules of reading regions, not by definition (else the kernel unfolds the whole region) -/
section
variable (P : Program) (ds : List (Option Tmp)) (blK : Int → Option Blk) (rest : List Oper) (K : St → Prop) (σ : St) (d : Option Tmp) (ty : TypeId) (pos : String) (af : Array Edge)
@[simp high] theorem HoistF_call_x (f : Operand) (args : Array Operand) (ats : Array TypeId) : HoistF P ds blK (⟨d, .call ⟨.value f, args, ats⟩, ty, pos, af, none⟩ :: rest) K σ = hcQ P ds blK rest K σ d (callV σ f args.toList) := (rfl)
@[simp high] theorem HoistF_len_x (x : Operand) (t : TypeId) : HoistF P ds blK (⟨d, .call ⟨.builtin .len, #[x], #[t]⟩, ty, pos, af, none⟩ :: rest) K σ = hoQ P ds blK rest K σ d (lenV P t (σ.ev x)) := (rfl)
@[simp high] theorem HoistF_pick_x (c a b : Operand) : HoistF P ds blK (⟨d, .pick c a b, ty, pos, af, none⟩ :: rest) K σ = hoQ P ds blK rest K σ d (qval P blK σ (.pick c a b)) := (rfl)
@[simp high] theorem HoistF_load_x (t : TypeId) (x : Operand) : HoistF P ds blK (⟨d, .load t x, ty, pos, af, none⟩ :: rest) K σ = hoQ P ds blK rest K σ d (qval P blK σ (.load t x)) := (rfl)
@[simp high] theorem HoistF_nilCheck_x (x : Operand) : HoistF P ds blK (⟨d, .nilCheck x, ty, pos, af, none⟩ :: rest) K σ = hoQ P ds blK rest K σ d (nilV (σ.ev x)) := (rfl)
@[simp high] theorem HoistF_binOp_x (op : BinOp) (t : TypeId) (x y : Operand) (t' : TypeId) : HoistF P ds blK (⟨d, .binOp op t x y t', ty, pos, af, none⟩ :: rest) K σ = hoQ P ds blK rest K σ d (binV P op t (σ.ev x) (σ.ev y)) := (rfl)
@[simp high] theorem HoistF_unOp_x (op : UnOp) (t : TypeId) (x : Operand) : HoistF P ds blK (⟨d, .unOp op t x, ty, pos, af, none⟩ :: rest) K σ = hoQ P ds blK rest K σ d (unV op (σ.ev x)) := (rfl)
@[simp high] theorem HoistF_convert_x (s t : TypeId) (x : Operand) : HoistF P ds blK (⟨d, .convert s t x, ty, pos, af, none⟩ :: rest) K σ = hoQ P ds blK rest K σ d (cvtV P blK s t (σ.ev x)) := (rfl)
@[simp high] theorem HoistF_slice_x (t : TypeId) (x : Operand) (lo hi : Option Operand) : HoistF P ds blK (⟨d, .slice t x lo hi none, ty, pos, af, none⟩ :: rest) K σ = hoQ P ds blK rest K σ d (sliV P t (σ.ev x) (lo.map σ.ev) (hi.map σ.ev)) := (rfl)
@[simp high] theorem HoistF_fieldAddr_x (t : TypeId) (x : Operand) (i : Nat) : HoistF P ds blK (⟨d, .fieldAddr t x i, ty, pos, af, none⟩ :: rest) K σ = hoQ P ds blK rest K σ d (fldV P t i (σ.ev x)) := (rfl)
@[simp high] theorem HoistF_field_x (t : TypeId) (x : Operand) (i : Nat) : HoistF P ds blK (⟨d, .field t x i, ty, pos, af, none⟩ :: rest) K σ = hoQ P ds blK rest K σ d (fieldV P t i (σ.ev x)) := (rfl)
@[simp high] theorem HoistF_indexAddr_x (t : TypeId) (x i : Operand) : HoistF P ds blK (⟨d, .indexAddr t x i, ty, pos, af, none⟩ :: rest) K σ = hoQ P ds blK rest K σ d (idxV P t (σ.ev x) (σ.ev i)) := (rfl)
@[simp high] theorem HoistF_index_x (t : TypeId) (x i : Operand) : HoistF P ds blK (⟨d, .index t x i, ty, pos, af, none⟩ :: rest) K σ = hoQ P ds blK rest K σ d (idsV P t (σ.ev x) (σ.ev i)) := (rfl)
@[simp high] theorem HoistF_extract_x (x : Operand) (i : Nat) : HoistF P ds blK (⟨d, .extract x i, ty, pos, af, none⟩ :: rest) K σ = hoQ P ds blK rest K σ d (extV i (σ.ev x)) := (rfl)
end

/-! ### Guards in regions that draw and read -/
def hgQ (P : Program) (ds : List (Option Tmp)) (blK : Int → Option Blk) (rest : List Oper) (K : St → Prop) (σ : St) (d : Option Tmp) (op : Op) (b : Bool) (v : V) : Prop := match v with
  | .bool q => if q = b then bindP (qval P blK σ op) fun v => HoistF P ds blK rest K (σ.put d v) else HoistF P ds blK rest K (σ.put d (.tup []))
  | .tup [] => HoistF P ds blK rest K (σ.put d (.tup []))
  | _ => False
def hgS (P : Program) (ds : List (Option Tmp)) (blK : Int → Option Blk) (rest : List Oper) (K : St → Prop) (σ : St) (d : Option Tmp) (op : Op) (b : Bool) (x : Option (Option Tmp)) : Prop := match x with
  | some (some t) => hgQ P ds blK rest K σ d op b (σ.ev (.tmp t))
  | _ => False
section
variable (P : Program) (ds : List (Option Tmp)) (blK : Int → Option Blk) (rest : List Oper) (K : St → Prop) (σ : St) (d : Option Tmp) (op : Op) (ty : TypeId) (pos : String) (af : Array Edge) (b : Bool)
@[simp] theorem HoistF_guard (j : Nat) : HoistF P ds blK (⟨d, op, ty, pos, af, some (j, b)⟩ :: rest) K σ = hgS P ds blK rest K σ d op b (ds[j]?) := (rfl)
@[simp] theorem hgS_some (t : Tmp) : hgS P ds blK rest K σ d op b (some (some t)) = hgQ P ds blK rest K σ d op b (σ.ev (.tmp t)) := (rfl)
@[simp] theorem hgQ_tt : hgQ P ds blK rest K σ d op true (.bool true) = hoQ P ds blK rest K σ d (qval P blK σ op) := by simp [hgQ, hoQ]
@[simp] theorem hgQ_ff : hgQ P ds blK rest K σ d op false (.bool false) = hoQ P ds blK rest K σ d (qval P blK σ op) := by simp [hgQ, hoQ]
@[simp] theorem hgQ_tf : hgQ P ds blK rest K σ d op true (.bool false) = HoistF P ds blK rest K (σ.put d (.tup [])) := by simp [hgQ]
@[simp] theorem hgQ_ft : hgQ P ds blK rest K σ d op false (.bool true) = HoistF P ds blK rest K (σ.put d (.tup [])) := by simp [hgQ]
@[simp] theorem hgQ_skip : hgQ P ds blK rest K σ d op b (.tup []) = HoistF P ds blK rest K (σ.put d (.tup [])) := (rfl)
end

/-! ### Regions that draw and read, by way of a few slots -/
theorem HoistF_frame {P : Program} {ds : List (Option Tmp)} {blK : Int → Option Blk} {K : St → Prop} (S : List (Option Tmp)) (σ0 : St) : ∀ (l : List Oper) (σ : St), HoistF P ds blK l K σ → (∀ o, o ∈ l → o.dst ∈ S) → (σ.n = σ0.n ∧ ∀ t, some t ∉ S → σ.sl t = σ0.sl t) →
    HoistF P ds blK l (fun σ' => K σ' ∧ σ'.n = σ0.n ∧ ∀ t, some t ∉ S → σ'.sl t = σ0.sl t) σ
  | [], σ, h, _, h0 => ⟨h, h0⟩
  | o :: rest, σ, h, hS, h0 => by
    have next : ∀ v, HoistF P ds blK rest K (σ.put o.dst v) → HoistF P ds blK rest (fun σ' => K σ' ∧ σ'.n = σ0.n ∧ ∀ t, some t ∉ S → σ'.sl t = σ0.sl t) (σ.put o.dst v) := fun v hv =>
      HoistF_frame S σ0 rest _ hv (fun o' ho' => hS o' (List.mem_cons_of_mem _ ho')) (by
        have hd := hS o List.mem_cons_self
        cases hod : o.dst with
        | none => exact h0
        | some d =>
          rw [hod] at hd
          exact ⟨h0.1, fun t ht => by
            show upd σ.sl d v t = _
            rw [upd_ne _ _ _ _ (fun e => ht (by rw [e]; exact hd))]; exact h0.2 t ht⟩)
    unfold HoistF at h ⊢
    cases hg : o.guard with
    | none =>
      simp only [hg] at h ⊢
      split at h
      · obtain ⟨p, h1, v, n, ys, h2, h3⟩ := h
        exact ⟨p, h1, v, n, ys, h2, next v h3⟩
      · obtain ⟨v, h1, h2⟩ := h
        exact ⟨v, h1, next v h2⟩
    | some jb =>
      obtain ⟨j, b⟩ := jb
      simp only [hg] at h ⊢
      split at h
      · rename_i d hd
        split at h
        · split at h
          · rename_i hq
            obtain ⟨v, h1, h2⟩ := h
            rw [if_pos hq]
            exact ⟨v, h1, next v h2⟩
          · rename_i hq
            rw [if_neg hq]
            exact next _ h
        · exact next _ h
        · exact h.elim
      · exact h.elim
theorem hv_of {f : Nat → V} : ∀ (l : List (Nat × V)), (∀ p, p ∈ l → f p.1 = p.2) → ∀ p, p ∈ l → hv l p.1 = f p.1
  | [], _, p, hp => by cases hp
  | (u, y) :: r, h, p, hp => by
    unfold hv
    by_cases e : p.1 = u
    · rw [if_pos e, e]; exact (h (u, y) List.mem_cons_self).symm
    · rw [if_neg e]
      rcases List.mem_cons.1 hp with rfl | hp
      · exact absurd rfl e
      · exact hv_of r (fun q hq => h q (List.mem_cons_of_mem _ hq)) p hp
theorem AW_qway {P : Program} {id : Nat} {ops : Array Oper} {K : Ex → St → Prop} {σ : St} (hm : P.follows .mixedOrders = true) (hB : quietB ops = true) (l : List (Nat × V)) (n : Nat) (bl : Int → Option Blk) (t : Nat) (v : V) (hf : Fit l n bl σ) (hd : (l.all fun p => !(ops.toList.map (·.dst)).contains (some p.1)) = true)
    (h1 : HoistF P (ops.toList.map (·.dst)) bl ops.toList (fun σ' => σ'.sl t = v ∧ σ'.bl = bl) ⟨n, hv l, bl⟩) (h2 : K .normal ⟨n, hv ((t, v) :: l), bl⟩) : AW P (.region id ops true) K σ := by
  refine AW_at l n bl hf ?_
  have hq : AW P (.region id ops true) (fun e σ' => e = .normal ∧ (σ'.sl t = v ∧ σ'.bl = bl) ∧ σ'.n = n ∧ ∀ u, some u ∉ ops.toList.map (·.dst) → σ'.sl u = hv l u) ⟨n, hv l, bl⟩ := by
    refine AW_quiet hm hB ?_
    have := HoistF_frame (ops.toList.map (·.dst)) ⟨n, hv l, bl⟩ ops.toList ⟨n, hv l, bl⟩ h1 (fun o ho => List.mem_map_of_mem ho) ⟨rfl, fun _ _ => rfl⟩
    simpa using this
  intro w0 M F a w hs
  refine wp_mono (hq w0 M F a w hs) fun e a' w' hp => ?_
  obtain ⟨ex, σ', F', e1, e2, e3, rfl, ⟨k1, k2⟩, k3, k4⟩ := hp
  refine ⟨.normal, ⟨n, hv ((t, v) :: l), bl⟩, F', e1, e2, e3.le ?_, h2⟩
  refine le_hv ⟨k3, fun p hp => ?_, by rw [k2]; exact Sub.refl _⟩
  rcases List.mem_cons.1 hp with rfl | hp
  · exact k1
  · have := List.all_eq_true.1 hd p hp
    have h5 : some p.1 ∉ ops.toList.map (·.dst) := by
      intro hc
      rw [Bool.not_eq_true'] at this
      have h6 := List.contains_iff_mem.2 hc
      rw [this] at h6; cases h6
    rw [k4 _ h5, hv_of l hf.2.1 p hp, hf.2.1 p hp]

/-- Whatever way a region goes, it keeps these slots and blocks, and sets one slot; what it makes besides is let go. -/
theorem AW_wayS {P : Program} {id : Nat} {ops : Array Oper} {K : Ex → St → Prop} {σ : St} (l : List (Nat × V)) (n : Nat) (bl : Int → Option Blk) (t : Nat) (v : V) (hf : Fit l n bl σ) (hd : (l.all fun p => !(ops.toList.map (·.dst)).contains (some p.1)) = true)
    (h1 : OpsF P (ops.toList.map (·.dst)) ops.toList (fun σ' => σ'.sl t = v ∧ Sub bl σ'.bl) ⟨n, hv l, bl⟩) (h2 : K .normal ⟨n, hv ((t, v) :: l), bl⟩) : AW P (.region id ops false) K σ := by
  refine AW_at l n bl hf ?_
  have hq : AW P (.region id ops false) (fun e σ' => e = .normal ∧ (σ'.sl t = v ∧ Sub bl σ'.bl) ∧ σ'.n = n ∧ ∀ u, some u ∉ ops.toList.map (·.dst) → σ'.sl u = hv l u) ⟨n, hv l, bl⟩ := by
    refine AW_region ?_
    exact Ops_mono _ (Ops_frame _ (Ops_of h1)) fun σ' h => ⟨rfl, h⟩
  intro w0 M F a w hs
  refine wp_mono (hq w0 M F a w hs) fun e a' w' hp => ?_
  obtain ⟨ex, σ', F', e1, e2, e3, rfl, ⟨k1, k2⟩, k3, k4⟩ := hp
  refine ⟨.normal, ⟨n, hv ((t, v) :: l), bl⟩, F', e1, e2, e3.le ?_, h2⟩
  refine le_hv ⟨k3, fun p hp => ?_, k2⟩
  rcases List.mem_cons.1 hp with rfl | hp
  · exact k1
  · have := List.all_eq_true.1 hd p hp
    have h5 : some p.1 ∉ ops.toList.map (·.dst) := by
      intro hc
      rw [Bool.not_eq_true'] at this
      have h6 := List.contains_iff_mem.2 hc
      rw [this] at h6; cases h6
    rw [k4 _ h5, hv_of l hf.2.1 p hp, hf.2.1 p hp]

/-! ### A call that is handed data of the call's own for good -/
theorem callP_give {P : Program} {f : FuncId} {xs ys : List V} {bl bl2 : Int → Option Blk} {k : V → (Int → Option Blk) → Prop} (n : Nat) (hs : Sub bl2 bl) (hx : frzL (dropB bl bl2) n xs = some ys) (h : CallP P f ys bl2 k) : CallP P f xs bl k := by
  refine ⟨h.1, fun w0 M F w vs hm hrep => ?_⟩
  have hlen := frzL_get hx
  have hreps : Reps (fun k => F k ∨ Own (dropB bl bl2) k) w ys vs := by
    refine ⟨by rw [hrep.1, hlen.1], fun i y hy => ?_⟩
    obtain ⟨x, h1, h2⟩ := hlen.2 i y hy
    exact frz_sound (fun g b hb => dropB_blk hm g b hb) (fun g b hb h0 => .inr ⟨g, b, hb, h0, rfl⟩) (fun b hb => .inl hb) n x y _ (hrep.2 i x h1) h2
  exact (h.2 w0 M _ w vs (hm.freeze hs) hreps).mono fun e w' ⟨v, r, bl', F', h1, h2, h3, h4, h5, h6, h7⟩ => ⟨v, r, bl', F', h1, fun b hb => h2 b (.inl hb), fun b hb => h3 b (.inl hb), h4, h5, h6, h7⟩
theorem callP_gro {P : Program} {f : FuncId} {xs : List V} {bl : Int → Option Blk} {r : V} {k : V → (Int → Option Blk) → Prop} (n : Nat) (bl2 : Int → Option Blk) (ys : List V) (hs : Sub bl2 bl) (hx : frzL (dropB bl bl2) n xs = some ys) (h : RO P f ys r) (hk : k r bl2) : CallP P f xs bl k :=
  callP_give n hs hx (callP_ro h hk)

/-- Less is held fast than there is. -/
theorem AW_mixedB {P : Program} {id : Nat} {ops : Array Oper} {K : Ex → St → Prop} {σ : St} (hm : P.follows .mixedOrders = true) (blK : Int → Option Blk) (hs : Sub blK σ.bl) (is : List Nat) (fuel : Nat) (hn : (ops.size == fuel + is.length && is.all (fun i => decide (i < ops.size)) && hoistB ops is (Array.replicate ops.size false)) = true)
    (h : HoistF P (ops.toList.map (·.dst)) blK (is.filterMap fun i => ops[i]?) (DAny P ops blK (fun _ => false) (K .normal) fuel (setAll is (Array.replicate ops.size false))) σ) : AW P (.region id ops true) K σ := by
  simp only [Bool.and_eq_true, beq_iff_eq] at hn
  exact AW_draw_mixed hm is fuel blK hs hn.1.1 hn.2 (tl := fun _ => false) (fun _ _ _ _ h => by cases h) (Hoist_is _ is σ (filter_some is hn.1.2) h)

end Go.Proofs.YticmgmemnpcbbaaGreat.Vm
