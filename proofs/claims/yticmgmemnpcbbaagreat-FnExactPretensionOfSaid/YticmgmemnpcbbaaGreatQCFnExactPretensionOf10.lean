/- FnExactPretensionOf: for every structure the program's PretensionOf returns what the reference's returns; no condition. -/



import Derived.Test.YticmgmemnpcbbaaGreatQCFnExactPretensionOf9

namespace Go.Proofs.YticmgmemnpcbbaaGreat.Vm
open Go Go.RowKit Go.Proofs
set_option linter.unusedSimpArgs false
set_option linter.unusedVariables false
section
variable {P : Program}
theorem Mem.see {w0:World} {M F:Nat→Prop} {bl:Int→Option Blk} {w:World} (hm:Mem w0 M F bl w) {g:Int} {b b':Blk} (hb:bl g=some b) (hB:cY F w g b'):Mem w0 M F (upd bl g (some b')) w:=by
 refine⟨hm.os,hm.tape,hm.output,hm.size,hm.frame,hm.kA,hm.fr,?_,fun x c hx h0=> ?_,fun x c hx=> ?_⟩
 ·obtain⟨n,hn⟩:=hm.fin
  refine⟨n,fun x hx=> ?_⟩
  have:=hn x hx
  by_cases hxg:x=g
  ·subst hxg;rw[hb] at this;cases this
  ·rw[aG _ _ _ _ hxg];exact this
 ·by_cases hxg:x=g
  ·subst hxg;exact hm.own x _ hb h0
  ·rw[aG _ _ _ _ hxg] at hx
   exact hm.own x c hx h0
 ·by_cases hxg:x=g
  ·subst hxg
   rw[aV] at hx
   cases hx;exact hB
  ·rw[aG _ _ _ _ hxg] at hx
   exact hm.blk x c hx
def uns (cs:List V):List (List V):=cs.map fun x=> [x]
theorem Bd {F:Nat→Prop} {w:World} {g:Int} {cs:List V} (h0:0≤g):cY F w g ⟨1,uns cs⟩ ↔ cY F w g ⟨cs.length,[cs]⟩:=by
 unfold cY uns
 rw[if_neg (by omega),if_neg (by omega)]
 constructor
 ·rintro⟨h1,c,t,h2,h3,h4⟩
  refine⟨h1,c,t,h2,by simpa using h3,fun k e he=> ?_⟩
  have hk:k=0:=by
   have:=(List.getElem?_eq_some_iff.1 he).1
   simpa using this
  subst hk
  cases he
  refine⟨rfl,fun j x hx=> ?_⟩
  obtain⟨-,h5⟩:=h4 j [x] (by simp[hx])
  obtain⟨h6,v,h7,h8⟩:=h5 0 x rfl
  exact⟨h6,v,by simpa using h7,h8⟩
 ·rintro⟨h1,c,t,h2,h3,h4⟩
  refine⟨h1,c,t,h2,by simpa using h3,fun k e he=> ?_⟩
  simp only[List.getElem?_map] at he
  cases hk:cs[k]? with
  | none => rw [hk] at he; cases he
  | some y =>
    rw[hk] at he;cases he
    refine⟨rfl,fun j x hx=> ?_⟩
    have hj:j=0:=by
     have:=(List.getElem?_eq_some_iff.1 hx).1
     simpa using this
    subst hj
    cases hx
    obtain⟨-,h5⟩:=h4 0 cs rfl
    obtain⟨h6,v,h7,h8⟩:=h5 k y hk
    exact⟨h6,v,by simpa using h7,h8⟩
def TS (P:Program) (o:Oper) (K:St→Prop) (σ:St):Prop:= ∀(w0:World) (M F:Nat→Prop) (a:Act) (w:World) (Q:Exit→Act→World→Prop),Sim w0 M F σ a w→o.wp P a w (Nx w0 M F K) Q
theorem Tb {ops:Array Oper} {Q:Exit→Act→World→Prop} {F0:Nat→Prop} {w0:World} {M:Nat→Prop} {K:St→Prop} {r:List Oper} (hQ: ∀σ F a w,(∀b,F0 b→F b)→Sim w0 M F σ a w→K σ→wpList P ops Q r a w) (l:List Oper):
  ∀(σ:St) (F:Nat→Prop) (a:Act) (w:World),(∀b,F0 b→F b)→Ops P (ops.toList.map (·.dst)) l K σ→Sim w0 M F σ a w→wpList P ops Q (l++r) a w:=by
 induction l with
 | nil => intro σ F a w hF h hs; exact hQ σ F a w hF hs h
 | cons o rest ih =>
   intro σ F a w hF h hs
   have next:T P o (Ops P (ops.toList.map (·.dst)) rest K) σ→o.wp P a w (wpList P ops Q (rest++r)) Q:=fun hT=>
    Oper.wp_mono (fun a' w' hn=>by
     obtain⟨σ',F',hF',hs',hK⟩:=hn
     exact ih σ' F' a' w' (fun b hb=>hF' b (hF b hb)) hK hs') (V4 hT hs)
   unfold Ops at h
   rw[List.cons_append]
   unfold wpList
   split at h
   ·rename_i hg
    rw[if_pos (by simp[Region.wanted,hg])]
    exact .inl (next h)
   ·rename_i j b hg
    split at h
    ·rename_i d hd
     rcases jC h with ⟨q,hq,h1,h2⟩| ⟨hq,h1⟩
     rotate_left
     ·rw[if_neg (by simp[Region.wanted,hg,pE hd hs hq])]
      exact ih _ F _ w hF h1 (hs.put oK)
     have hy:=H6 hd hs hq
     by_cases hqb:q=b
     ·rw[if_pos (by simp[Region.wanted,hg,hy,hqb])]
      have h1':=h1 hqb
      subst hqb
      rw[oH hq] at h1'
      exact .inl (next h1')
     ·rw[if_neg (by simp[Region.wanted,hg,hy,hqb])]
      have Gl:q= !b:=by cases q<;>cases b<;>simp_all
      have h2':=h2 Gl
      rw[←Gl,oH hq] at h2'
      exact ih _ F _ w hF h2' (hs.put oK)
    ·exact h.elim
theorem Iv {id:Nat} {ops:Array Oper} {K:Ex→St→Prop} {σ:St} (o:Oper) (ho:ops.toList.getLast? =some o) (hg:o.guard=none) (h:OpsF P (ops.toList.map (·.dst)) ops.toList.dropLast (TS P o (K .normal)) σ):AW P (.region id ops false) K σ:=by
 intro w0 M F a w hs
 refine wp_region_list ?_
 have e:ops.toList=ops.toList.dropLast++ [o]:=by
  obtain⟨hne,hl⟩:=List.getLast?_eq_some_iff.1 ho
  rw[hl];simp
 have hgo:=Tb (P:=P) (ops:=ops) (Q:=W4 w0 M F K) (F0:=F) (w0:=w0) (M:=M) (r:= [o]) (K:=TS P o (K .normal)) (fun σ' F' a' w' hF' hs' hK=>by
  unfold wpList
  rw[if_pos (by simp[Region.wanted,hg])]
  refine .inl (Oper.wp_mono (fun a2 w2 hn=> ?_) (hK w0 M F' a' w' _ hs'))
  obtain⟨σ2,F2,h1,h2,h3⟩:=hn
  exact⟨.normal,σ2,F2,rfl,fun b hb=>h1 b (hF' b hb),h2,h3⟩) ops.toList.dropLast σ F a w (fun _ h=>h) (wG h) hs
 rw[←e] at hgo
 exact hgo
theorem N6 : ∀(cs l:List V) (o:Nat),o+cs.length≤l.length→splice l o cs=l.take o++(cs++l.drop (o+cs.length))
 | [], l, o, h => by simp [splice]
 | c :: cs, l, o, h => by
   rw[splice,N6 cs (l.set o c) (o+1) (by simp at h ⊢;omega)]
   simp only[List.length_cons] at h
   rw[List.take_succ_eq_append_getElem (by simp;omega),List.getElem_set_self,List.take_set_of_le (Nat.le_refl _),List.drop_set_of_lt (by omega)]
   simp[Nat.add_assoc,Nat.add_comm 1]
theorem Hu {α β:Type} [DecidableEq α] (f:α→β) (a:α) (b c:β):upd (upd f a b) a c=upd f a c:=by
 funext x
 simp only[aA]
 split<;>rfl
theorem Mem.Ph {w0:World} {M F:Nat→Prop} {bl:Int→Option Blk} {w:World} (hm:Mem w0 M F bl w) {g:Int} {cs ys:List V} (h0:0≤g) (hb:bl g=some ⟨1,uns cs⟩) (hle:ys.length≤cs.length) (gG: ∀x,x∈ys→x.one=true)
  {vs:List Value} (hvl:vs.length=ys.length) (hvr: ∀(i:Nat) (x:V),ys[i]? =some x→ ∃v,vs[i]? =some v∧Rep F w x v) (hvo: ∀v,v∈vs→v.oneCell'=true):
  ∃w',(storeCells ⟨g.toNat,0,none⟩ vs).run P w= .ok () w'∧Mem w0 M F (upd bl g (some ⟨1,uns (ys++cs.drop ys.length)⟩)) w'∧(∀k,F k→w'.heap[k]? =w.heap[k]?)∧fH w w':=by
 have m1:=hm.see hb ((Bd h0).1 (hm.blk g _ hb))
 obtain⟨w',h1,h2,h3,h4⟩:=m1.store (P:=P) (g:=g) (b:=⟨cs.length,[cs]⟩) (k:=0) (j:=0) (e:=cs) (cs:=ys) (aV _ _ _) rfl (by simpa using hle) gG hvl hvr hvo
 have hsp:splice cs 0 ys=ys++cs.drop ys.length:=by rw[N6 ys cs 0 (by omega)];simp
 have hl:(ys++cs.drop ys.length).length=cs.length:=by simp;omega
 rw[Hu] at h2
 simp only[List.set_cons_zero,hsp] at h2
 have m2:=h2.see (aV _ _ _) ((Bd (cs:=ys++cs.drop ys.length) h0).2 (by rw[hl];exact h2.blk g _ (aV _ _ _)))
 rw[Hu] at m2
 exact⟨w',by simpa using h1,m2,h3,h4⟩
theorem Xe {d:Option Nat} {ty:TypeId} {pos:String} {af:Array Edge} {gd:Option (Nat×Bool)} {K:St→Prop} {σ:St} {x y:Operand} {t tx e:TypeId} {g:Int} {n:Nat} {cs ys:List V} (hx:σ.ev x= .lsl g 1 0 n) (hy:σ.ev y= .sl (uns ys))
  (h0:0≤g) (hb:σ.bl g=some ⟨1,uns cs⟩) (hcn:cs.length=n) (hle:ys.length≤n) (hys:((uns ys).all fun c=>c.length==1 && c.all V.one)=true) (he:slE P t=some e) (hz:csz P e=some 1)
  (hK:K (({ σ with bl:=upd σ.bl g (some ⟨1,uns (ys++cs.drop ys.length)⟩) } :St).put d (.int .i64 ys.length))):
  TS P ⟨d,.call { callee:= .builtin .copy,args:= #[x,y],argTypes:= #[t,tx] },ty,pos,af,gd⟩ K σ:=by
 intro w0 M F a w Q hs
 have hxr:=hs.ev x
 rw[hx] at hxr
 have hyr:=hs.ev y
 rw[hy] at hyr
 rcases X6 hxr with ⟨cO, -⟩| ⟨hg,cap,hlc,kI,hav, -⟩
 ·omega
 have hL:=pN hs.mem hyr (sz:=1) (Nat.le_refl _) (ys:=uns ys) (by simp only[elsV];rw[if_pos hys])
 obtain⟨xa,xc,news,hxv,hnl,hnc,hno,hnr⟩:=hL
 have hul:(uns ys).length=ys.length:=by simp[uns]
 rw[hul] at hxv hnl
 have hf:(Builtin.firstCells 1 ys.length (.slice xa ys.length xc)).run P w= .ok news.toArray w:=by
  rcases hnc with h | ⟨bb,off,rfl,mB⟩
  ·have hy0:ys= []:=by cases ys with
    | nil => rfl
    | cons => simp [uns] at h
   subst hy0
   have hn0:news= []:=List.eq_nil_of_length_eq_zero (by simpa using hnl)
   subst hn0
   cases xa<;>simp[Builtin.firstCells,loadCells,loadCellsFrom]
  ·exact run_firstCells_some w 1 ys.length ⟨bb,off,none⟩ ys.length xc news hnl (fun j u hu=>by rw[fF];exact mB j u hu)
 have gG: ∀z,z∈ys→z.one=true:=fun z hz=>by
  have:=List.all_eq_true.1 hys [z] (by simp[uns,hz])
  simpa using this
 obtain⟨w',h1,h2,h3,h4⟩:=hs.mem.Ph (P:=P) (vs:=news) h0 hb (by omega) gG (by simpa using hnl) (fun i z hz=>by
  obtain⟨-,h6⟩:=hnr i [z] (by simp[uns,hz])
  obtain⟨-,u,h7,h8⟩:=h6 0 z rfl
  exact⟨u,by simpa using h7,h8⟩) hno
 have hs':Sim w0 M F ({ σ with bl:=upd σ.bl g (some ⟨1,uns (ys++cs.drop ys.length)⟩) } :St) a w':=⟨h2,hs.size,fun t ht=>(hs.sl t ht).mono (fun _ h=>h) h3 h4,hs.defers⟩
 refine bP (v:=goInt ys.length) (w':=w') ?_ ⟨_,F,fun _ h=>h,hs'.put (.int _ _),hK⟩
 have aUG:Nat.min ys.length n=ys.length:=Nat.min_eq_left hle
 simp only[execOp,resolve,Sem.run_bind,Sem.run_pure,Result.andThen_ok,invoke,builtin,List.map_toArray,List.map_cons,List.map_nil,Builtin.copy_,List.getElem?_toArray,List.getElem?_cons_zero,List.getElem?_cons_succ,run_underlying (cQ he),hav,hxv,Builtin.lenOf,aUG,run_sizeOf hz,hf]
 rw[Nat.zero_mul,h1];rfl
theorem Mj {e:TypeId} {u:V} (h:zeroC P e=some [u]): ∃i z v,P.info? e=some i∧i.zero=some z∧z.cells= #[v]∧ofCell v=u∧u.one=true:=by
 obtain⟨i,z,h1,h2,h3,h4,h5⟩:=kG h
 have hl:z.cells.toList.length=1:=by
  have:=congrArg List.length h3
  simpa using this.symm
 obtain⟨v,hv⟩:=List.length_eq_one_iff.1 hl
 rw[hv] at h3
 refine⟨i,z,v,h1,h2,?_,?_,by simpa using h4⟩
 ·rw[←Array.toArray_toList (xs:=z.cells),hv]
 ·simpa using h3.symm
theorem Ty {d:Option Nat} {ty:TypeId} {pos:String} {af:Array Edge} {gd:Option (Nat×Bool)} {K:St→Prop} {σ:St} {x:Operand} {t e:TypeId} {g:Int} {n:Nat} {cs:List V} {u:V} (hx:σ.ev x= .lsl g 1 0 n)
  (h0:0≤g) (hb:σ.bl g=some ⟨1,uns cs⟩) (hcn:cs.length=n) (he:slE P t=some e) (hz:zeroC P e=some [u])
  (hK:K (({ σ with bl:=upd σ.bl g (some ⟨1,uns (List.replicate n u)⟩) } :St).put d (.tup []))):
  TS P ⟨d,.call { callee:= .builtin .clear,args:= #[x],argTypes:= #[t] },ty,pos,af,gd⟩ K σ:=by
 intro w0 M F a w Q hs
 obtain⟨i,z,v,hi,hzz,hzc,hvu,hu1⟩:=Mj hz
 have hxr:=hs.ev x
 rw[hx] at hxr
 rcases X6 hxr with ⟨cO, -⟩| ⟨hg,cap,hlc,kI,hav, -⟩
 ·omega
 have hru:Rep F w u v:=by rw[←hvu];exact qC F w v
 obtain⟨w',h1,h2,h3,h4⟩:=hs.mem.Ph (P:=P) (ys:=List.replicate n u) (vs:=List.replicate n v) h0 hb (by simp;omega) (fun z hz=>by rw[(List.mem_replicate.1 hz).2];exact hu1) (by simp) (fun i y hy=>by
  have hin:i<n:=by have:=(List.getElem?_eq_some_iff.1 hy).1;simpa using this
  rw[List.getElem?_replicate,if_pos hin] at hy
  cases hy
  exact⟨v,by rw[List.getElem?_replicate,if_pos hin],hru⟩) (fun y hy=>by rw[(List.mem_replicate.1 hy).2];exact hru.one hu1)
 have hd:List.replicate n u++cs.drop (List.replicate n u).length=List.replicate n u:=by simp[hcn]
 rw[hd] at h2
 have hs':Sim w0 M F ({ σ with bl:=upd σ.bl g (some ⟨1,uns (List.replicate n u)⟩) } :St) a w':=⟨h2,hs.size,fun t ht=>(hs.sl t ht).mono (fun _ h=>h) h3 h4,hs.defers⟩
 refine bP (v:= .tuple #[]) (w':=w') ?_ ⟨_,F,fun _ h=>h,hs'.put (.tup _ _ rfl (by simp)),hK⟩
 have hzl:(Builtin.zeroCells z.cells n).toList=List.replicate n v:=by
  rw[hzc]
  apply List.ext_getElem
  ·simp[Builtin.zeroCells]
  ·intro j h1 h2
   simp[Builtin.zeroCells,Nat.mod_one]
 have hzv:(zeroValue e).run P w= .ok z w:=by simp[zeroValue,typeInfo,hi,hzz]
 cases n with
 | zero =>
   have hw:w'=w:=by simpa [storeCells] using h1.symm
   subst hw
   simp only[execOp,resolve,Sem.run_bind,Sem.run_pure,Result.andThen_ok,invoke,builtin,List.map_toArray,List.map_cons,List.map_nil,Builtin.clear_,List.getElem?_toArray,List.getElem?_cons_zero,run_underlying (cQ he),hav]
 | succ n =>
   simp only[execOp,resolve,Sem.run_bind,Sem.run_pure,Result.andThen_ok,invoke,builtin,List.map_toArray,List.map_cons,List.map_nil,Builtin.clear_,List.getElem?_toArray,List.getElem?_cons_zero,run_underlying (cQ he),hav,hzv,hzl]
   rw[Nat.zero_mul,h1];rfl
end

structure Stg (n m : Nat) (E : Nat → Nat → Rat) (C : Nat → Rat) (rows : List Nat) (q : Nat) (fr : Nat → Bool) (t : Lp.Tab) : Prop where
 mid:Lp.Mid n m 1000 E rows (fO (n+m) fr) t
 sel:Lp.Sel n m (n+m) E C q (fO (n+m) fr)
theorem Sy {m N:Nat} {O:Nat→Int} {t:Lp.Tab} {fr:Nat→Bool} (hf:Lp.fstP (Lp.okW m (wO O) (fO N fr) t) N=none):fO N (frK m O t fr N)=Lp.Fn m (wO O) (fO N fr) t:=by
 funext c
 refine propext ?_
 unfold fO Lp.Fn frK
 constructor
 ·rintro⟨h1,h2⟩
  rw[if_pos h1,Bool.and_eq_true] at h2
  obtain⟨h3,h4⟩:=h2
  have h5: ¬ Lp.rc m (wO O) t c<0:=by simpa using h4
  have h6:=Lp.fD.1 hf c h1
  unfold Lp.okW fO at h6
  refine⟨⟨h1,h3⟩,?_⟩
  have h7: ¬ 0<Lp.rc m (wO O) t c:=fun g=>h6 ⟨⟨h1,h3⟩,g⟩
  grind
 ·rintro⟨⟨h1,h2⟩,h3⟩
  refine⟨h1,?_⟩
  rw[if_pos h1,h2,h3]
  have: ¬ ((0:Rat)<0):=by decide
  simp[this]
theorem At {bl:Int→Option Blk} {K:V→(Int→Option Blk)→Prop} (n m:Nat) (E:Nat→Nat→Rat) (rows:List Nat) (g:TG) (t:Lp.Tab) (fr:Nat→Bool) (C:Nat→Rat) (q:Nat) (O:Nat→Int) (gO:Int)
  (hm:m≤17) (hn:n+m≤100) (hr:Rows m rows) (hS:Stg n m E C rows q fr t) (hw:wO O=Lp.wl C q) (hO: ∀c,(O c).natAbs≤1000) (hO0: ∀c,n≤c→O c=0)
  (hTT:TT bl g (cD n m E rows t fr)) (hgO:bl gO=some ⟨1,iv (lz (n+m) O)⟩) (hg0:0≤gO) (hgn:gO∉g.all)
  (hT: ∀b' t' fr',Stg n m E C rows (q+1) fr' t'→TT b' g (cD n m E rows t' fr')→(∀x y,bl x=some y→x∉g.all→b' x=some y)→K (.bool true) b')
  (hF: ∀b',q=0→Lp.Unb n m E (n+m) C→(∃x,Lp.kB n m E (n+m) x)→(∀x y,bl x=some y→x∉g.all→b' x=some y)→K (.bool false) b'):
  cH Tryz.prog 205 [.loc g.T 6 0 0,.lsl gO 1 0 (n+m)] bl K:=by
 obtain⟨e,h1,h2,h3⟩:=hS.mid.ends (wO O)
 have he:=h3 e (Nat.le_refl _)
 refine yF n m E rows g t fr O gO e hm hn hr hO (.inr hO0) h1 h2 (fun e' he'=>(h3 e' he').inv) hTT hgO hg0 hgn (fun b' hf hT2 hx=> ?_) fun b' k hf hl hT2 hx=> ?_
 ·have hR:=Lp.Lx (N':=n+m) he.inv he.low he.bas (Nat.le_add_right n m) hf
  refine hT b' _ _ ⟨?_,?_⟩ hT2 hx
  ·rw[Sy hf];exact he.next
  ·rw[Sy hf]
   refine hS.sel.next (t:=Lp.orb (Lp.nx (n+m) (n+m) rows (Lp.okW m (wO O) (fO (n+m) fr))) t e) ?_
   rw[←hw];exact hR
 ·obtain⟨k1,k2,k3⟩:=Lp.dW.1 hf
  have hkn:k<n:=he.lt k k2.1
  obtain⟨t',ht'⟩: ∃t',Lp.orb (Lp.nx (n+m) (n+m) rows (Lp.okW m (wO O) (fO (n+m) fr))) t e=t':=⟨_,rfl⟩
  rw[ht'] at he k2 hl
  have kV:=k2.2
  rw[hw] at kV
  cases q with
  | zero => exact hF b' rfl (Lp.yO he.inv he.low hkn hl kV) ⟨_, he.Qg.1⟩ hx
  | succ q => exact absurd hl (Lp.yA he.inv C hkn kV)
def fxs (n:Nat) (x:Nat→Rat):List (List V):=(List.range n).map fun c=> [fv (some (x c))]
@[simp] theorem aCY (n : Nat) (x : Nat → Rat) : (fxs n x).length = n := by simp [fxs]
@[simp] theorem Ch (n : Nat) (x : Nat → Rat) (i : Nat) (h : i < (fxs n x).length) : (fxs n x)[i] = [fv (some (x i))] := by simp [fxs]
theorem wX {n:Nat} {x y:Nat→Rat} (h: ∀c,c<n→x c=y c):fxs n x=fxs n y:=List.map_congr_left fun c hc=>by rw[h c (by simpa using hc)]
theorem Xd {n i:Nat} (x:Nat→Rat) (v:Rat) (hi:i<n):(fxs n x).set i [fv (some v)]=fxs n fun c=>if c=i then v else x c:=by
 apply List.ext_getElem
 ·simp
 ·intro j h1 h2
  rw[List.getElem_set,Ch,Ch]
  by_cases e:i=j
  ·rw[if_pos e,if_pos e.symm]
  ·rw[if_neg e,if_neg (Ne.symm e)]
def Fq (n:Nat) (C:Nat→Rat):Option (Option (Nat→Rat))→V
 | none => .tup [.int .i64 2, .sl [], .nilp]
 | some none => .tup [.int .i64 3, .sl [], .nilp]
 | some (some x) => .tup [.int .i64 0, .sl (fxs n x), fv (some (Lp.dot n C x))]

structure aMN where
 q:Nat
 t:Lp.Tab
 fr:Nat→Bool
 ob:List Int
 b:Int→Option Blk
def vM (q:Nat):Nat→Int:=fun c=>if c=q then -1 else 0
theorem Xw (C:Nat→Rat) (q:Nat):wO (vM q)=Lp.wl C (q+1):=by
 funext c
 unfold wO vM Lp.wl
 simp only
 split<;>rfl
def fxp (n k:Nat):List (List V):=(List.range n).map fun c=>if c<k then [fv (some 0)] else [.nilp]
@[simp] theorem aEV (n k : Nat) : (fxp n k).length = n := by simp [fxp]
theorem Ue (n:Nat):List.replicate n [V.nilp]=fxp n 0:=by
 unfold fxp
 apply List.ext_getElem
 ·simp
 ·intro i h1 h2;simp
@[simp] theorem aJM (n k i : Nat) (h : i < (fxp n k).length) : (fxp n k)[i] = if i < k then [fv (some 0)] else [.nilp] := by simp [fxp]
theorem Xo {n k:Nat} (h:k<n):(fxp n k).set k [fv (some 0)]=fxp n (k+1):=by
 apply List.ext_getElem
 ·simp
 ·intro j h1 h2
  rw[List.getElem_set]
  simp only[fxp,List.getElem_map,List.getElem_range]
  by_cases e:k=j
  ·rw[if_pos e,if_pos (by omega)]
  ·rw[if_neg e]
   by_cases e2:j<k
   ·rw[if_pos e2,if_pos (by omega)]
   ·rw[if_neg e2,if_neg (by omega)]
theorem Yd (n:Nat):fxp n n=fxs n fun _=>0:=List.map_congr_left fun c hc=>by rw[if_pos (by simpa using hc)]
theorem aA6 (n:Nat) (x:Nat→Rat):(fxs n x).all (fun e=>e.all V.cl)=true:=by simp[fxs,V.cl,fv]
noncomputable def xUp (N : Nat) (rows : List Nat) (t : Lp.Tab) (i : Nat) : Nat → Rat := fun c => Lp.S i fun p => if t.bs (atR rows p) = c then t.X (atR rows p) N else 0
theorem Dv {m N:Nat} {E:Nat→Nat→Rat} {rows:List Nat} {t:Lp.Tab} (h:Lp.TI m E t) (hr:Rows m rows) {i:Nat} (hi:i<rows.length) (c:Nat):(if c=t.bs (atR rows i) then t.X (atR rows i) N else xUp N rows t i c)=xUp N rows t (i+1) c:=by
 show _=xUp N rows t i c+(if t.bs (atR rows i)=c then t.X (atR rows i) N else 0)
 by_cases e:c=t.bs (atR rows i)
 ·rw[if_pos e,if_pos e.symm]
  have:xUp N rows t i c=0:=Lp.jU fun p hp=>by
   refine if_neg fun e2=> ?_
   have h1:=h.inj (hr.lt (cU (show p<rows.length by omega))) (hr.lt (cU hi)) (e2.trans e)
   have:=hr.inj (show p<rows.length by omega) hi h1
   omega
  rw[this];grind
 ·rw[if_neg e,if_neg (Ne.symm e)];grind
theorem Hy {n m N:Nat} {rows:List Nat} {t:Lp.Tab} (hr:Rows m rows) (hd: ∀i,i<m→i∉rows→n≤t.bs i) {c:Nat} (hc:c<n):xUp N rows t rows.length c=Lp.xb m N t c:=by
 unfold xUp Lp.xb
 exact hr.sum (fun i=>if t.bs i=c then t.X i N else 0) fun i hi hn=>if_neg (by have:=hd i hi hn;omega)
theorem Gz {q:Rat} (h:Lp.sm (10^72) q):few 100000 q:=by
 obtain⟨h1,h2⟩:=Lp.Bc h
 have h3:(10:Nat)^72<LB^24:=by decide+kernel
 exact vE (k:=24) ⟨aM.2 (Nat.lt_of_le_of_lt h1 h3),aM.2 (Nat.lt_of_le_of_lt h2 h3)⟩ (by decide)
theorem Si (p:Pg) (n m:Nat) (h:PgN p n m):RO Tryz.prog 145 [.ptr p.v] (Fq n (wO (pC p)) (Lp.opt n m (eQ p n m) (n+m) (wO (pC p)))):=by
 have hml:=h.ml
 have hnl:=h.nl
 refine aJ Tryz.func145 rfl rfl (by rw[Tryz.ntmps145];simp) fun bl=> ?_
 rw[Tryz.ntmps145,Tryz.results145]
 refine aE ?_
 simp
 refine aE ?_
 simp
 refine Nw p n m h (fun b' t h4 hp hb=> ?_) (fun b' g t h4 hp hTT hfr hb=> ?_)
 ·rw[Lp.B4 (h4.no hp)]
  simp[Fq]
  refine aC ?_
  simp
  exact aK [.int .i64 2,.nils,.nilp] 1 (by simp) (by simp[frz,V.cl]) hb
 have hK:=(Lp.kL (h4.lT hp) (show n≤n+m+1 by omega) m (Nat.le_refl _))
 obtain⟨t0,ht0⟩: ∃t0,Lp.kicks n t m=t0:=⟨_,rfl⟩
 rw[ht0] at hTT hK
 have aE6:=hK.inv
 have nE:=wJ n m t0
 have R1: ∀i,i∈Lp.bO n t0 m→t0.bs i<n:=fun i hi=>(Lp.mE.1 hi).2
 obtain⟨rows,lK⟩: ∃rows,Lp.bO n t0 m=rows:=⟨_,rfl⟩
 rw[lK] at hTT aE6 nE R1
 have hS0:Stg n m (eQ p n m) (wO (pC p)) rows 0 (okA n) t0:=⟨⟨aE6,R1,fun i hi=>⟨by have:=R1 i hi;omega,by unfold okA;simpa using R1 i hi⟩,fun c hc=>by simpa [okA] using hc.2⟩,Lp.Sel.start fun c hc=>⟨by omega,by simpa [okA] using hc⟩⟩
 clear hK aE6 R1
 obtain⟨gT,gR,gB,gF,ids⟩:=g
 have bT:b' gT=_:=hTT.hd
 have bB:b' gB=_:=hTT.ba
 have bG:b' gR=_:=hTT.fM.top
 have bF:b' gF=_:=hTT.fre
 simp only[cD] at bT bB bG bF
 obtain⟨N,hN⟩: ∃N,n+m=N:=⟨_,rfl⟩
 rw[hN] at bT
 have aVW:=hTT.pT
 simp
 refine aE ?_
 simp
 refine aE ?_
 simp[bT]
 refine⟨by omega,by unfold maxLen;omega,fun gO hgO hbO=> ?_⟩
 refine aO ?_
 refine Iv _ rfl rfl ?_
 simp[Pg.v]
 have hcl:p.c.length=n:=h.cl
 have hiv: ∀l:List Int,iv l=uns (l.map (V.int .i64)):=fun l=>by simp[iv,uns]
 refine Xe (g:=gO) (n:=N) (e:=3) (cs:=List.replicate N (.int .i64 0)) (ys:=p.c.map (V.int .i64)) (by simp) (by simp[hiv]) hgO (by simp[uns]) (by simp) (by simp[hcl];omega) (by simp[uns]) (by simp) (by simp) ?_
 have ecp:uns (p.c.map (V.int .i64)++(List.replicate N (V.int .i64 0)).drop (p.c.map (V.int .i64)).length)=iv (lz N (pC p)):=by
  rw[hiv]
  congr 1
  apply List.ext_getElem
  ·simp[hcl];omega
  ·intro j h1 h2
   rw[List.getElem_map,zS]
   unfold pC
   by_cases e:j<n
   ·rw[List.getElem_append_left (by simp[hcl];exact e)]
    simp[List.getD_eq_getElem?_getD,hcl,e]
   ·rw[List.getElem_append_right (by simp[hcl];omega)]
    simp[List.getD_eq_getElem?_getD,hcl,e]
 rw[ecp]
 obtain⟨bC,hbC⟩: ∃bC,bC=upd b' gO (some ⟨1,iv (lz N (pC p))⟩):=⟨_,rfl⟩
 simp
 refine dJ [(0,.ptr p.v),(5,.loc gT 6 0 0),(7,.lsl gO 1 0 N)] 124 bC ⟨rfl,by simp[Pg.v],by rw[hbC];exact sub_eq (by simp)⟩ ?_
 have n6: ∀x,x∈TG.all ⟨gT,gR,gB,gF,ids⟩→ ∃y,b' x=some y:=fun x hx=>by
  simp only[TG.all,List.mem_cons] at hx
  rcases hx with rfl | rfl | rfl | rfl | hx
  ·exact⟨_,bT⟩
  ·exact⟨_,bG⟩
  ·exact⟨_,bB⟩
  ·exact⟨_,bF⟩
  ·obtain⟨q,hq⟩:=List.mem_iff_getElem?.1 hx
   exact⟨_,hTT.fM.row q x hq⟩
 have hgn:gO∉TG.all ⟨gT,gR,gB,gF,ids⟩:=fun hm2=>by
  obtain⟨y,hy⟩:=n6 gO hm2
  rw[hbO] at hy;cases hy
 have bCO:bC gO=some ⟨1,iv (lz N (pC p))⟩:=by rw[hbC];simp
 have hTC:TT bC ⟨gT,gR,gB,gF,ids⟩ (cD n m (eQ p n m) rows t0 (okA n)):=hTT.cZ fun x y hx hy=>by rw[hbC,aG _ _ _ _ (fun e=>hgn (by rw[←e];exact hx))];exact hy
 have sC:Sub bl bC:=fun x y hx=>by
  have:=hb x y hx
  rw[hbC,aG _ _ _ _ (fun e=>by rw[e,hbO] at this;cases this)];exact this
 have blO:bl gO=none:=by
  cases hv:bl gO with
  | none => rfl
  | some y => have := hb gO y hv; rw [hbO] at this; cases this
 clear hbC bT bB bG bF hTT n6 hbO hb
 refine aO ?_
 refine aC ?_
 simp
 have hst:=fun K'=>At (bl:=bC) (K:=K') n m (eQ p n m) rows ⟨gT,gR,gB,gF,ids⟩ t0 (okA n) (wO (pC p)) 0 (pC p) gO hml hnl nE hS0 rfl (fun c=>jR h.cm c) (fun c hc=>by unfold pC;rw[List.getD_eq_getElem?_getD,List.getElem?_eq_none (by omega)];rfl) hTC (by rw[hN];exact bCO) hgO hgn
 rw[hN] at hst
 refine hst _ (fun b1 t1 fr1 hS1 hT1 hx1=> ?_) (fun b1 _ hU hF hx1=> ?_)
 rotate_left
 ·obtain⟨x,hx⟩:=hF
  have eo:=Lp.I4 hU hx
  rw[←hN] at eo
  rw[eo]
  simp[Fq]
  exact aK [.int .i64 3,.nils,.nilp] 1 (by simp) (by simp[frz,V.cl]) fun x y hx=>hx1 x y (sC x y hx) fun hm2=>by have:=hfr x hm2;rw[this] at hx;cases hx
 simp
 have aNH: ∀x y,bl x=some y→b1 x=some y:=fun x y hx=>hx1 x y (sC x y hx) fun hm2=>by have:=hfr x hm2;rw[this] at hx;cases hx
 have b1O:b1 gO=some ⟨1,iv (lz N (pC p))⟩:=hx1 gO _ bCO hgn
 clear hst hx1 hTC bCO sC aVW hS0 h4 hp
 refine aO ?_
 refine aC ?_
 simp[Pg.v,h.aP]
 refine aI (fun s:aMN=> [(0,.ptr p.v),(5,.loc gT 6 0 0),(7,.lsl gO 1 0 N),(41,.int .i64 n),(42,.int .i64 s.q)]) (fun s=>s.b) (fun s=>s.q≤n∧Stg n m (eQ p n m) (wO (pC p)) rows (s.q+1) s.fr s.t∧TT s.b ⟨gT,gR,gB,gF,ids⟩ (cD n m (eQ p n m) rows s.t s.fr)∧(s.b gO=some ⟨1,iv s.ob⟩∧s.ob.length=N)∧ ∀x y,bl x=some y→s.b x=some y) (fun s=>n - s.q) _ ⟨0,t1,fr1,lz N (pC p),b1⟩ ⟨Nat.zero_le _,hS1,hT1,⟨b1O,by simp⟩,aNH⟩ ⟨rfl,by simp[Pg.v,h.aP],Sub.refl _⟩ ?_
 clear hS1 hT1 b1O aNH
 rintro⟨q,t,fr,ob,b⟩ ⟨hq,hS,hT,⟨hbO,hol⟩,hbl⟩
 simp only at hq hS hT hbO hol hbl
 have wq:IntKind.i64.wrap ((q:Int)+1)=(q:Int)+1:=i64_in (by omega) (by omega)
 refine aE ?_
 simp
 refine aE ?_
 simp
 refine⟨fun hqn=> ?_,fun hqn=> ?_⟩
 ·refine aO (aT ?_)
  refine aE ?_
  simp
  refine aO ?_
  refine Iv _ rfl rfl ?_
  simp
  refine Ty (g:=gO) (n:=N) (e:=3) (u:= .int .i64 0) (cs:=ob.map (V.int .i64)) (by simp) hgO (by simp[hbO,hiv]) (by simp[hol]) (by simp) (by simp) ?_
  have e0:uns (List.replicate N (V.int .i64 0))=iv (lz N fun _=>0):=by rw[←Dp];simp[uns]
  rw[e0]
  simp
  refine aC ?_
  have hqN:q<N:=by omega
  simp[hqN,Qx]
  have hle:(lz N fun c=>if c=q then(-1:Int) else 0)=lz N (vM q):=rfl
  rw[hle]
  obtain⟨b2,hb2⟩: ∃b2,b2=upd b gO (some ⟨1,iv (lz N (vM q))⟩):=⟨_,rfl⟩
  rw[←hb2]
  have b2O:b2 gO=some ⟨1,iv (lz N (vM q))⟩:=by rw[hb2];simp
  have hT2:TT b2 ⟨gT,gR,gB,gF,ids⟩ (cD n m (eQ p n m) rows t fr):=hT.cZ fun x y hx hy=>by rw[hb2,aG _ _ _ _ (fun e=>hgn (by rw[←e];exact hx))];exact hy
  have b2l: ∀x y,bl x=some y→b2 x=some y:=fun x y hx=>by
   rw[hb2,aG _ _ _ _ (fun e=>by rw[e,blO] at hx;cases hx)];exact hbl x y hx
  clear hb2
  have hst:=fun K'=>At (bl:=b2) (K:=K') n m (eQ p n m) rows ⟨gT,gR,gB,gF,ids⟩ t fr (wO (pC p)) (q+1) (vM q) gO hml hnl nE hS (Xw _ q) (fun c=>by unfold vM;split<;>decide) (fun c hc=>by unfold vM;rw[if_neg (by omega)]) hT2 (by rw[hN];exact b2O) hgO hgn
  rw[hN] at hst
  refine hst _ (fun b3 t3 fr3 hS3 hT3 hx3=> ?_) (fun b3 e=>by omega)
  simp
  refine aC ?_
  simp[wq,aB]
  refine⟨⟨q+1,t3,fr3,lz N (vM q),b3⟩,⟨by simp only;omega,hS3,hT3,⟨hx3 gO _ b2O hgn,by simp⟩,fun x y hx=>hx3 x y (b2l x y hx) fun hm2=>by have:=hfr x hm2;rw[this] at hx;cases hx⟩,by simp only;omega,rfl,by simp[h.aP],Sub.refl _⟩
 ·have hqe:q=n:=by omega
  subst hqe
  have hB:Lp.tL q m (eQ p q m) N (wO (pC p)) (Lp.xb m N t):=by rw[←hN];exact hS.sel.done hS.mid.Qg.1 hS.mid.Qg.2
  have eo:=Lp.tZ hB
  rw[←hN] at eo
  rw[eo]
  have hD:Lp.Den (Lp.lid 1000 m) q (Lp.xb m N t):=Lp.Qt hS.mid.inv.z (by omega)
  simp only[Fq]
  have e1:fxs q (fun c=>if c<q then Lp.xb m (q+m) t c else 0)=fxs q (Lp.xb m N t):=wX fun c hc=>by rw[if_pos hc,hN]
  have e2:Lp.dot q (wO (pC p)) (fun c=>if c<q then Lp.xb m (q+m) t c else 0)=Lp.dot q (wO (pC p)) (Lp.xb m N t):=Lp.wS fun c hc=>by rw[if_pos hc,hN]
  rw[e1,e2]
  clear hB eo e1 e2
  obtain⟨xs,hxs⟩: ∃xs,Lp.xb m N t=xs:=⟨_,rfl⟩
  have bT:b gT=_:=hT.hd
  have bB:b gB=_:=hT.ba
  have bG:b gR=_:=hT.fM.top
  have hil:=hT.fM.len
  simp only[cD] at bT bB bG hil
  rw[hN] at bT
  have hrl:=nE.len
  refine aC ?_
  simp[Pg.v,h.aP]
  refine⟨by omega,by unfold maxLen;omega,fun gx hgx hbx=> ?_⟩
  have xT: ¬ gx=gT:=fun e=>by rw[e,bT] at hbx;cases hbx
  have xR: ¬ gx=gR:=fun e=>by rw[e,bG] at hbx;cases hbx
  have xB: ¬ gx=gB:=fun e=>by rw[e,bB] at hbx;cases hbx
  have xi:gx∉ids:=fun hm2=>by
   obtain⟨j,hj⟩:=List.mem_iff_getElem?.1 hm2
   rw[hT.fM.row j gx hj] at hbx;cases hbx
  have Nv: ∀X,Sub bl (upd b gx X):=fun X x y hx=>by
   have:=hbl x y hx
   rw[aG _ _ _ _ (fun e=>by rw[e,hbx] at this;cases this)];exact this
  refine aI (fun k:Nat=> [(0,.ptr p.v),(5,.loc gT 6 0 0),(9,.lsl gx 1 0 q),(59,.int .i64 q),(60,.int .i64 k)]) (fun k=>upd b gx (some ⟨1,fxp q k⟩)) (fun k=>k≤q) (fun k=>q - k) _ 0 (Nat.zero_le _) ⟨rfl,by simp[Pg.v,h.aP],sub_eq (by rw[Ue])⟩ ?_
  intro k hk
  have wk:IntKind.i64.wrap ((k:Int)+1)=(k:Int)+1:=i64_in (by omega) (by omega)
  refine aC ?_
  simp
  refine⟨fun hkq=> ?_,fun hkq=> ?_⟩
  ·refine aD (uN 0 (by decide)) ?_
   simp[hkq]
   simp[wk,aB,show((0:Int):Rat)=0 from rfl,Xo hkq]
   refine⟨k+1,by omega,by omega,rfl,by simp[h.aP],sub_eq rfl⟩
  have hkq:k=q:=by omega
  subst hkq
  rw[Yd]
  simp[xT,Ne.symm xT,bT]
  refine aI (fun i:Nat=> [(0,.ptr p.v),(5,.loc gT 6 0 0),(9,.lsl gx 1 0 k),(71,.lsl gB 1 0 rows.length),(72,.int .i64 rows.length),(73,.int .i64 i)]) (fun i=>upd b gx (some ⟨1,fxs k (xUp N rows t i)⟩)) (fun i=>i≤rows.length) (fun i=>rows.length - i) _ 0 (Nat.zero_le _) ⟨rfl,by simp[Pg.v,h.aP],sub_eq rfl⟩ ?_
  intro i hi
  have wi:IntKind.i64.wrap ((i:Int)+1)=(i:Int)+1:=i64_in (by omega) (by omega)
  refine aE ?_
  simp
  refine aE ?_
  simp
  refine⟨fun hir=> ?_,fun hir=> ?_⟩
  ·refine aO (aT ?_)
   refine aE ?_
   simp[Ne.symm xB,bB,hir]
   obtain⟨gi,hgi,zJ,yZ,nT⟩:=hT.fM.at i (by simp only[cD];exact hir)
   simp only[cD] at nT
   have hgj: ∀h,ids[i]'h=gi:=fun h=>by rw[List.getElem?_eq_getElem h] at hgi;exact Option.some.inj hgi
   have xgi: ¬ gi=gx:=fun e=>xi (e▸zJ)
   have hbk:t.bs (atR rows i)<k:=hS.mid.low _ (cU hir)
   have aJ7:(t.bs (atR rows i):Int)<k:=by omega
   have aWM:(N:Int)<(k:Int)+m+1:=by omega
   have hdz:=Lp.tW hS.mid.inv.z
   have aUB:=Lp.aAI hS.mid.inv.z
   have aUC:=Lp.aAW hS.mid.inv.z (nE.lt (cU hir)) (show N<k+m+1 by omega)
   have hzc:=Lp.iN hS.mid.inv.z (nE.lt (cU hir)) (show N<k+m+1 by omega)
   obtain⟨zx,hzx⟩: ∃zx,Lp.zt m (eQ p k m) t (atR rows i) N=zx:=⟨_,rfl⟩
   obtain⟨dx,hdx⟩: ∃dx,Lp.dz m (eQ p k m) t=dx:=⟨_,rfl⟩
   rw[hdx] at hdz aUB hzc
   simp only[hdx] at bT
   rw[hzx] at aUC hzc
   have vS:=Lp.oM hml
   obtain⟨td,htd⟩: ∃td,(10:Nat)^66=td:=⟨_,rfl⟩
   have h24:td<LB^24:=by rw[←htd];decide+kernel
   rw[htd] at vS
   have hln:(lim zx.natAbs).length≤300000:=Nat.le_trans (aM.2 (Nat.lt_of_le_of_lt (show zx.natAbs≤td by omega) h24)) (by decide)
   have hld:(lim dx.natAbs).length≤300000:=Nat.le_trans (aM.2 (Nat.lt_of_le_of_lt (show dx.natAbs≤td by omega) h24)) (by decide)
   have I5:=xI zx dx.natAbs (by omega) hln hld
   have hmk:mkRat zx dx.natAbs=t.X (atR rows i) N:=by
    have e1:((dx.natAbs:Nat):Rat)=(dx:Rat):=by
     rw[←Rat.intCast_natCast,Int.natAbs_of_nonneg (by omega)]
    have e2:(0:Rat)<(dx:Rat):=Rat.intCast_pos.2 hdz
    rw[Rat.mkRat_eq_div,e1,hzc]
    grind
   rw[hmk] at I5
   clear htd h24 vS
   refine bY aL [0,1,2,3,4,5,6,7,8,9,10,11,12,13,14,15,16,17,18,19,20,21] 1 22 (by kernel_rfl) ?_
   simp[Ne.symm xT,Ne.symm xR,bT,bG,hir,hgj,nT,xgi,hil,show N<k+m+1 by omega,aWM,hbk,aJ7,hzx]
   refine aN I5 ?_
   simp[hbk,aJ7]
   refine bZ (i:=22) (by kernel_rfl) rfl rfl rfl ?_
   have hfv:V.ptr (rq (t.X (atR rows i) N)).c=fv (some (t.X (atR rows i) N)):=rfl
   rw[hfv]
   simp[hbk,Xd]
   refine Dy ?_
   simp
   refine aC ?_
   simp[wi,aB]
   refine⟨i+1,by omega,by omega,rfl,by simp[h.aP],sub_eq ?_⟩
   funext x
   simp only[aA]
   split
   ·congr 2
    exact wX fun c _=>Dv hS.mid.inv.z.ti nE hir c
   ·rfl
  have hie:i=rows.length:=by omega
  subst hie
  have exs:fxs k (xUp N rows t rows.length)=fxs k xs:=wX fun c hc=>by
   have:=Hy (N:=N) nE (fun j hj hn=>(hS.mid.inv.dead j hj hn).1) hc
   rw[this,hxs]
  rw[exs]
  refine aD (uN 0 (by decide)) ?_
  simp[show((0:Int):Rat)=0 from rfl]
  rw[hxs] at hD
  have hCi: ∀c,c<k→(pC p c).natAbs≤1000:=fun c _=>jR h.cm c
  have aA3:=hD.sum (W:=1000) hCi (by decide)
  have h72:(k+1)*(1000*Lp.lid 1000 m)≤10^72:=Nat.le_trans (Nat.mul_le_mul (show k+1≤101 by omega) (Nat.mul_le_mul_left _ (Lp.oM hml))) (by decide+kernel)
  have h66:Lp.lid 1000 m≤10^72:=Nat.le_trans (Lp.oM hml) (by decide+kernel)
  have hfS: ∀j,j≤k→few 100000 (Lp.S j fun c=>(pC p c:Rat)*xs c):=fun j hj=>Gz (Lp.fP (aA3 j hj) h72)
  have hfx: ∀c,c<k→few 100000 (xs c):=fun c hc=>Gz (Lp.fP (hD.sm hc) h66)
  have hfC: ∀c,few 100000 (pC p c:Rat):=fun c=>vE (k:=24) (fits_int (by have:=jR h.cm c;unfold pC;omega)) (by decide)
  have hfm: ∀c,c<k→few 100000 (xs c*(pC p c:Rat)):=fun c hc=>Gz (Lp.fP (Lp.Oi (Lp.fP (hD.sm hc) (Lp.oM hml)) (Lp.aBT (hCi c hc) (by decide))) (by decide+kernel))
  clear aA3 h72 h66
  refine aI (fun j:Nat=> [(0,.ptr p.v),(9,.lsl gx 1 0 k),(102,.lsl gx 1 0 k),(103,.int .i64 k),(104,.int .i64 j),(13,fv (some (Lp.S j fun c=>(pC p c:Rat)*xs c)))]) (fun _=>upd b gx (some ⟨1,fxs k xs⟩)) (fun j=>j≤k) (fun j=>k - j) _ 0 (Nat.zero_le _) ⟨rfl,by simp[Lp.S],Sub.refl _⟩ ?_
  intro j hj
  have wj:IntKind.i64.wrap ((j:Int)+1)=(j:Int)+1:=i64_in (by omega) (by omega)
  refine aE ?_
  simp
  refine aE ?_
  simp
  refine⟨fun hjk=> ?_,fun hjk=> ?_⟩
  ·refine aO (aT ?_)
   refine aC ?_
   simp[hjk,Pg.v,h.c]
   refine aD (uN (pC p j) (by have:=hCi j hjk;omega)) ?_
   simp
   refine aD (r:=fv (some (xs j*(pC p j:Rat)))) (Jz _ _ (hfx j hjk) (hfC j)) ?_
   simp
   have aKB:(Lp.S j fun c=>(pC p c:Rat)*xs c)+xs j*(pC p j:Rat)=Lp.S (j+1) fun c=>(pC p c:Rat)*xs c:=by rw[Lp.S];grind
   have hpl:=Bk _ _ (hfS j (by omega)) (hfm j hjk)
   rw[aKB] at hpl
   refine aD (r:=fv (some (Lp.S (j+1) fun c=>(pC p c:Rat)*xs c))) hpl ?_
   simp
   refine aC ?_
   simp[wj,aB]
   refine⟨j+1,by omega,by omega,rfl,by simp[Pg.v,h.c],Sub.refl _⟩
  ·have hje:j=k:=by omega
   subst hje
   rw[hxs]
   have hf1:frz (dropB (upd b gx (some ⟨1,fxs j xs⟩)) bl) 1 (.lsl gx 1 0 j)=some (.sl (fxs j xs)):=dH hgx (by
    cases hv:bl gx with
    | none => rfl
    | some y => have := hbl gx y hv; rw [hbx] at this; cases this) (aV _ _ _) (by simp) (aA6 _ _)
   refine aK [.int .i64 0,.lsl gx 1 0 j,fv (some (Lp.dot j (wO (pC p)) xs))] 2 (by simp;rfl) ?_ (Nv _)
   simp only[retV]
   rw[V3]
   simp only[List.mapM_cons,List.mapM_nil,hf1,U6]
   simp[frz]

noncomputable def Ev (n : Nat) (C : Nat → Rat) : Option (Option (Nat → Rat)) → V
 | none => .agg [.int .i64 2, .sl [], .bool false, .sl [], .sl []]
 | some none => .agg [.int .i64 3, .sl [], .bool false, .sl [], .sl []]
 | some (some x) => .agg (.int .i64 0 :: .sl (rqs n x) :: (rq (Lp.dot n C x)).c)
theorem Pe {p:Pg} {n m:Nat} (h:PgN p n m) (c:Nat):Lp.isInt (wO (pC p) c)∧ -((1000:Nat):Rat)≤wO (pC p) c∧wO (pC p) c≤((1000:Nat):Rat):=by
 have:(pC p c).natAbs≤1000:=jR h.cm c
 refine⟨⟨_,rfl⟩,?_,?_⟩
 ·rw[show -((1000:Nat):Rat)=((-1000:Int):Rat) by decide+kernel];exact Rat.intCast_le_intCast.2 (by omega)
 ·rw[show((1000:Nat):Rat)=((1000:Int):Rat) by decide+kernel];exact Rat.intCast_le_intCast.2 (by omega)
theorem Xt {p:Pg} {n m:Nat} (h:PgN p n m) {c:Nat} (hc:n≤c):wO (pC p) c=0:=by
 show((pC p c:Int):Rat)=0
 rw[show pC p c=0 by unfold pC;rw[List.getD_eq_getElem?_getD,List.getElem?_eq_none (by have:=h.cl;omega)];rfl];rfl
theorem aDJ {n m b:Nat} {t:Lp.Tab} {w:Nat→Rat} (hz: ∀i,i<m→ ¬ t.bs i<n→t.X i b=0) (hw:w b=0): -Lp.rc m w t b=Lp.dot n w (Lp.xb m b t):=by
 have:Lp.dot n w (Lp.xb m b t)=Lp.S m fun i=>t.X i b*w (t.bs i):=by
  unfold Lp.dot Lp.xb
  exact Lp.A4 t.bs (fun j=>t.X j b) w hz
 rw[this]
 unfold Lp.rc
 rw[hw];grind
theorem Hd {bl:Int→Option Blk} {K:V→(Int→Option Blk)→Prop} (p:Pg) (n m:Nat) (h:PgN p n m) (g:SG) (rows:List Nat) (U:Lp.Tab) (hr:Rows m rows) (hI:oW n m (eQ p n m) rows U) (I5: ∀i,i∈rows→U.bs i<n) (hS:SS bl g (snV rows n (n+m) m (wO (pC p)) U))
  (hT: ∀b' t,oW n m (eQ p n m) rows t→(∀i,i∈rows→t.bs i<n)→Lp.tL n m (eQ p n m) (n+m) (wO (pC p)) (Lp.xb m (n+m) t)→SS b' g (snV rows n (n+m) m (wO (pC p)) t)→(∀x y,bl x=some y→x∉g.all→b' x=some y)→K (.bool true) b')
  (hF: ∀b',Lp.Unb n m (eQ p n m) (n+m) (wO (pC p))→(∃x,Lp.kB n m (eQ p n m) (n+m) x)→(∀x y,bl x=some y→x∉g.all→b' x=some y)→K (.bool false) b'):
  cH Tryz.prog 190 [.loc g.T 4 0 0,.bool true] bl K:=by
 have hml:=h.ml
 have hnl:=h.nl
 have R:Lp.uS n m (n+m) (n+1) n (n+m+1) (Lp.wl (wO (pC p))) (fun c=>c<n) rows (Lp.okL m n (wO (pC p))):=Lp.Zx (by omega) (by omega)
 obtain⟨e,h1,h2,h3⟩:=R.ends hI
 have hlw:=R.low (fun c hc=>hc) h3 I5 e (Nat.le_refl _)
 have hIe:=h3 e (Nat.le_refl _)
 have Ld:=Lp.B0 hIe hlw h1
 have hR:Qz n m n (eQ p n m) rows true (wO (pC p)) (Lp.okL m n (wO (pC p))):=by
  refine⟨hml,hnl,by omega,hr,fun T hT i hi hn=>(hT.dead i hi hn).1,fun c _=>Pe h c,fun T hT j hj hb hok=> ?_⟩
  obtain⟨q,hq,e1⟩:=hb
  obtain⟨z,_,g2,_⟩:=hok
  have e2:=Lp.mI hT.z.ti (Lp.wl (wO (pC p)) z) (hr.lt (cU hq))
  simp only at e1
  rw[e1] at e2
  simp only at g2
  rw[e2] at g2
  exact absurd g2 (by decide)
 refine l10Run_cp hR g U e (fun T hT j hj hnb=> ?_) h1 h2 h3 hS (fun b' hf hS' hx=> ?_) (fun b' k hk hl hx=> ?_)
 ·have hV:=hR.view hT
  have hco:(snV rows n (n+m) m (wO (pC p)) T).co j=Lp.rc m (wO (pC p)) T j:=by
   show Lp.rc m (wO (pC p)) T (if j<n then j else n+m)=_
   rw[if_pos hj]
  exact⟨_,Lp.Ng,X2 hV j hj hnb hco⟩
 ·rcases Ld with ⟨_,g2⟩| ⟨⟨k,g1,_⟩,_⟩
  ·exact hT b' _ hIe hlw g2 hS' hx
  ·rw[hf] at g1;cases g1
 ·rcases Ld with ⟨g1,_⟩| ⟨_,g2⟩
  ·rw[hk] at g1;cases g1
  ·exact hF b' g2 ⟨_,Lp.uR hIe.z.ti hIe.nn (hIe.zero hlw)⟩ hx
theorem Vo {bl:Int→Option Blk} {k:Int} {v x:V} {a:Bool} {b c:List (List V)} (hc:V.cl v=false) (h:frz bl 1 v=some x):frz bl 2 (.agg [.int .i64 k,v,.bool a,.sl b,.sl c])=some (.agg [.int .i64 k,x,.bool a,.sl b,.sl c]):=by
 rw[frz,if_neg (by simp only[List.all_cons,hc];simp)]
 simp[List.mapM_cons,h,frz]
structure aPT where
 j:Nat
 gX:Int
 b:Int→Option Blk
set_option maxHeartbeats 2000000 in
theorem Ak (p:Pg) (n m:Nat) (h:PgN p n m):RO Tryz.prog 123 [.agg p.v] (Ev n (wO (pC p)) (Lp.opt n m (eQ p n m) (n+m) (wO (pC p)))):=by
 have hml:=h.ml
 have hnl:=h.nl
 refine aJ Tryz.func123 rfl rfl (by rw[Tryz.ntmps123];simp) fun bl=> ?_
 rw[Tryz.ntmps123,Tryz.results123]
 refine aE ?_
 simp[Pg.v]
 intro g1 hg1 hb1
 intro g2 hg2 aE4 hb2
 obtain⟨b0,hb0⟩: ∃b0,b0=upd bl g2 (some ⟨5,[[.int .i64 0,.nils,.bool false,.nils,.nils]]⟩):=⟨_,rfl⟩
 refine cW 1 1 (.ptr p.v) b0 (by rw[hb0];intro z b hz;simp only[aA] at hz ⊢;grind) (by simp[frz,dropB,hb0,hb1,aE4,Ne.symm aE4,V.cl,Pg.v]) ?_
 refine dJ [(1,.ptr p.v),(2,.loc g2 5 0 0)] 87 b0 ⟨rfl,by simp[Pg.v],Sub.refl _⟩ ?_
 have s0:Sub bl b0:=fun x y hx=>by rw[hb0,aG _ _ _ _ (fun e=>by rw[e,hb2] at hx;cases hx)];exact hx
 have b02:b0 g2=some ⟨5,[[.int .i64 0,.nils,.bool false,.nils,.nils]]⟩:=by rw[hb0];simp
 clear hb0 hb1 hg1 aE4
 refine aE ?_
 simp[Pg.v]
 refine Ce p n m h fun b g hS hal hsb=> ?_
 simp
 refine aE ?_
 simp
 refine Lf p n m h g hS fun b' T r h4 hS' hx=> ?_
 have hV:qB ((snV (List.range m) (n+m) (n+m) m (Lp.bK n m) T).co (n+m)):=by
  show qB (Lp.rc m (Lp.bK n m) T (if n+m<n+m then n+m else n+m))
  exact Lp.fP (h4.inv.z.rc (fun c _=>uX n m c) (c:=if n+m<n+m then n+m else n+m) (by split<;>omega) (by decide)) (vG hml)
 have hco:(snV (List.range m) (n+m) (n+m) m (Lp.bK n m) T).co (n+m)=Lp.rc m (Lp.bK n m) T (n+m):=by
  show Lp.rc m (Lp.bK n m) T (if n+m<n+m then n+m else n+m)=_
  rw[if_neg (by omega)]
 obtain⟨co,hcD⟩: ∃co,(snV (List.range m) (n+m) (n+m) m (Lp.bK n m) T).co=co:=⟨_,rfl⟩
 rw[hcD] at hV hco
 obtain⟨N,hN⟩: ∃N,n+m=N:=⟨_,rfl⟩
 have bT:b' g.T=some ⟨4,[[.int .i64 N,.lsl g.R 1 0 m,.lsl g.B 1 0 m,.lsl g.C 3 0 (N+1)]]⟩:=by
  have:=hS'.hd
  simp only[snV,List.length_range] at this
  rw[←hN];exact this
 have bC:b' g.C=some ⟨3,rqs (N+1) co⟩:=by
  rw[←hN,←hcD];exact hS'.cst
 rw[hN] at hV hco
 have l3: ∀q:Rat,(rq q).c.length=3:=fun _=>rfl
 have t3: ∀q:Rat,(rq q).c.take 3=(rq q).c:=fun _=>rfl
 have hN1:(N:Int)<(N:Int)+1:=by omega
 have Cj:Sub b0 b':=fun x y hx2=>hx x y (hsb x y hx2) fun hm2=>by have:=hal x hm2;rw[this] at hx2;cases hx2
 have jZ:Sub bl b':=fun x y hx2=>Cj x y (s0 x y hx2)
 have b'2:=Cj _ _ b02
 simp
 refine dJ [(1,.ptr p.v),(2,.loc g2 5 0 0),(3,.loc g.T 4 0 0)] 87 b' ⟨rfl,by simp[Pg.v],Sub.refl _⟩ ?_
 refine aO (aO ?_)
 refine cI aL (by kernel_rfl) ?_
 simp[bT,bC,hN1,l3,t3]
 refine aN (iG (cN hV)) ?_
 simp
 refine aC ?_
 simp
 refine⟨fun hne=> ?_,fun heq=> ?_⟩
 ·have hno: ¬ Lp.rc m (Lp.bK n m) T (n+m)=0:=fun e=>by
   rw[hN] at e
   rw[e] at hco
   exact hne hco
  rw[Lp.B4 (h4.no hno)]
  simp[b'2]
  exact aK [.agg [.int .i64 2,.nils,.bool false,.nils,.nils]] 1 (by simp) (by simp[frz,Ev,V.cl]) fun x y hx=>by
   show upd b' g2 _ x=some y
   rw[aG _ _ _ _ (fun e=>by rw[e,hb2] at hx;cases hx)]
   exact jZ x y hx
 have hp0:Lp.rc m (Lp.bK n m) T (n+m)=0:=by rw[hN,←hco];exact heq
 refine aE ?_
 simp
 have lv:5≤p.v.length:=Nat.le_refl 5
 have tv:p.v.take 5=p.v:=rfl
 rw[tv]
 refine⟨lv,X9 p n m h g T h4 hp0 hS' fun b1 g' hS1 aM0 hx1=> ?_⟩
 have hI1:=(Lp.kL (h4.lT hp0) (show n≤n+m+1 by omega) m (Nat.le_refl _)).inv
 have hr1:=wJ n m (Lp.kicks n T m)
 have hw1: ∀i,i∈Lp.bO n (Lp.kicks n T m) m→(Lp.kicks n T m).bs i<n:=fun i hi=>(Lp.mE.1 hi).2
 obtain⟨U,hU⟩: ∃U,Lp.kicks n T m=U:=⟨_,rfl⟩
 rw[hU] at hI1 hr1 hw1 hS1
 obtain⟨rows,lK⟩: ∃rows,Lp.bO n U m=rows:=⟨_,rfl⟩
 rw[lK] at hI1 hr1 hw1 hS1
 have gb: ∀x,x∈g.all→b0 x=none:=hal
 have hg2:g2∉g.all:=fun hm2=>by rw[gb g2 hm2] at b02;cases b02
 have aNA:Sub b0 b1:=fun x y hx2=>hx1 x y (Cj x y hx2) fun hm2=>by rw[gb x hm2] at hx2;cases hx2
 have al1: ∀x,x∈g'.all→b0 x=none:=fun x hm2=>by
  cases hv:b0 x with
  | none => rfl
  | some y => have := aM0 x hm2; rw [Cj x y hv] at this; cases this
 simp
 clear hU aM0 hx1 hS' hx hS hal hsb hV hco hcD bT bC jZ Cj b'2 heq h4 hp0 gb hg2
 refine aO ?_
 refine aC ?_
 simp
 refine Hd p n m h g' rows U hr1 hI1 hw1 hS1 (fun b2 t hI2 hw2 aK9 hS2 hx2=> ?_) (fun b2 hU2 hF2 hx2=> ?_)
 rotate_left
 ·obtain⟨x,hx⟩:=hF2
  rw[Lp.I4 hU2 hx]
  have Kc:Sub b0 b2:=fun x y hx=>hx2 x y (aNA x y hx) fun hm2=>by rw[al1 x hm2] at hx;cases hx
  have b22:=Kc _ _ b02
  simp[b22]
  exact aK [.agg [.int .i64 3,.nils,.bool false,.nils,.nils]] 1 (by simp) (by simp[frz,Ev,V.cl]) fun x y hx=>by
   show upd b2 g2 _ x=some y
   rw[aG _ _ _ _ (fun e=>by rw[e,hb2] at hx;cases hx)]
   exact Kc x y (s0 x y hx)
 rw[Lp.tZ aK9]
 have Kc:Sub b0 b2:=fun x y hx=>hx2 x y (aNA x y hx) fun hm2=>by rw[al1 x hm2] at hx;cases hx
 simp
 have aU3:=hI2.z.ti
 have hz2:=hI2.zero hw2
 have Es:=aDJ (n:=n) (b:=n+m) hz2 (Xt h (show n≤n+m by omega))
 have hV:qB ((snV rows n (n+m) m (wO (pC p)) t).co n):=by
  show qB (Lp.rc m (wO (pC p)) t (if n<n then n else n+m))
  exact Lp.fP (hI2.z.rc (fun c _=>Pe h c) (c:=if n<n then n else n+m) (by split<;>omega) (by decide)) (vG hml)
 have hco:(snV rows n (n+m) m (wO (pC p)) t).co n=Lp.rc m (wO (pC p)) t (n+m):=by
  show Lp.rc m (wO (pC p)) t (if n<n then n else n+m)=_
  rw[if_neg (by omega)]
 obtain⟨l,hl⟩: ∃l,rows.length=l:=⟨_,rfl⟩
 obtain⟨gT,gR,gB,gC,ids⟩:=g'
 obtain⟨Z,hZ⟩: ∃Z,(snV rows n (n+m) m (wO (pC p)) t).Z=Z:=⟨_,rfl⟩
 obtain⟨co,hcD⟩: ∃co,(snV rows n (n+m) m (wO (pC p)) t).co=co:=⟨_,rfl⟩
 rw[hcD] at hV hco
 obtain⟨n1,hn1⟩: ∃n1,n+1=n1:=⟨_,rfl⟩
 have bT:b2 gT=some ⟨4,[[.int .i64 n,.lsl gR 1 0 l,.lsl gB 1 0 l,.lsl gC 3 0 n1]]⟩:=by
  have:=hS2.hd
  simp only[snV,hl,hn1] at this
  exact this
 have bC:b2 gC=some ⟨3,rqs n1 co⟩:=by
  rw[←hn1,←hcD];exact hS2.cst
 have bB:b2 gB=some ⟨1,iv (lb l fun q=>t.bs (atR rows q))⟩:=by
  have:=hS2.ba
  simp only[snV,hl] at this
  exact this
 have bR:b2 gR=some ⟨1,ids.map fun x=> [.lsl x 3 0 n1]⟩:=by
  have:=hS2.top
  simp only[snV,hn1] at this
  exact this
 have hnn:(n:Int)<n1:=by omega
 have aMY:n<n1:=by omega
 have b22:=Kc _ _ b02
 have hn4:=xD (some (co n)) (okS (cN hV))
 refine dJ [(1,.ptr p.v),(2,.loc g2 5 0 0),(4,.loc gT 4 0 0)] 87 b2 ⟨rfl,by simp[Pg.v],Sub.refl _⟩ ?_
 refine gV (fun g5:Int=> [(1,.ptr p.v),(2,.loc g2 5 0 0),(4,.loc gT 4 0 0),(5,.loc g5 5 0 0)]) (fun g5=>upd b2 g5 (some ⟨5,[.int .i64 0:: .nils::(rq (-co n)).c]⟩)) (fun g5=>0≤g5∧b2 g5=none) 87 ?_ ?_
 ·refine dK aL b2 (Sub.refl _) [0,1,2,3,4,5,6,7,8,9,10] 3 13 (by kernel_rfl) ?_
  simp[bT,bC,hnn,aMY,l3,t3]
  refine aN (v:= .agg (ro (some (-co n))).c) hn4 ?_
  simp[RT.c]
  refine Dw 11 12 false false ?_ ?_
  ·simp
   refine Dq 12 false ?_
   simp
   intro g5 hg5 hb5
   refine⟨fun x y hx=>(by rw[aG _ _ _ _ (fun e=>by rw[e,hb5] at hx;cases hx)];exact hx),Dq 13 true ?_⟩
   simp
   refine Dd ?_
   simp[aH]
   exact⟨g5,⟨hg5,hb5⟩,rfl,by simp,sub_eq (by simp[RT.c])⟩
  ·simp
   intro g5 hg5 hb5
   refine⟨fun x y hx=>(by rw[aG _ _ _ _ (fun e=>by rw[e,hb5] at hx;cases hx)];exact hx),Dq 11 false ?_⟩
   simp
   refine⟨fun x y hx=>(by rw[aG _ _ _ _ (fun e=>by rw[e,hb5] at hx;cases hx)];exact hx),Dq 13 true ?_⟩
   simp
   refine Dd ?_
   simp[aH]
   exact⟨g5,⟨hg5,hb5⟩,rfl,by simp,sub_eq (by simp[RT.c])⟩
 rintro g5 ⟨hg5,hb5⟩
 have hvq:(rq (-co n)).c=(rq (Lp.dot n (wO (pC p)) fun c=>if c<n then Lp.xb m (n+m) t c else 0)).c:=by
  rw[hco,Es,Lp.wS (x:=Lp.xb m (n+m) t) (y:=fun c=>if c<n then Lp.xb m (n+m) t c else 0) fun c hc=>by rw[if_pos hc]]
 obtain⟨vq,aI4⟩: ∃vq,Lp.dot n (wO (pC p)) (fun c=>if c<n then Lp.xb m (n+m) t c else 0)=vq:=⟨_,rfl⟩
 rw[aI4] at hvq
 rw[hvq]
 simp only[RT.c]
 refine dD (g:=g5) (s:=5) (els:= [[.int .i64 0,.nils,.bool (rq vq).neg,.sl (iv (rq vq).m),.sl (iv (rq vq).d)]]) 0 1 3 (by simp) rfl rfl fun gX hgX hX5=> ?_
 simp[hX5] at hgX
 obtain⟨b3,hb3⟩: ∃b3,b3=upd (upd b2 g5 (some ⟨5,[[.int .i64 0,.lsl gX 3 0 0,.bool (rq vq).neg,.sl (iv (rq vq).m),.sl (iv (rq vq).d)]]⟩)) gX (some ⟨3,[]⟩):=⟨_,rfl⟩
 have b35:b3 g5=some ⟨5,[[.int .i64 0,.lsl gX 3 0 0,.bool (rq vq).neg,.sl (iv (rq vq).m),.sl (iv (rq vq).d)]]⟩:=by rw[hb3];simp[Ne.symm hX5]
 have b3X:b3 gX=some ⟨3,rqs 0 fun _=>0⟩:=by rw[hb3];simp[rqs]
 have s3:Sub b2 b3:=fun x y hx=>by
  have x1:x≠g5:=fun e=>by rw[e,hb5] at hx;cases hx
  have x2:x≠gX:=fun e=>by rw[e,hgX] at hx;cases hx
  rw[hb3];simp[x1,x2,hx]
 refine dJ [(1,.ptr p.v),(2,.loc g2 5 0 0),(4,.loc gT 4 0 0),(5,.loc g5 5 0 0)] 87 b3 ⟨rfl,by simp,by rw[hb3];exact sub_eq (by simp)⟩ ?_
 clear hb3
 refine aO ?_
 refine aC ?_
 simp
 refine aI (fun q:aPT=> [(1,.ptr p.v),(2,.loc g2 5 0 0),(4,.loc gT 4 0 0),(5,.loc g5 5 0 0),(6,.int .i64 q.j)]) (fun q=>q.b) (fun q=>q.j≤n∧q.b g5=some ⟨5,[[.int .i64 0,.lsl q.gX 3 0 q.j,.bool (rq vq).neg,.sl (iv (rq vq).m),.sl (iv (rq vq).d)]]⟩∧q.b q.gX=some ⟨3,rqs q.j fun _=>0⟩∧(q.gX≠g5∧b2 q.gX=none∧(0≤q.gX∨q.j=0))∧Sub b2 q.b) (fun q=>n - q.j) _ ⟨0,gX,b3⟩ ⟨Nat.zero_le _,b35,b3X,⟨hX5,hgX,.inr rfl⟩,s3⟩ ⟨rfl,by simp,Sub.refl _⟩ ?_
 clear s3 b35 b3X hgX hX5
 rintro⟨j,gX,b⟩ ⟨hj,bL5,bX,⟨nX5,Xbl,aNT⟩,hsb⟩
 simp only at hj bL5 bX nX5 Xbl aNT hsb
 have wj:IntKind.i64.wrap ((j:Int)+1)=(j:Int)+1:=i64_in (by omega) (by omega)
 refine aO ?_
 refine aC ?_
 simp[Pg.v,h.aP]
 refine⟨fun hjn=> ?_,fun hjn=> ?_⟩
 ·refine aO (aT ?_)
  have hR0:=dO 0 (by decide)
  refine dK aL (rem b gX) (eH b gX) [0,1,2] 4 6 (by kernel_rfl) ?_
  simp[Ne.symm nX5,bL5]
  refine aN hR0 ?_
  simp
  refine Dq 3 false ?_
  simp[RT.c]
  intro g4 hg4 hb4
  have n45:g4≠g5:=fun e=>by rw[e,bL5] at hb4;cases hb4
  have n4X:g4≠gX:=fun e=>by rw[e,bX] at hb4;cases hb4
  have sQ: ∀X,Sub (rem b gX) (upd b g4 X):=fun X z y hz=>by
   rw[aF] at hz
   rw[aA]
   grind
  refine⟨sQ _,Dq 4 false ?_⟩
  have tkC:(rqs j fun _=>(0:Rat)).take j=rqs j fun _=>0:=List.take_of_length_le (by simp)
  simp[n4X,Ne.symm n4X,appV,elsV,Int.not_lt.2 hg4,bX,tkC]
  have hsn:(rqs j fun _=>(0:Rat))++ [[V.bool (rq 0).neg,.sl (iv (rq 0).m),.sl (iv (rq 0).d)]]=rqs (j+1) fun _=>0:=by rw[kU];rfl
  rw[hsn]
  refine⟨by omega,fun gN hgN hbN=> ?_⟩
  have nN:gN≠g5∧gN≠g4:=by
   by_cases e:gN=gX
   ·subst e
    exact⟨nX5,Ne.symm n4X⟩
   ·obtain⟨q1,q2⟩:=hbN e
    exact⟨fun e=>(by rw[e,bL5] at q2;cases q2),q1⟩
  obtain⟨nN5,nN4⟩:=nN
  have blN:b2 gN=none:=by
   by_cases e:gN=gX
   ·rw[e];exact Xbl
   ·cases hv:b2 gN with
    | none => rfl
    | some y => have := hsb gN y hv; rw [(hbN e).2] at this; cases this
  have iO: ∀X Y,Sub (rem b gX) (upd (rem (upd b g4 X) gX) gN Y):=fun X Y z y hz=>by
   rw[aF] at hz
   rw[aA,aF,aA]
   grind
  have lJ: ∀X Y Z,Sub (upd (upd (rem b gX) gN Y) g5 Z) (upd (upd (rem (upd b g4 X) gX) gN Y) g5 Z):=fun X Y Z z y hz=>by
   simp only[aA,aF] at hz ⊢
   grind
  refine⟨iO _ _,Dq 5 false ?_⟩
  simp
  refine⟨iO _ _,Dq 6 true ?_⟩
  simp[Ne.symm nN5,Ne.symm nX5,n45,Ne.symm n45,bL5]
  refine Dd ?_
  simp
  refine aC ?_
  simp[wj,aB]
  obtain⟨b4,jH⟩: ∃b4,b4=upd (upd (rem b gX) gN (some ⟨3,rqs (j+1) fun _=>0⟩)) g5 (some ⟨5,[[.int .i64 0,.lsl gN 3 0 (j+1),.bool (rq vq).neg,.sl (iv (rq vq).m),.sl (iv (rq vq).d)]]⟩):=⟨_,rfl⟩
  refine⟨⟨j+1,gN,b4⟩,⟨by simp only;omega,by rw[jH];simp,by rw[jH];simp[nN5],⟨nN5,blN,.inl hgN⟩,fun x y hx=> ?_⟩,by simp only;omega,rfl,by simp[Pg.v,h.aP],by rw[jH];exact lJ _ _ _⟩
  have x1:x≠g5:=fun e=>by rw[e,hb5] at hx;cases hx
  have x2:x≠gN:=fun e=>by rw[e,blN] at hx;cases hx
  have x3:x≠gX:=fun e=>by rw[e,Xbl] at hx;cases hx
  simp only
  rw[jH];simp[x1,x2,x3];exact hsb x y hx
 have hje:j=n:=by omega
 subst hje
 simp
 have b5:b gT=_:=hsb _ _ bT
 have b5B:b gB=_:=hsb _ _ bB
 have b5R:b gR=_:=hsb _ _ bR
 have hil:ids.length=l:=by have:=hS2.len;simp only[snV,hl] at this;exact this
 have hll:l≤m:=by rw[←hl];exact hr1.len
 have oX: ∀x y,b2 x=some y→x≠gX:=fun x y hx e=>by rw[e,Xbl] at hx;cases hx
 have o5: ∀x y,b2 x=some y→x≠g5:=fun x y hx e=>by rw[e,hb5] at hx;cases hx
 have xT:=oX _ _ bT
 have xB:=oX _ _ bB
 have xR:=oX _ _ bR
 refine aO ?_
 refine aC ?_
 simp[b5]
 refine aI (fun q:Nat=> [(2,.loc g2 5 0 0),(4,.loc gT 4 0 0),(5,.loc g5 5 0 0),(60,.lsl gB 1 0 l),(61,.int .i64 l),(62,.int .i64 q)]) (fun q=>upd b gX (some ⟨3,rqs j (xUp (j+m) rows t q)⟩)) (fun q=>q≤l) (fun q=>l - q) _ 0 (Nat.zero_le _) ⟨rfl,by simp,sub_eq (by
  funext x;simp only[aA];split
  ·rename_i e
   rw[e,bX];rfl
  ·rfl)⟩ ?_
 intro q hq
 have wq:IntKind.i64.wrap ((q:Int)+1)=(q:Int)+1:=i64_in (by omega) (by omega)
 refine aE ?_
 simp
 refine aE ?_
 simp
 refine⟨fun hql=> ?_,fun hql=> ?_⟩
 ·have Un:(q:Int)<l:=by omega
  obtain⟨gi,hgi⟩: ∃gi,ids[q]? =some gi:=⟨_,List.getElem?_eq_getElem (show q<ids.length by omega)⟩
  have hgj: ∀h,ids[q]'h=gi:=fun h=>by rw[List.getElem?_eq_getElem h] at hgi;exact Option.some.inj hgi
  have hgm:=List.mem_of_getElem? hgi
  have yZ:0≤gi:=hS2.pos gi hgm
  have b2i:b2 gi=some ⟨3,rqs n1 (Z q)⟩:=by
   have:=hS2.row q gi hgi
   rw[hZ] at this
   rw[←hn1];exact this
  have xi:=oX _ _ b2i
  have bi:b gi=_:=hsb _ _ b2i
  have hqm:=cU (rows:=rows) (show q<rows.length by rw[hl];exact hql)
  have hbl:t.bs (atR rows q)<j:=hw2 _ hqm
  have hZq:Z q j=t.X (atR rows q) (j+m):=by
   rw[←hZ]
   show t.X (atR rows q) (if j<j then j else j+m)=_
   rw[if_neg (by omega)]
  have htq:qB (Z q j):=by
   rw[hZq];exact Lp.fP (hI2.z.sm (hr1.lt hqm) (by omega)) (nZ hml)
  refine aO (aT ?_)
  refine aE ?_
  simp[Ne.symm xB,xB,b5B,hql,Un]
  obtain⟨bc,hbc⟩: ∃bc,bc=upd b gX (some ⟨3,rqs j (xUp (j+m) rows t q)⟩):=⟨_,rfl⟩
  have bcX:bc gX=some ⟨3,rqs j (xUp (j+m) rows t q)⟩:=by rw[hbc];simp
  have bcx: ∀x,x≠gX→bc x=b x:=fun x hx=>by rw[hbc,aG _ _ _ _ hx]
  have bc5:=(bcx g5 (Ne.symm nX5)).trans bL5
  have bcT:=(bcx gT xT).trans b5
  have bcR:=(bcx gR xR).trans b5R
  have bci:=(bcx gi xi).trans bi
  rw[←hbc]
  have htl:=cN htq
  have hcp:=Ew (rq (Z q j)) (Nat.le_trans htl.1 (by decide)) (Nat.le_trans htl.2 (by decide))
  obtain⟨kk,hkk⟩: ∃kk,t.bs (atR rows q)=kk:=⟨_,rfl⟩
  rw[hkk] at hbl
  have Wh:(kk:Int)<j:=by omega
  refine dK aL (rem bc gX) (eH bc gX) [0,1,2,3,4,5,6,7,8,9,10,11,12,13,14,15,16,17] 1 18 (by kernel_rfl) ?_
  simp[nX5,Ne.symm nX5,xT,xR,xi,bc5,bcT,bcR,bci,hql,Un,hil,hgj,hnn,aMY,l3,t3,hkk,hbl,Wh]
  refine aN hcp ?_
  simp[hkk,hbl,Wh]
  refine Dq 18 true ?_
  simp[bcX,hbl,RT.c]
  refine Dd ?_
  simp
  refine aC ?_
  simp[wq,aB]
  have sM:(rqs j (xUp (j+m) rows t q)).set kk (ro (some (Z q j))).c=rqs j (xUp (j+m) rows t (q+1)):=by
   rw[zN _ _ hbl]
   refine bV fun c _=> ?_
   rw[←hkk,hZq]
   exact Dv aU3 hr1 (by rw[hl];exact hql) c
  refine⟨q+1,by omega,by omega,rfl,by simp,?_⟩
  rw[←sM]
  intro z y hz
  by_cases e:z=gX
  ·subst e
   rw[aV] at hz
   simpa [RT.c,oS] using hz
  ·rw[aG _ _ _ _ e] at hz
   have:=bcx z e
   simp[e,this,hz]
 ·have hqe:q=l:=by omega
  subst hqe
  have hxa:rqs j (xUp (j+m) rows t q)=rqs j fun c=>if c<j then Lp.xb m (j+m) t c else 0:=bV fun c hc=>by
   rw[if_pos hc,←hl];exact Hy hr1 (fun i hi hn=>(hI2.dead i hi hn).1) hc
  rw[hxa]
  have b6:b g2=_:=hsb _ _ b22
  have x2:=oX _ _ b22
  have x25:=o5 _ _ b22
  refine aC ?_
  simp[nX5,Ne.symm nX5,x2,Ne.symm x2,x25,Ne.symm x25,bL5,b6]
  have blb:Sub bl b:=fun x y hx=>hsb x y (Kc x y (s0 x y hx))
  have blX:bl gX=none:=by
   cases hv:bl gX with
   | none => rfl
   | some y => have := Kc gX y (s0 gX y hv); rw [Xbl] at this; cases this
  refine aK [.agg [.int .i64 0,.lsl gX 3 0 j,.bool (rq vq).neg,.sl (iv (rq vq).m),.sl (iv (rq vq).d)]] 2 (by simp) ?_ fun x y hx=> ?_
  ·have hfX: ∀B:Int→Option Blk,B gX=some ⟨3,rqs j fun c=>if c<j then Lp.xb m (j+m) t c else 0⟩→frz (dropB B bl) 1 (.lsl gX 3 0 j)=some (.sl (rqs j fun c=>if c<j then Lp.xb m (j+m) t c else 0)):=fun B hB=>by
    by_cases e:gX<0
    ·rcases aNT with g | g
     ·omega
     ·rw[g];unfold frz;rw[if_pos e];rfl
    ·exact dH (by omega) blX hB (by simp) (Fm _ _)
   rw[show Ev j (wO (pC p)) (some (some fun c=>if c<j then Lp.xb m (j+m) t c else 0))= .agg [.int .i64 0,.sl (rqs j fun c=>if c<j then Lp.xb m (j+m) t c else 0),.bool (rq vq).neg,.sl (iv (rq vq).m),.sl (iv (rq vq).d)] by rw[←aI4];rfl]
   exact Vo rfl (hfX _ (by
    show upd (upd b gX _) g2 _ gX=_
    rw[aG _ _ _ _ (Ne.symm x2),aV]))
  ·show upd (upd b gX _) g2 _ x=some y
   rw[aG _ _ _ _ (fun e=>by rw[e,hb2] at hx;cases hx),aG _ _ _ _ (fun e=>by rw[e,blX] at hx;cases hx)]
   exact blb x y hx

noncomputable def aUU (s : Str) (l : List Int) : Bool := Yw (nC s) (nR s) (eQ (dA s l) (nC s) (nR s))
noncomputable def aX0 (s : Str) (l : List Int) : Bool := lOk s l && aUU s l

def xl (n:Nat) (x:Nat→Rat):List (Option Rat):=(List.range n).map fun c=>some (x c)
@[simp] theorem aGO (n : Nat) (x : Nat → Rat) : (xl n x).length = n := by simp [xl]
theorem aCJ (n:Nat) (x:Nat→Rat):fxs n x=fvs (xl n x):=by simp[fvs,xl,fxs]
theorem Ye {n k:Nat} (x:Nat→Rat) (h:k≤n):(fxs n x).take k=fvs (xl k x):=by
 rw[←aCJ]
 unfold fxs
 rw[←List.map_take,List.take_range,Nat.min_eq_left h]
theorem vK {p:Pg} {n m:Nat} (h:PgN p n m) {x:Nat→Rat} (ho:Lp.opt n m (eQ p n m) (n+m) (wO (pC p))=some (some x)) (c:Nat):fits (x c):=by
 rcases Lp.answers (wO (pC p)) h.init with ⟨e,_⟩| ⟨e,_⟩| ⟨y,e,_,hd,h0⟩
 ·rw[ho] at e;cases e
 ·rw[ho] at e;cases e
 ·rw[ho] at e
  have e:=Option.some.inj (Option.some.inj e)
  subst e
  by_cases hc:c<n
  ·exact cN (Lp.fP (hd.sm hc) (nZ h.ml))
  ·rw[h0 c (by omega)];exact fits_int (n:=0) (by decide)
theorem C5 {n:Nat} {x:Nat→Rat} (h: ∀c,fits (x c)):okL (xl n x):=fun y hy=>by
 obtain⟨c,_,rfl⟩:=List.mem_map.1 hy
 exact okS (h c)
def aXG (s:Str) (n:Nat):Option (Option (Nat→Rat))→V
 | some (some x) => .tup [.sl (fvs (fT s.ms (xl (nC s) x) (nC s))), .sl ((fxs n x).drop (nC s)), .bool true]
 | _ => .tup [.sl [], .sl [], .bool false]
noncomputable def Ma (s : Str) : Option (Option (Nat → Rat)) → List (Option Rat)
 | some (some x) => fT s.ms (xl (nC s) x) (nC s)
 | _ => [none]
noncomputable def aZH (s : Str) (l : List Int) : List (Option Rat) :=
 if lOk s l=true then Ma s (Lp.opt (nC s) (nR s) (eQ (dA s l) (nC s) (nR s)) (nC s+nR s) (wO (pC (dA s l)))) else [none]
theorem Ol {n:Nat} {x:Nat→Rat} (h: ∀c,fits (x c)):bD (bA (xl n x))=xl n x:=by
 unfold bD bA xl
 rw[List.map_map,List.map_map]
 exact List.map_congr_left fun c _=>A9 (okS (h c))
theorem Sk {n:Nat} {x:Nat→Rat} (h: ∀c,fits (x c)):lO (bA (xl n x))=true:=by
 rw[qW (C5 h)]
 simp[bJ,xl]
theorem Ix {s:Str} (hs:sOk s=true) {x:Nat→Rat} (h: ∀c,fits (x c)):mR s (bA (xl (nC s) x))=fT s.ms (xl (nC s) x) (nC s):=by
 have hk:mG s (bA (xl (nC s) x))=true:=by
  unfold mG
  rw[hs,Sk h]
  simp[nC]
 unfold mR
 rw[if_pos hk,Ol h];rfl
theorem aFR (s:Str) (hs:s.sz) (hk:sOk s=true) {x:Nat→Rat} (h: ∀c,fits (x c)):RO Tryz.prog 135 [.agg s.c,.sl (rqs (nC s) x)] (.tup [.sl (rv (stQ (Ma s (some (some x))))),.bool (bJ (Ma s (some (some x))))]):=by
 have hn:nC s≤16:=Bx (pH hk)
 have:=qI s (bA (xl (nC s) x)) hs.js hs.ms hs.nm (rP (C5 h) (by simp;omega))
 rw[Ix hk h] at this
 rw[Rf]
 exact this

end Go.Proofs.YticmgmemnpcbbaaGreat.Vm

namespace Go.Proofs.YticmgmemnpcbbaaGreat.Vm
open Go Go.Proofs
set_option linter.unusedSimpArgs false
set_option linter.unusedVariables false
theorem Yb (s:Str) (D:List (Option Rat)) (hm:s.ms.length≤8) (hD:okL D) (hl:D.length=(aP s.ms).length):NW Tryz.prog 147 [.ptr s.c,.sl (fvs D)] (fl 1 (fvs (fT s.ms D (aP s.ms).length))):=by
 have hcl:=iI s.ms s.ms.length
 change(aP s.ms).length≤2*s.ms.length at hcl
 refine fU Tryz.func147 rfl rfl (by rw[Tryz.ntmps147];simp) fun bl=> ?_
 rw[Tryz.ntmps147,Tryz.results147]
 refine aC ?_
 simp[Str.c]
 refine⟨by omega,by unfold maxLen;omega,fun g hg0 hg=> ?_⟩
 refine aD (tV s hm) ?_
 simp
 refine aI (fun j:Nat=> [(1,.sl (fvs D)),(5,.lsl g 1 0 s.ms.length),(16,.sl (cv (aP s.ms))),(17,.int .i64 (aP s.ms).length),(18,.int .i64 j)]) (fun j=>upd bl g (some ⟨1,fvs (fT s.ms D j)⟩)) (fun j=>j≤(aP s.ms).length) (fun j=>(aP s.ms).length - j) _ 0 (Nat.zero_le _) ⟨rfl,by simp,sub_eq (by simp[fT,fvs,fv])⟩ ?_
 intro j hj
 have wj:IntKind.i64.wrap ((j:Int)+1)=(j:Int)+1:=i64_in (by omega) (by omega)
 refine aC ?_
 simp
 refine⟨fun h=> ?_,fun h=> ?_⟩
 ·have rC:(aP s.ms)[j]∈aP s.ms:=List.getElem_mem h
  obtain⟨k,e1,hk,hsg⟩:=S4 s.ms.length (Nat.le_refl _) rC
  have h2:j<D.length:=by omega
  have hrl:=dQ s.ms D j
  have hkA:k<(fT s.ms D j).length:=by omega
  have oj:=hD _ (List.getElem_mem h2)
  have okk:=sA s.ms hD j _ (List.getElem_mem hkA)
  have hst:=jQ s.ms D j
  rw[cL _ _ _ h,cL _ _ _ h2,stI,e1,Int.toNat_natCast,cL _ _ _ hkA] at hst
  have hns:=aEH D[j]
  have hA1:=Fw (fT s.ms D j)[k] D[j] okk oj
  have hA2:=Fw (fT s.ms D j)[k] (D[j].map (- ·)) okk (pS oj)
  rcases hsg with e2 | e2
  ·rcases eA:(fT s.ms D j)[k] with _ | a
   ·rw[eA,if_neg (by simp),e2,vsg,if_neg (by omega)] at hst
    simp[h,A2,e1,e2]
    intro g7 hg7 h7g hb7
    simp[h7g,Ne.symm h7g,h2]
    simp[h7g,Ne.symm h7g,hrl,hk,hkA,eA,show fv none= .nilp from rfl,show∀a,fv (some a)= .ptr (rq a).c from fun _=>rfl]
    simp[wj,aB,uF]
    exact⟨j+1,by omega,by omega,rfl,by simp,by rw[hst];intro z b hz;simp only[aA] at hz ⊢;grind⟩
   ·rw[eA,if_pos (by rfl),←eA,e2,vsg,if_neg (by omega)] at hst
    simp[h,A2,e1,e2]
    intro g7 hg7 h7g hb7
    simp[h7g,Ne.symm h7g,h2]
    simp[h7g,Ne.symm h7g,hrl,hk,hkA,eA,show fv none= .nilp from rfl,show∀a,fv (some a)= .ptr (rq a).c from fun _=>rfl]
    refine bY aL [0,1,2,3,4,5,6,7,8,9,10] 1 11 (by kernel_rfl) ?_
    simp[h7g,Ne.symm h7g,hrl,hk,hkA]
    refine aN hA1 ?_
    simp[h7g,Ne.symm h7g,hrl,hk,hkA]
    refine bZ (i:=11) (by kernel_rfl) rfl rfl rfl ?_
    simp[h7g,Ne.symm h7g,hrl,hk,hkA]
    refine Dy ?_
    try simp
    simp[wj,aB,uF]
    exact⟨j+1,by omega,by omega,rfl,by simp,by rw[hst];intro z b hz;simp only[aA] at hz ⊢;grind⟩
  ·rcases eA:(fT s.ms D j)[k] with _ | a
   ·rw[eA,if_neg (by simp),e2,vsg,if_pos (by omega)] at hst
    simp[h,A2,e1,e2]
    intro g7 hg7 h7g hb7
    simp[h7g,Ne.symm h7g,h2]
    refine aD hns ?_
    simp[h7g,Ne.symm h7g,h2]
    simp[h7g,Ne.symm h7g,hrl,hk,hkA,eA,show fv none= .nilp from rfl,show∀a,fv (some a)= .ptr (rq a).c from fun _=>rfl]
    simp[wj,aB,uF]
    exact⟨j+1,by omega,by omega,rfl,by simp,by rw[hst];intro z b hz;simp only[aA] at hz ⊢;grind⟩
   ·rw[eA,if_pos (by rfl),←eA,e2,vsg,if_pos (by omega)] at hst
    simp[h,A2,e1,e2]
    intro g7 hg7 h7g hb7
    simp[h7g,Ne.symm h7g,h2]
    refine aD hns ?_
    simp[h7g,Ne.symm h7g,h2]
    simp[h7g,Ne.symm h7g,hrl,hk,hkA,eA,show fv none= .nilp from rfl,show∀a,fv (some a)= .ptr (rq a).c from fun _=>rfl]
    refine bY aL [0,1,2,3,4,5,6,7,8,9,10] 1 11 (by kernel_rfl) ?_
    simp[h7g,Ne.symm h7g,hrl,hk,hkA]
    refine aN hA2 ?_
    simp[h7g,Ne.symm h7g,hrl,hk,hkA]
    refine bZ (i:=11) (by kernel_rfl) rfl rfl rfl ?_
    simp[h7g,Ne.symm h7g,hrl,hk,hkA]
    refine Dy ?_
    try simp
    simp[wj,aB,uF]
    exact⟨j+1,by omega,by omega,rfl,by simp,by rw[hst];intro z b hz;simp only[aA] at hz ⊢;grind⟩
 ·have hj2:j=(aP s.ms).length:=by omega
  subst hj2
  have hrl:=dQ s.ms D (aP s.ms).length
  exact dI [.lsl g 1 0 s.ms.length] [g] (by simp) (S2.2 (.inr ⟨g,by simp[hrl],rfl,by simp,fun h=>absurd hg0 (by omega)⟩)) (by simp[hg]) (by simp[hg])
def aOH (s:Str) (n:Nat):Option (Option (Nat→Rat))→D
 | some (some x) => .t [fl 1 (fvs (fT s.ms (xl (nC s) x) (nC s))), .c (.sl ((fxs n x).drop (nC s))), .c (.bool true)]
 | _ => .t [fl 1 (fvs []), fl 1 (fvs []), .c (.bool false)]
theorem O2 {bl:Int→Option Blk} {d:D} {x y:V} {v:V} {gs:List Int} (hx:x.cl=true) (hy:y.cl=true):OwnD bl (.t [d,.c x,.c y]) v gs ↔ ∃w,v= .tup [w,x,y]∧OwnD bl d w gs:=by
 rw[OwnD]
 constructor
 ·rintro⟨vs,rfl,h⟩
  rw[OwnL] at h
  obtain⟨w,vs1,g1,g2,rfl,rfl,_,h1,h2⟩:=h
  rw[OwnL] at h2
  obtain⟨x1,vs2,g3,g4,rfl,rfl,_,h3,h4⟩:=h2
  rw[OwnL] at h4
  obtain⟨y1,vs3,g5,g6,rfl,rfl,_,h5,h6⟩:=h4
  rw[OwnD] at h3 h5
  rw[OwnL] at h6
  obtain⟨rfl,_,rfl⟩:=h3
  obtain⟨rfl,_,rfl⟩:=h5
  obtain⟨rfl,rfl⟩:=h6
  exact⟨w,rfl,by simpa using h1⟩
 ·rintro⟨w,rfl,h⟩
  refine⟨_,rfl,?_⟩
  rw[OwnL]
  refine⟨w,[x,y],gs,[],rfl,by simp,by simp,h,?_⟩
  rw[OwnL]
  refine⟨x,[y],[],[],rfl,rfl,by simp,?_,?_⟩
  ·rw[OwnD];exact⟨rfl,hx,rfl⟩
  ·rw[OwnL]
   refine⟨y,[],[],[],rfl,rfl,by simp,?_,?_⟩
   ·rw[OwnD];exact⟨rfl,hy,rfl⟩
   ·rw[OwnL];exact⟨rfl,rfl⟩
theorem M8 {bl:Int→Option Blk} :OwnD bl (.t [fl 1 (fvs []),fl 1 (fvs []),.c (.bool false)]) (.tup [.nils,.nils,.bool false]) []:=by
 have h0:OwnD bl (fl 1 (fvs [])) .nils []:=S2.2 (.inl ⟨rfl,rfl,rfl⟩)
 rw[OwnD]
 refine⟨_,rfl,?_⟩
 rw[OwnL]
 refine⟨_,_,[],[],rfl,rfl,by simp,h0,?_⟩
 rw[OwnL]
 refine⟨_,_,[],[],rfl,rfl,by simp,h0,?_⟩
 rw[OwnL]
 refine⟨_,_,[],[],rfl,rfl,by simp,?_,?_⟩
 ·rw[OwnD];exact⟨rfl,rfl,rfl⟩
 ·rw[OwnL];exact⟨rfl,rfl⟩
theorem Mn (s:Str) (hm:s.ms.length≤8) (p:Pg) (n m:Nat) (h:PgN p n m) (hn:nC s≤n):NW Tryz.prog 71 [.ptr s.c,.agg p.v] (aOH s n (Lp.opt n m (eQ p n m) (n+m) (wO (pC p)))):=by
 have hS:=Si p n m h
 obtain⟨o,ho⟩: ∃o,Lp.opt n m (eQ p n m) (n+m) (wO (pC p))=o:=⟨_,rfl⟩
 have pM:=fun x (e:o=some (some x))=>vK h (ho.trans e)
 rw[ho] at hS ⊢
 have hlen:(aP s.ms).length=nC s:=rfl
 refine fU Tryz.func71 rfl rfl (by rw[Tryz.ntmps71];simp) fun bl=> ?_
 rw[Tryz.ntmps71,Tryz.results71]
 refine aE ?_
 simp[Pg.v]
 intro g hg hbg
 refine cW 1 3 (.ptr p.v) bl (by intro z b hz;simp only[aA] at hz ⊢;grind) (by simp[frz,dropB,hbg,V.cl,Pg.v]) ?_
 refine aE ?_
 simp[Pg.v]
 refine aD hS ?_
 rcases o with _ | _ | x
 ·simp[Fq]
  refine aC ?_
  simp
  exact dI [.nils,.nils,.bool false] [] (by simp) M8 (by simp) (Sub.refl _)
 ·simp[Fq]
  refine aC ?_
  simp
  exact dI [.nils,.nils,.bool false] [] (by simp) M8 (by simp) (Sub.refl _)
 ·have hF:=Yb s (xl (nC s) x) hm (C5 (pM x rfl)) (by simp[nC])
  rw[hlen] at hF
  simp[Fq]
  refine aO ?_
  refine aC ?_
  simp
  refine aC ?_
  simp
  refine aD (tV s hm) ?_
  simp[hlen]
  have hcl: ∀y,y∈fxs n x→1=y.length:=fun y hy=>by
   obtain⟨c,_,rfl⟩:=List.mem_map.1 hy
   rfl
  have hni:(nC s:Int)≤n:=by omega
  have htk:(fxs n x).take n=fxs n x:=List.take_of_length_le (by simp)
  refine aY aL bl (Sub.refl _) [0,1,2,3,5,6,7] 4 (by kernel_rfl) ?_
  simp[sliV,hni,hn,Ye x hn,htk]
  refine⟨hcl,?_⟩
  refine Dz 4 ?_
  simp
  refine bU hF fun v gs b' o f fr=> ?_
  have hs:Sub bl b':=fun x y hx=>bI f fr hx
  simp
  refine⟨hs,Dz 8 ?_⟩
  simp
  refine⟨hs,Dz 9 ?_⟩
  simp
  refine⟨hs,Dz 10 ?_⟩
  simp
  refine⟨hs,Dy ?_⟩
  simp
  exact dI [v,.sl ((fxs n x).drop (nC s)),.bool true] gs (by simp) ((O2 (by simp[V.cl]) rfl).2 ⟨v,rfl,o⟩) (fun x hx=>f x hx) hs

def dVF (rs:List RT) (b:Bool):D:= .t [fl 3 (rv rs),.c (.bool b)]
theorem H7 {bl:Int→Option Blk} (b:Bool):OwnD bl (dVF [] b) (.tup [.nils,.bool b]) []:=oY.2 ⟨.nils,rfl,oO.2 (.inl ⟨rfl,rfl,rfl⟩)⟩
theorem qJ (s:Str) (d:List RT) (hj:s.js.length≤140737488351232) (hm:s.ms.length≤140737488351232) (hn: ∀j,j∈s.js→j.name.size≤140737488351232) (hd:Bm d 1048576):NW Tryz.prog 135 [.agg s.c,.sl (rv d)] (dVF (stQ (mR s d)) (bJ (mR s d))):=by
 refine fU Tryz.func135 rfl rfl (by rw[Tryz.ntmps135];simp) fun bl=> ?_
 rw[Tryz.ntmps135,Tryz.results135]
 refine aE ?_
 simp[Str.c]
 intro g hg0 hg
 refine cW 1 2 (.ptr s.c) bl (by simp[hg]) (by simp[frz,dropB,hg,Str.c,V.cl]) ?_
 refine aC ?_
 simp[Str.c]
 refine aD (iV s hj hm hn) ?_
 cases hk:sOk s
 ·have hz:mR s d= [none]:=by unfold mR mG;rw[hk];rfl
  rw[hz]
  simp
  exact dI [.nils,.bool false] [] (by simp) (H7 _) (by simp) (Sub.refl _)
 have hs:=pH hk
 have hnm:=hs.nm
 have hz:mG s d=(decide (d.length=(aP s.ms).length)&& lO d):=by unfold mG;rw[hk];rfl
 have hwl:(who s).length=(aP s.ms).length:=by simp[who]
 simp[Str.c]
 refine aD (kQ s hnm) ?_
 simp
 refine bN [(1,.sl (rv d)),(2,.ptr s.c),(4,.nils),(5,.bool false),(6,.sl (iv (who s))),(7,.sl (iv (sgn s)))] _ bl 28 (.bool (!mG s d)) ⟨rfl,by simp[Str.c],Sub.refl _⟩ rfl ?_ ?_
 ·simp[hwl]
  by_cases h:d.length=(aP s.ms).length
  ·have h':(d.length:Int)=((aP s.ms).length:Int):=by omega
   simp[h,h']
   refine aD (nI d hd) ?_
   simp[hz,h]
  ·have h': ¬ (d.length:Int)=((aP s.ms).length:Int):=by omega
   simp[h,h',hz]
 cases hp:mG s d
 ·have hz:mR s d= [none]:=by unfold mR;rw[hp];rfl
  rw[hz]
  simp
  exact dI [.nils,.bool false] [] (by simp) (H7 _) (by simp) (Sub.refl _)
 obtain⟨_,hdl,bH⟩:=E3 hp
 have hD:=G9 d
 have hDl:(bD d).length=(aP s.ms).length:=by simpa using hdl
 have hso: ∀j,j<(aP s.ms).length→((bD d).getD j none).isSome=true:=fun j hj=>by
  rw[cL _ _ _ (by omega)]
  have:=List.all_eq_true.1 bH d[j] (List.getElem_mem (by omega))
  simpa [bD] using this
 have kC:=run_eq s.ms (bD d) hD hso hs.kd
 have hq:mR s d=gI s.ms (bD d) (aP s.ms).length:=by unfold mR;rw[hp,if_pos rfl,kC]
 have hcl:=iI s.ms s.ms.length
 change(aP s.ms).length≤2*s.ms.length at hcl
 have hlR:=lF s.ms (bD d)
 have hoR:=S8 s.ms (bD d)
 have hV:=nI (bA (mR s d)) (rP (rV s d).1 (by have:=(rV s d).2;omega))
 rw[qW (rV s d).1] at hV
 rw[hq] at hV ⊢
 simp[Str.c]
 rcases Nat.eq_zero_or_pos s.ms.length with h0 | kV
 ·have hc0:(aP s.ms).length=0:=by omega
  have e0:gI s.ms (bD d) (aP s.ms).length= []:=List.eq_nil_of_length_eq_zero (by rw[hlR,h0])
  rw[e0] at hV ⊢
  rw[h0]
  refine bU (kN 0 (by omega)) fun v gs b' o f fr=> ?_
  obtain⟨c1,c2⟩:=o.one
  have hs0:Sub bl b':=fun x y hx=>bI f fr hx
  have hfv:frz b' 1 v=some (.sl (rv (bA []))):=by rw[o.frz (iZ _ _ _),Jm];rfl
  simp[hwl,hc0,c1,c2]
  refine aI (fun j:Nat=> [(8,v),(34,.int .i64 0),(35,.int .i64 0)]) (fun _=>b') (fun j=>True) (fun j=>j) _ 0 trivial ⟨rfl,by simp[c1,c2],Sub.refl _⟩ ?_
  intro j _
  refine aC ?_
  simp
  refine aX 1 (ys:= [.sl (rv (bA []))]) (by simp[hfv]) hV rfl ?_
  simp[bJ,c1,c2]
  exact dI [v,.bool true] gs (by simp[c1,c2]) (oY.2 ⟨v,rfl,o⟩) (fun x hx=>f x hx) hs0
 refine bU (kN s.ms.length (by omega)) fun v gs b' o f fr=> ?_
 rcases oO.1 o with ⟨h1,_,_⟩| ⟨g8,rfl,rfl,hb8,hg8⟩
 ·have h2:s.ms.length=0:=by have:=congrArg List.length h1;rwa [gE] at this
  omega
 have hn8:bl g8=none:=f g8 (by simp)
 have hp8:0≤g8:=by
  rcases Int.lt_or_le g8 0 with h | h
  ·have h2:s.ms.length=0:=by have:=congrArg List.length (hg8 h);rwa [gE] at this
   omega
  ·exact h
 rw[gE]
 simp
 refine aI (fun j:Nat=> [(1,.sl (rv d)),(6,.sl (iv (who s))),(7,.sl (iv (sgn s))),(8,.lsl g8 3 0 s.ms.length),(33,.sl (iv (who s))),(34,.int .i64 (aP s.ms).length),(35,.int .i64 j)]) (fun j=>upd bl g8 (some ⟨3,rv (bA (gI s.ms (bD d) j))⟩)) (fun j=>j≤(aP s.ms).length) (fun j=>(aP s.ms).length - j) _ 0 (Nat.zero_le _) ⟨rfl,by simp[hwl],by
  intro z b hz
  show b' z=some b
  simp only[aA] at hz
  split at hz
  ·rename_i e;rw[e,hb8,←hz,xU];rfl
  ·exact bI f fr hz⟩ ?_
 intro j hj
 have wj:IntKind.i64.wrap ((j:Int)+1)=(j:Int)+1:=i64_in (by omega) (by omega)
 refine aC ?_
 simp
 refine⟨fun h=> ?_,fun h=> ?_⟩
 ·have rC:(aP s.ms)[j]∈aP s.ms:=List.getElem_mem h
  obtain⟨k,e1,hk,hsg⟩:=S4 s.ms.length (Nat.le_refl _) rC
  have h2:j<d.length:=by omega
  have h3:j<(bD d).length:=by omega
  have hrl:=hlR j
  have hkA:k<(gI s.ms (bD d) j).length:=by omega
  have hst:=jO s.ms (bD d) j
  rw[cL _ _ _ h,cL _ _ _ h3,stS,e1,Int.toNat_natCast,cL _ _ _ hkA] at hst
  have ex:ro (bD d)[j]=d[j]:=by rw[←aAS bH _ h2];simp[bD]
  have ok1:=hoR j _ (List.getElem_mem hkA)
  have ok2:=hD _ (List.getElem_mem h3)
  have hA:=aDK _ _ ok1 ok2
  have hB:=aA7 _ _ ok1 ok2
  have wE:(who s)[j]'(by omega)=(k:Int):=by simp[who,e1]
  have sE:(sgn s)[j]'(by simp[sgn];omega)=(aP s.ms)[j].2:=by simp[sgn]
  have sl:j<(sgn s).length:=by simp[sgn];omega
  have wl:j<(who s).length:=by omega
  have eg:=tN (gI s.ms (bD d) j) k (by simpa using hkA)
  rw[ex] at hA hB
  generalize (bD d)[j]=dx at *
  obtain⟨A,eA⟩: ∃A,gI s.ms (bD d) j=A:=⟨_,rfl⟩
  simp only[eA] at hrl hkA hst hA hB eg ⊢
  rcases hsg with e2 | e2
  ·rw[e2,if_pos (by omega)] at hst
   rw[e2] at sE
   simp[h,wE,sE,sl,wl]
   refine bY aL [0,1,2,3,4,5,6,7,8,9,10,11] 1 12 (by kernel_rfl) ?_
   simp[hrl,hk,hkA,h2,eg,RT.c]
   refine aN hA ?_
   simp[hrl,hk,hkA,RT.c]
   refine bZ (i:=12) (by kernel_rfl) rfl rfl rfl ?_
   simp[hrl,hk,hkA,RT.c]
   refine Dy ?_
   simp[wj,aB]
   refine⟨j+1,by omega,by omega,rfl,by simp,?_⟩
   rw[hst,←wM]
   intro z b hz;simp only[aA,RT.c] at hz ⊢;grind
  ·rw[e2,if_neg (by omega)] at hst
   rw[e2] at sE
   simp[h,wE,sE,sl,wl]
   refine bY aL [0,1,2,3,4,5,6,7,8,9,10,11] 1 12 (by kernel_rfl) ?_
   simp[hrl,hk,hkA,h2,eg,RT.c]
   refine aN hB ?_
   simp[hrl,hk,hkA,RT.c]
   refine bZ (i:=12) (by kernel_rfl) rfl rfl rfl ?_
   simp[hrl,hk,hkA,RT.c]
   refine Dy ?_
   simp[wj,aB]
   refine⟨j+1,by omega,by omega,rfl,by simp,?_⟩
   rw[hst,←wM]
   intro z b hz;simp only[aA,RT.c] at hz ⊢;grind
 ·have hj2:j=(aP s.ms).length:=by omega
  subst hj2
  have hrl:=hlR (aP s.ms).length
  have hfz: ∀(B:Int→Option Blk) (n:Nat),B g8=some ⟨3,rv (bA (gI s.ms (bD d) (aP s.ms).length))⟩→frz (dropB B bl) 1 (.lsl g8 3 0 s.ms.length)=some (.sl (rv (bA (gI s.ms (bD d) (aP s.ms).length)))):=fun B n hB=>
   dH (sz:=3) (n:=s.ms.length) hp8 hn8 (els:=rv (bA (gI s.ms (bD d) (aP s.ms).length))) hB (by simpa using hrl) (Ig _)
  generalize gI s.ms (bD d) (aP s.ms).length=R at *
  have hfb:frz (upd bl g8 (some ⟨3,rv (bA R)⟩)) 1 (.lsl g8 3 0 s.ms.length)=some (.sl (rv (bA R))):=G8 (fun z b hz=>by
   unfold dropB at hz
   split at hz
   ·exact hz
   ·cases hz) 1 (hfz (upd bl g8 (some ⟨3,rv (bA R)⟩)) 0 (by simp))
  simp
  refine aX 1 (ys:= [.sl (rv (bA R))]) (by simp[hfb]) hV rfl ?_
  cases ha:bJ R
  ·simp
   have hst:stQ R= []:=by unfold stQ;rw[ha];rfl
   rw[hst]
   exact dI [.nils,.bool false] [] (by simp) (H7 _) (by simp) (by simp[hn8])
  ·simp
   have hst:stQ R=bA R:=by unfold stQ;rw[ha];rfl
   rw[hst]
   exact dI [.lsl g8 3 0 s.ms.length,.bool true] [g8] (by simp) (oY.2 ⟨_,rfl,oO.2 (.inr ⟨g8,by simp[hrl],rfl,by simp,fun h=>absurd hp8 (by omega)⟩)⟩) (by simp[hn8]) (by simp[hn8])
theorem X0 (s:Str) (hs:s.sz) (hk:sOk s=true) {x:Nat→Rat} (h: ∀c,fits (x c)):NW Tryz.prog 135 [.agg s.c,.sl (rqs (nC s) x)] (dVF (stQ (Ma s (some (some x)))) (bJ (Ma s (some (some x))))):=by
 have hn:nC s≤16:=Bx (pH hk)
 have:=qJ s (bA (xl (nC s) x)) hs.js hs.ms hs.nm (rP (C5 h) (by simp;omega))
 rw[Ix hk h] at this
 rw[Rf]
 exact this
end Go.Proofs.YticmgmemnpcbbaaGreat.Vm

namespace Go.Proofs.YticmgmemnpcbbaaGreat.Vm
open Go Go.RowKit Go.Proofs
set_option linter.unusedSimpArgs false
set_option linter.unusedVariables false
theorem Ji (ms:List Mb) {x:Nat→Rat} {n L:Nat} {v:Int} (hx: ∀c,c<n→ ∃a:Int,x c*v=a∧a.natAbs≤L): ∀t,t≤n→ ∀q,some q∈fT ms (xl n x) t→ ∃a:Int,q*v=a∧a.natAbs≤t*L
 | 0, _, q, hq => by
   have:some q∈List.replicate ms.length (none:Option Rat):=hq
   rw[List.mem_replicate] at this
   cases this.2
 | t + 1, ht, q, hq => by
   have ih:=Ji ms hx t (by omega)
   rw[jQ] at hq
   have hxt:(xl n x).getD t none=some (x t):=by
    have:t<n:=by omega
    simp[xl,this]
   rw[hxt] at hq
   unfold stI at hq
   obtain⟨a0,ha0,hl0⟩:=hx t (by omega)
   have hy: ∃y,vsg ((aP ms).getD t (0,0)).2 (some (x t))=some y∧ ∃a:Int,y*v=a∧a.natAbs≤L:=by
    unfold vsg
    split
    ·exact⟨-x t,rfl, -a0,by rw[Rat.intCast_neg,←ha0];grind,by omega⟩
    ·exact⟨x t,rfl,a0,ha0,hl0⟩
   obtain⟨y,hy,b,hb,hbl⟩:=hy
   rw[hy] at hq
   have hmul:(t+1)*L=t*L+L:=by rw[Nat.add_mul,Nat.one_mul]
   rcases List.mem_or_eq_of_mem_set hq with h | h
   ·obtain⟨a,h1,h2⟩:=ih q h
    exact⟨a,h1,by omega⟩
   ·split at h
    ·rename_i hs
     obtain⟨r,hr⟩:=Option.isSome_iff_exists.1 hs
     have hlt:((aP ms).getD t (0,0)).1.toNat<(fT ms (xl n x) t).length:=by
      rcases Nat.lt_or_ge ((aP ms).getD t (0,0)).1.toNat (fT ms (xl n x) t).length with h | h
      ·exact h
      ·rw[List.getD_eq_getElem?_getD,List.getElem?_eq_none h] at hr;cases hr
     have hm:some r∈fT ms (xl n x) t:=by
      rw[←hr,cL _ _ _ hlt];exact List.getElem_mem hlt
     obtain⟨a,h1,h2⟩:=ih r hm
     rw[hr] at h
     have e:q=r+y:=by
      have h':some q=fit (r+y):=h
      unfold fit at h'
      split at h'
      ·exact Option.some.inj h'
      ·cases h'
     refine⟨a+b,by rw[e,Rat.intCast_add,←h1,←hb];grind,?_⟩
     have:=Int.natAbs_add_le a b
     omega
    ·cases h
     exact⟨b,hb,by omega⟩
theorem aBH {p:Pg} {n m:Nat} (h:PgN p n m) {x:Nat→Rat} (ho:Lp.opt n m (eQ p n m) (n+m) (wO (pC p))=some (some x)): ∃v:Int,v≠0∧v.natAbs≤lR∧ ∀c,c<n→ ∃a:Int,x c*v=a∧a.natAbs≤lR:=by
 rcases Lp.answers (wO (pC p)) h.init with ⟨e,_⟩| ⟨e,_⟩| ⟨y,e,_,⟨v,h1,h2,h3⟩,h0⟩
 ·rw[ho] at e;cases e
 ·rw[ho] at e;cases e
 ·rw[ho] at e
  have e:=Option.some.inj (Option.some.inj e)
  subst e
  have hc:=nZ h.ml
  exact⟨v,h1,Nat.le_trans h2 hc,fun c hlt=>by obtain⟨a,g1,g2⟩:=h3 c hlt;exact⟨a,g1,Nat.le_trans g2 hc⟩⟩
theorem Xn :17*lR≤lR*lR:=Nat.mul_le_mul_right _ (by unfold lR;decide+kernel)
theorem Tz {p:Pg} {n m:Nat} (h:PgN p n m) (hn:n≤16) {x:Nat→Rat} (ho:Lp.opt n m (eQ p n m) (n+m) (wO (pC p))=some (some x)) (ms:List Mb) {q:Rat} (hq:some q∈fT ms (xl n x) n) {e:Int} (he:e.natAbs≤1):fits (q+e):=by
 obtain⟨v,h1,h2,h3⟩:=aBH h ho
 obtain⟨a,g1,g2⟩:=Ji ms h3 n (Nat.le_refl _) q hq
 refine zM (Lp.fP ⟨a+e*v,v,h1,by rw[Rat.intCast_add,Rat.intCast_mul,←g1];grind,?_,by omega⟩ Xn)
 have e1:=Int.natAbs_add_le a (e*v)
 have e2:(e*v).natAbs≤lR:=by
  rw[Int.natAbs_mul]
  calc e.natAbs*v.natAbs≤1*lR:=Nat.mul_le_mul he h2
   _=lR:=Nat.one_mul _
 have e3:n*lR≤16*lR:=Nat.mul_le_mul_right _ hn
 omega
def fC (ms:List Mb) (q:List (Option Rat)) (n:Nat):List (Option Rat):=(List.range q.length).map fun k=>if k<n then op2 (· + ·) (q.getD k none) (some ((tkI (ms.getD k default).kind:Int):Rat)) else q.getD k none
@[simp] theorem Z2 (ms : List Mb) (q : List (Option Rat)) (n : Nat) : (fC ms q n).length = q.length := by simp [fC]
theorem M7 (ms:List Mb) (q:List (Option Rat)):fC ms q 0=q:=by
 apply List.ext_getElem
 ·simp
 ·intro i h1 h2
  simp[fC,h2]
theorem zQ (ms:List Mb) (q:List (Option Rat)) {n:Nat} (h:n<q.length):(fC ms q n)[n]'(by simpa using h)=q[n]:=by simp[fC,h]
theorem Dc (ms:List Mb) (q:List (Option Rat)) {n:Nat} (h:n<q.length):(fC ms q n).set n (op2 (· + ·) q[n] (some ((tkI (ms.getD n default).kind:Int):Rat)))=fC ms q (n+1):=by
 apply List.ext_getElem
 ·simp
 ·intro i h1 h2
  rw[List.getElem_set]
  split
  ·rename_i e;subst e;simp[fC,h]
  ·rename_i e
   have hi:i<q.length:=by simpa using h2
   have e2:(i<n+1)=(i<n):=propext ⟨fun g=>by omega,fun g=>by omega⟩
   simp[fC,e2]
noncomputable def C1 (s : Str) : Option (Option (Nat → Rat)) → List (Option Rat)
 | some (some x) => fC s.ms (fT s.ms (xl (nC s) x) (nC s)) s.ms.length
 | _ => [none]
noncomputable def pI (s : Str) : List (Option Rat) :=
 if sOk s=true then C1 s (Lp.opt (nC s) (nR s) (eQ (gZ s) (nC s) (nR s)) (nC s+nR s) (wO (pC (gZ s)))) else [none]
theorem Ox (ms:List Mb) {q:List (Option Rat)} (h:okL q) (n:Nat):okL (fC ms q n):=fun y hy=>by
 obtain⟨k,hk,rfl⟩:=List.mem_map.1 hy
 have hk':k<q.length:=by simpa using hk
 split
 ·exact zV _ _ _
 ·rw[cL _ _ _ hk'];exact h _ (List.getElem_mem hk')
theorem Xc {s:Str} (hs:SOk s) {o:Option (Option (Nat→Rat))} (h: ∀x,o=some (some x)→ ∀c,fits (x c)):okL (C1 s o)∧(C1 s o).length≤24:=by
 have:=hs.nm
 rcases o with _ | _ | x
 ·exact⟨uD,by simp[C1]⟩
 ·exact⟨uD,by simp[C1]⟩
 ·exact⟨Ox _ (sA s.ms (C5 (h x rfl)) _) _,by show(fC _ _ _).length≤24;rw[Z2,dQ];omega⟩
theorem V5 (s:Str):okL (pI s)∧(pI s).length≤24:=by
 unfold pI
 by_cases h:sOk s=true
 ·rw[if_pos h]
  exact Xc (pH h) fun x e=>vK (D8 (pH h)) e
 ·rw[if_neg h];exact⟨uD,by simp⟩
theorem Sz (ms:List Mb) {q:List (Option Rat)} (hf: ∀y (e:Int),some y∈q→e.natAbs≤1→fits (y+e)) {n:Nat} (hn:q.length≤n):bJ (fC ms q n)=bJ q:=by
 rw[Bool.eq_iff_iff]
 unfold bJ
 rw[List.all_eq_true,List.all_eq_true]
 constructor
 ·intro h y hy
  obtain⟨k,hk,rfl⟩:=List.mem_iff_getElem.1 hy
  have:=h ((fC ms q n)[k]'(by simpa using hk)) (List.getElem_mem _)
  have hkn:k<n:=by omega
  simp only[fC,List.getElem_map,List.getElem_range,if_pos hkn,cL _ _ _ hk] at this
  cases hqk:q[k] with
  | none => rw [hqk] at this; exact this
  | some y => rfl
 ·intro h y hy
  obtain⟨k,hk,rfl⟩:=List.mem_iff_getElem.1 hy
  have hk':k<q.length:=by simpa using hk
  have hkn:k<n:=by omega
  have hs:=h q[k] (List.getElem_mem hk')
  obtain⟨r,hr⟩:=Option.isSome_iff_exists.1 hs
  simp only[fC,List.getElem_map,List.getElem_range,if_pos hkn,cL _ _ _ hk',hr]
  have hm:some r∈q:=by rw[←hr];exact List.getElem_mem hk'
  rw[zT (hf r _ hm (by unfold tkI;split; · decide
                       ·split<;>decide))]
  rfl

theorem xX (k:Int):RO Tryz.prog 140 [.int .i64 k] (.int .i64 (tkI k)):=by
 refine aJ Tryz.func140 rfl rfl (by rw[Tryz.ntmps140];simp) fun bl=> ?_
 rw[Tryz.ntmps140,Tryz.results140]
 refine aC ?_
 simp
 refine⟨fun h=> ?_,fun h=> ?_⟩
 ·subst h
  exact aS (by simp[tkI]) rfl rfl
 ·refine⟨fun h2=> ?_,fun h2=> ?_⟩
  ·subst h2
   exact aS (by simp[tkI]) rfl rfl
  ·exact aS (by simp[tkI,h,h2]) rfl rfl
def tbF (s:Str) (i k:Nat):Nat→Int:=fun r=>if r<i then tB s r else if r=i then tbI s i k else 0
theorem Ud (s:Str):tbF s 0 0=fun _=>0:=by
 funext r
 unfold tbF
 split
 ·omega
 ·split
  ·rename_i e;subst e;rfl
  ·rfl
theorem Wm (s:Str) (i:Nat):tbF s i s.ms.length=tbF s (i+1) 0:=by
 funext r
 unfold tbF
 by_cases h1:r<i
 ·rw[if_pos h1,if_pos (by omega)]
 ·rw[if_neg h1]
  by_cases h2:r=i
  ·subst h2;rw[if_pos rfl,if_pos (by omega)];rfl
  ·rw[if_neg h2,if_neg (by omega)]
   split
   ·rename_i e;subst e;rfl
   ·rfl
theorem Xv (s:Str):lz (nR s) (tbF s (nR s) 0)=lz (nR s) (tB s):=rZ fun c hc=>by unfold tbF;rw[if_pos hc]
theorem Wr (s:Str) {i k:Nat} {v:Int} (h:tbI s i (k+1)=v):(iv (lz (nR s) (tbF s i k))).set i [.int .i64 v]=iv (lz (nR s) (tbF s i (k+1))):=by
 rw[N3]
 congr 1
 refine rZ fun c _=> ?_
 unfold tbF
 by_cases e:c=i
 ·subst e;rw[if_pos rfl,if_neg (by omega),if_pos rfl,h]
 ·rw[if_neg e]
  by_cases e2:c<i
  ·rw[if_pos e2,if_pos e2]
  ·rw[if_neg e2,if_neg e2,if_neg e,if_neg e]
theorem aEC (s:Str) {i k:Nat} (h:i<nR s):(iv (lz (nR s) (tbF s i k)))[i]? =some [.int .i64 (tbI s i k)]:=by
 simp[iv,lz,h,tbF]
theorem Jw (s:Str):(dF s).length=nR s:=by
 have e:dF s=xO s (aQ s.js).length:=by simp[xO,dF]
 rw[e,mY s _ (Nat.le_refl _)];rfl
theorem Yr (s:Str) {i k:Nat} (hi:i<(dF s).length) (hk:k<s.ms.length):(iv (dF s)[i])[k]? =some [.int .i64 (rAt s i k)]:=by
 have hl:=mK s _ (List.getElem_mem hi)
 unfold rAt
 rw[tR,A3 (dF s) (mK s) i k hi hk]
 have hk':k<(dF s)[i].length:=by omega
 simp[lat,hk']
theorem yY (s:Str) (hs:SOk s):NW Tryz.prog 125 [.ptr s.c] (dPg (gZ s)):=by
 have h6:=hs.nj
 have h8:=hs.nm
 have hnR:=Uk hs
 have er:=Jw s
 obtain⟨N2,hN2⟩: ∃x,2*s.js.length=x:=⟨_,rfl⟩
 have w0:IntKind.i64.wrap (2*(s.js.length:Int))=(N2:Int):=by rw[i64_in (by omega) (by omega)];omega
 have hz0:dC s=List.replicate N2 0:=by unfold dC;rw[hN2]
 have hF:=zL s (dC s) (D3 hs)
 refine fU Tryz.func125 rfl rfl (by rw[Tryz.ntmps125];simp) fun bl=> ?_
 rw[Tryz.ntmps125,Tryz.results125]
 refine aE ?_
 simp
 intro gr hgr hbr
 obtain⟨b0,hb0⟩: ∃b0,b0=upd bl gr (some ⟨5,[[.int .i64 0,.int .i64 0,.nils,.nils,.nils]]⟩):=⟨_,rfl⟩
 refine dJ [(0,.ptr s.c),(2,.loc gr 5 0 0)] 53 b0 ⟨rfl,by simp,by rw[hb0];exact Sub.refl _⟩ ?_
 have b0r:b0 gr=some ⟨5,[[.int .i64 0,.int .i64 0,.nils,.nils,.nils]]⟩:=by rw[hb0];simp
 have s0:Sub bl b0:=fun x y hx=>by rw[hb0,aG _ _ _ _ (fun e=>by rw[e,hbr] at hx;cases hx)];exact hx
 clear hb0
 refine aE ?_
 simp[Str.c,w0]
 refine⟨by omega,by unfold maxLen;omega,fun gz hgz hbz=> ?_⟩
 refine mO 1 (bl2:=b0) (ys:= [.ptr s.c,.sl (iv (dC s)),.int .i64 0,.int .i64 0]) (by simp[hbz]) ?_ (bU hF fun v gs b1 o1 f fr=> ?_)
 ·have e1:(List.replicate N2 [V.int .i64 0]:List (List V))=iv (dC s):=by rw[hz0];simp[iv]
  have e2:=dH (bl:=upd b0 gz (some ⟨1,List.replicate N2 [.int .i64 0]⟩)) (bl0:=b0) (sz:=1) (n:=N2) hgz hbz (aV _ _ _) (by simp) (by simp[V.cl])
  rw[e1] at e2 ⊢
  simp[e2]
  simp[frz,Str.c]
 obtain⟨va,vb,vc,ga,gb,gc,rfl,rfl,d1,d2,oa,ob,oc⟩:=tP.1 o1
 have hva:=eR oa
 have hvb:=eR ob
 have hvc:=eR oc
 have s1:Sub b0 b1:=fun x y hx=>bI f fr hx
 simp[hva,hvb,hvc]
 intro gp hgp hbp
 have hin: ∀x,x∈ga++(gb++gc)→ ∃y,b1 x=some y:=o1.has
 have hnp:gp∉ga++(gb++gc):=fun h=>by obtain⟨y,hy⟩:=hin gp h;rw[hbp] at hy;cases hy
 simp only[List.mem_append,not_or] at hnp
 obtain⟨npa,npb,npc⟩:=hnp
 obtain⟨b2,hb2⟩: ∃b2,b2=upd b1 gp (some ⟨5,[[.int .i64 (nR s),.int .i64 (nC s),va,vb,vc]]⟩):=⟨_,rfl⟩
 have lK:(dA s (dC s)).rows=nR s:=rfl
 have Ai:(dA s (dC s)).aP=nC s:=rfl
 refine dJ [(0,.ptr s.c),(2,.loc gr 5 0 0),(3,.loc gp 5 0 0)] 53 b2 ⟨rfl,by simp[Str.c],by rw[hb2];exact sub_eq (by simp[lK,Ai])⟩ ?_
 have b2p:b2 gp=some ⟨5,[[.int .i64 (nR s),.int .i64 (nC s),va,vb,vc]]⟩:=by rw[hb2];simp
 have b2x: ∀x,x≠gp→b2 x=b1 x:=fun x hx=>by rw[hb2,aG _ _ _ _ hx]
 clear hb2
 have ok2: ∀ {d:D} {v:V} {gs:List Int},OwnD b1 d v gs→gp∉gs→OwnD b2 d v gs:=fun o hn=>o.cZ fun x hx y hy=>by rw[b2x x (fun e=>hn (e▸hx))];exact hy
 have f0: ∀x,x∈ga++(gb++gc)→b0 x=none:=f
 have fp:b0 gp=none:=aR s1 hbp
 refine A5 (g:=gp) (s:=5) (els:= [[.int .i64 (nR s),.int .i64 (nC s),va,vb,vc]]) 0 3 b2p rfl rfl (ok2 ob npb) npb fun gB b3 b3p b3B nBp Tv Bor b3x=> ?_
 have nBa:gB∉ga:=fun h=>by
  rcases Bor with g | g
  ·exact d1 gB h (List.mem_append.2 (.inl g))
  ·have g:b2 gB=none:=g
   obtain⟨y,hy⟩:=(ok2 oa npa).has gB h;rw[g] at hy;cases hy
 have nBc:gB∉gc:=fun h=>by
  rcases Bor with g | g
  ·exact d2 gB g h
  ·have g:b2 gB=none:=g
   obtain⟨y,hy⟩:=(ok2 oc npc).has gB h;rw[g] at hy;cases hy
 have fB:b0 gB=none:=by
  rcases Bor with g | g
  ·exact f0 gB (by simp[g])
  ·have g:b2 gB=none:=g
   rw[b2x gB nBp] at g;exact aR s1 g
 have oa3:OwnD b3 (fl 1 (iv (dA s (dC s)).a)) va ga:=(ok2 oa npa).cZ fun x hx y hy=>by rw[b3x x (fun e=>npa (e▸hx)) (fun e=>nBa (e▸hx))];exact hy
 have oc3:OwnD b3 (fl 1 (iv (dA s (dC s)).c)) vc gc:=(ok2 oc npc).cZ fun x hx y hy=>by rw[b3x x (fun e=>npc (e▸hx)) (fun e=>nBc (e▸hx))];exact hy
 have s3:Sub b0 b3:=fun x y hx=>by
  have x1:x≠gp:=fun e=>by rw[e,fp] at hx;cases hx
  exact(b3x x x1 (fun e=>by rw[e,fB] at hx;cases hx)).trans ((b2x x x1).trans (s1 x y hx))
 have eb:(dA s (dC s)).b=lz (nR s) (tbF s 0 0):=by rw[Ud];exact A6 s
 rw[eb,sD] at b3p
 rw[eb] at b3B
 simp only[List.set] at b3p
 clear Bor b3x b2x b2p ok2 hin o1 hbp s1
 refine dJ [(0,.ptr s.c),(2,.loc gr 5 0 0),(3,.loc gp 5 0 0)] 53 b3 ⟨rfl,by simp[Str.c],Sub.refl _⟩ ?_
 refine aE ?_
 simp
 refine aD (qU s hs) ?_
 simp[er]
 refine aC ?_
 simp
 refine aI (fun i:Nat=> [(0,.ptr s.c),(2,.loc gr 5 0 0),(3,.loc gp 5 0 0),(18,.sl (ivv (dF s))),(19,.int .i64 (nR s)),(20,.int .i64 i)]) (fun i=>upd b3 gB (some ⟨1,iv (lz (nR s) (tbF s i 0))⟩)) (fun i=>i≤nR s) (fun i=>nR s - i) _ 0 (Nat.zero_le _) ⟨rfl,by simp[er],sub_eq (by
  funext x;simp only[aA];split
  ·rename_i e;rw[e,b3B]
  ·rfl)⟩ ?_
 intro i hi
 have wi:IntKind.i64.wrap ((i:Int)+1)=(i:Int)+1:=i64_in (by omega) (by omega)
 refine aE ?_
 simp
 refine aE ?_
 simp
 refine⟨fun hin=> ?_,fun hin=> ?_⟩
 ·have hie:i<(dF s).length:=by omega
  have Oa:(i:Int)<nR s:=by omega
  refine aO (aT ?_)
  refine aE ?_
  simp[hie]
  refine aE ?_
  simp[Str.c]
  refine aT ?_
  refine aI (fun k:Nat=> [(0,.ptr s.c),(2,.loc gr 5 0 0),(3,.loc gp 5 0 0),(18,.sl (ivv (dF s))),(19,.int .i64 (nR s)),(20,.int .i64 i),(4,.int .i64 i),(5,.sl (iv (dF s)[i])),(28,.sl (mv s.ms)),(29,.int .i64 s.ms.length),(30,.int .i64 k)]) (fun k=>upd b3 gB (some ⟨1,iv (lz (nR s) (tbF s i k))⟩)) (fun k=>k≤s.ms.length) (fun k=>s.ms.length - k) _ 0 (Nat.zero_le _) ⟨rfl,by simp[er,Str.c,hie],Sub.refl _⟩ ?_
  intro k hk
  have wk:IntKind.i64.wrap ((k:Int)+1)=(k:Int)+1:=i64_in (by omega) (by omega)
  refine aE ?_
  simp
  refine aE ?_
  simp
  refine⟨fun hkn=> ?_,fun hkn=> ?_⟩
  ·have aY1:(k:Int)<s.ms.length:=by omega
   refine aO (aT ?_)
   obtain⟨bq,hbq⟩: ∃bq,bq=upd b3 gB (some ⟨1,iv (lz (nR s) (tbF s i k))⟩):=⟨_,rfl⟩
   have bqB:bq gB=some ⟨1,iv (lz (nR s) (tbF s i k))⟩:=by rw[hbq];simp
   have bqp:=(show bq gp=b3 gp by rw[hbq,aG _ _ _ _ (Ne.symm nBp)]).trans b3p
   rw[←hbq]
   refine aE ?_
   simp[hkn,Mb.c]
   intro g7 hg7 hb7
   have n7B:g7≠gB:=fun e=>by rw[e,bqB] at hb7;cases hb7
   have n7p:g7≠gp:=fun e=>by rw[e,bqp] at hb7;cases hb7
   have t1:=xX s.ms[k].kind
   have r1:=Yr s hie hkn
   have v1:=aEC s (k:=k) hin
   have w2:IntKind.i64.wrap (rAt s i k*tkI s.ms[k].kind)=rAt s i k*tkI s.ms[k].kind:=by
    have:=Fo hs i k
    rcases Jl (rAt s i k) s.ms[k].kind with e | e | e<;>rw[e]<;>exact i64_in (by omega) (by omega)
   have tb0:tbF s i k i=tbI s i k:=by simp[tbF]
   have es:tbI s i (k+1)=tbI s i k - rAt s i k*tkI s.ms[k].kind:=by
    show tbI s i k - rAt s i k*tkI (s.ms.getD k default).kind=_
    rw[cL _ _ _ hkn]
   have w3:IntKind.i64.wrap (tbI s i k - rAt s i k*tkI s.ms[k].kind)=tbI s i (k+1):=by
    have:=Ee hs i (k+1)
    rw[←es];exact i64_in (by omega) (by omega)
   refine bY aL [0,1,2,3,4,5,6,7,8,9,10,11,12,13,14] 1 15 (by kernel_rfl) ?_
   simp[-eC,n7B,n7p,Ne.symm n7B,Ne.symm n7p,bqp,bqB,hin,Oa,v1,r1]
   refine aN t1 ?_
   simp[-eC,n7B,n7p,Ne.symm n7B,Ne.symm n7p,bqp,bqB,hin,Oa,tb0,w2,w3]
   refine bZ (i:=15) (by kernel_rfl) rfl rfl rfl ?_
   simp[-eC,Ne.symm n7B,bqB,hin]
   rw[Wr s rfl]
   refine Dy ?_
   simp
   refine aC ?_
   simp[wk,aB]
   refine⟨k+1,by omega,by omega,rfl,by simp,?_⟩
   intro x y hx
   simp only[aA] at hx ⊢
   split
   ·rename_i e;rw[if_pos e] at hx;exact hx
   ·rename_i e;rw[if_neg e] at hx
    rw[if_neg (fun e7=>by rw[hbq,aG _ _ _ _ n7B,←e7,hx] at hb7;cases hb7),hbq,aG _ _ _ _ e];exact hx
  ·have hke:k=s.ms.length:=by omega
   subst hke
   simp
   refine aC ?_
   simp[wi,aB]
   exact⟨i+1,by omega,by omega,rfl,by simp[Str.c],sub_eq (by rw[Wm])⟩
 ·have hie:i=nR s:=by omega
  subst hie
  rw[Xv]
  have nrp:gr≠gp:=fun e=>by rw[e,fp] at b0r;cases b0r
  have nrB:gr≠gB:=fun e=>by rw[e,fB] at b0r;cases b0r
  have b3r:=s3 _ _ b0r
  have fbl: ∀x,b0 x=none→bl x=none:=fun x hx=>aR s0 hx
  refine aC ?_
  simp[Ne.symm nBp,b3p,nrB,Ne.symm nrB,b3r,hva,hvc]
  obtain⟨B,hB⟩: ∃B,B=upd (upd b3 gB (some ⟨1,iv (lz (nR s) (tB s))⟩)) gr (some ⟨5,[[.int .i64 (nR s),.int .i64 (nC s),va,.lsl gB 1 0 (nR s),vc]]⟩):=⟨_,rfl⟩
  have hBx: ∀x,x≠gB→x≠gr→B x=b3 x:=fun x x1 x2=>by rw[hB,aG _ _ _ _ x2,aG _ _ _ _ x1]
  have kp: ∀ {d:D} {v:V} {gs:List Int},OwnD b3 d v gs→gB∉gs→(∀x,x∈gs→b0 x=none)→OwnD B d v gs:=fun o h1 h2=>o.cZ fun x hx y hy=>by
   rw[hBx x (fun e=>h1 (e▸hx)) (fun e=>by have:=h2 x hx;rw[e,b0r] at this;cases this)];exact hy
  have oa4:=kp oa3 nBa fun x hx=>f0 x (List.mem_append.2 (.inl hx))
  have oc4:=kp oc3 nBc fun x hx=>f0 x (List.mem_append.2 (.inr (List.mem_append.2 (.inr hx))))
  have ob4:OwnD B (fl 1 (iv (lz (nR s) (tB s)))) (.lsl gB 1 0 (nR s)) [gB]:=dP.2 (.inr ⟨gB,by simp,rfl,by rw[hB];simp[Ne.symm nrB],fun h=>by have:=Tv h;rw[eb] at this;have e:=congrArg List.length this;rw[sD] at e;rw[show nR s=0 by simpa using e];rfl⟩)
  refine dI [.agg [.int .i64 (nR s),.int .i64 (nC s),va,.lsl gB 1 0 (nR s),vc]] (ga++([gB]++gc)) (by simp) (tP.2 ⟨va,.lsl gB 1 0 (nR s),vc,ga,[gB],gc,rfl,rfl,fun g hg hh=> ?_,fun g hg hh=> ?_,?_,?_,?_⟩) (fun x hx=> ?_) fun x y hx=> ?_
  ·rcases List.mem_append.1 hh with h | h
   ·rw[List.mem_singleton] at h;exact nBa (h▸hg)
   ·exact d1 g hg (List.mem_append.2 (.inr h))
  ·rw[List.mem_singleton] at hg;exact nBc (hg▸hh)
  ·show OwnD (upd (upd b3 gB _) gr _) _ _ _
   rw[←hB];exact oa4
  ·show OwnD (upd (upd b3 gB _) gr _) _ _ _
   rw[←hB];exact ob4
  ·show OwnD (upd (upd b3 gB _) gr _) _ _ _
   rw[←hB];exact oc4
  ·rcases List.mem_append.1 hx with h | h
   ·exact fbl x (f0 x (List.mem_append.2 (.inl h)))
   ·rcases List.mem_append.1 h with h | h
    ·rw[List.mem_singleton] at h;rw[h];exact fbl gB fB
    ·exact fbl x (f0 x (List.mem_append.2 (.inr (List.mem_append.2 (.inr h)))))
  ·show upd (upd b3 gB _) gr _ x=some y
   rw[aG _ _ _ _ (fun e=>by rw[e,hbr] at hx;cases hx),aG _ _ _ _ (fun e=>by rw[e,fbl gB fB] at hx;cases hx)]
   exact s3 x y (s0 x y hx)
theorem zI (s:Str) (hs:SOk s):RO Tryz.prog 125 [.ptr s.c] (.agg (gZ s).v):=by
 have:=gJ 2 (yY s hs) (Jj _)
 rwa [Sf] at this

theorem Ar {bl:Int→Option Blk} {d e:D} {b:Bool} {v:V} {gs:List Int} (h:OwnD bl (.t [d,e,.c (.bool b)]) v gs): ∃w u g1 g2,v= .tup [w,u,.bool b]∧gs=g1++g2∧OwnD bl d w g1∧OwnD bl e u g2:=by
 rw[OwnD] at h
 obtain⟨vs,rfl,h⟩:=h
 rw[OwnL] at h
 obtain⟨w,vs1,g1,g2,rfl,rfl,_,h1,h2⟩:=h
 rw[OwnL] at h2
 obtain⟨x1,vs2,g3,g4,rfl,rfl,_,h3,h4⟩:=h2
 rw[OwnL] at h4
 obtain⟨y1,vs3,g5,g6,rfl,rfl,_,h5,h6⟩:=h4
 rw[OwnD] at h5
 rw[OwnL] at h6
 obtain⟨rfl,_,rfl⟩:=h5
 obtain⟨rfl,rfl⟩:=h6
 exact⟨w,x1,g1,g3,rfl,by simp,h1,h3⟩
theorem Rh {β:Type} (f:Nat→β) (t:Nat):upd f t (f t)=f:=by
 funext x;simp only[aA];split
 ·rename_i e;rw[e]
 ·rfl
theorem Iz {P:Program} {c:Code} {K:Ex→St→Prop} {σ:St} {v:V} {gs:List Int} {rows:List (List V)} (t sz:Nat) (hc:rows.all (fun r=>r.all V.cl)=true) (hl: ∀r,r∈rows→r.length=sz) (o:OwnD σ.bl (fl sz rows) v gs) (hv:σ.sl t=v)
  (h: ∀(g:Int) (b':Int→Option Blk),b' g=some ⟨sz,rows⟩→(g<0→rows= [])→(g∈gs∨σ.bl g=none)→(∀x,x≠g→b' x=σ.bl x)→AW P c K ⟨σ.n,upd σ.sl t (.lsl g sz 0 rows.length),b'⟩):AW P c K σ:=by
 rcases(oP hc hl).1 o with ⟨h1,h2,h3⟩| ⟨g,h1,h2,h3,h4⟩
 ·subst h1 h2
  refine rJ t sz hv fun g hg=> ?_
  exact h g _ (aV _ _ _) (fun _=>rfl) (.inr hg) fun x hx=>aG _ _ _ _ hx
 ·subst h1 h2
  have e:upd σ.sl t (.lsl g sz 0 rows.length)=σ.sl:=by rw[←hv,Rh]
  have:=h g σ.bl h3 h4 (.inl (by simp)) fun _ _=>rfl
  rw[e] at this
  exact this
theorem Po (k:Int): -1≤tkI k∧tkI k≤1:=by
 unfold tkI
 split
 ·omega
 ·split<;>omega
theorem kT (s:Str) (hs:s.sz):NW Tryz.prog 65 [.agg s.c] (dV (stQ (pI s)) (bJ (pI s))):=by
 obtain⟨hok,hlen⟩:=V5 s
 refine fU Tryz.func65 rfl rfl (by rw[Tryz.ntmps65];simp) fun bl=> ?_
 rw[Tryz.ntmps65,Tryz.results65]
 refine aE ?_
 simp[Str.c]
 intro g hg hbg
 refine cW 1 1 (.ptr s.c) bl (by intro z b hz;simp only[aA] at hz ⊢;grind) (by simp[frz,dropB,hbg,V.cl,Str.c]) ?_
 refine aE ?_
 simp[Str.c]
 refine aD (sL s hs.js hs.ms hs.nm) ?_
 cases h1:sOk s
 ·have hz:pI s= [none]:=by unfold pI;rw[if_neg (by simp[h1])]
  rw[hz]
  simp
  exact dI [.nils,.bool false] [] (by simp) (zX _) (by simp) (Sub.refl _)
 have hS:=pH h1
 have h8:=hS.nm
 have hpg:=D8 hS
 have hT:=zI s hS
 have hB:=Mn s hS.nm (gZ s) (nC s) (nR s) hpg (Nat.le_refl _)
 have hz:pI s=C1 s (Lp.opt (nC s) (nR s) (eQ (gZ s) (nC s) (nR s)) (nC s+nR s) (wO (pC (gZ s)))):=by unfold pI;rw[if_pos h1]
 have pM:=fun x (e:Lp.opt (nC s) (nR s) (eQ (gZ s) (nC s) (nR s)) (nC s+nR s) (wO (pC (gZ s)))=some (some x))=>vK hpg e
 rw[hz] at hok hlen ⊢
 obtain⟨p,hp⟩: ∃p,gZ s=p:=⟨_,rfl⟩
 rw[hp] at hT hB hok hlen pM ⊢
 obtain⟨o,ho⟩: ∃o,Lp.opt (nC s) (nR s) (eQ p (nC s) (nR s)) (nC s+nR s) (wO (pC p))=o:=⟨_,rfl⟩
 rw[ho] at hB hok hlen pM ⊢
 simp
 refine aE ?_
 simp
 refine aD hT ?_
 simp
 refine bU hB fun v gs b' od f fr=> ?_
 have s1:Sub bl b':=fun x y hx=>bI f fr hx
 rcases o with _ | _ | x
 ·obtain⟨w,u,g1,g2,rfl,rfl,o1,o2⟩:=Ar od
  simp[o1.one,o2.one]
  refine aC ?_
  simp
  exact dI [.nils,.bool false] [] (by simp) (zX _) (by simp) s1
 ·obtain⟨w,u,g1,g2,rfl,rfl,o1,o2⟩:=Ar od
  simp[o1.one,o2.one]
  refine aC ?_
  simp
  exact dI [.nils,.bool false] [] (by simp) (zX _) (by simp) s1
 obtain⟨w,rfl,ow⟩:=(O2 (by simp[V.cl]) rfl).1 od
 simp[ow.one]
 refine dJ [(1,.ptr s.c),(4,w),(6,.bool true)] 45 b' ⟨rfl,by simp[Str.c],Sub.refl _⟩ ?_
 obtain⟨R,hR⟩: ∃R,fT s.ms (xl (nC s) x) (nC s)=R:=⟨_,rfl⟩
 have hRl:R.length=s.ms.length:=by rw[←hR];exact dQ _ _ _
 have hRo:okL R:=by rw[←hR];exact sA s.ms (C5 (pM x rfl)) _
 have hpo:C1 s (some (some x))=fC s.ms R s.ms.length:=by rw[←hR];rfl
 rw[hpo] at hok hlen ⊢
 rw[hR] at ow
 refine Iz (gs:=gs) 4 1 (Tn R) (Al R) ow rfl fun g4 b4 b4g Vl or4 b4x=> ?_
 have f4:bl g4=none:=by
  rcases or4 with h | h
  ·exact f g4 h
  ·exact aR s1 h
 have s4:Sub bl b4:=fun y z hy=>by rw[b4x y (fun e=>by rw[e,f4] at hy;cases hy)];exact s1 y z hy
 clear or4 b4x od ow f fr s1
 refine dJ [(1,.ptr s.c),(4,.lsl g4 1 0 R.length),(6,.bool true)] 45 b4 ⟨rfl,by simp[Str.c],Sub.refl _⟩ ?_
 refine aE ?_
 simp
 refine aE ?_
 simp[Str.c]
 refine aC ?_
 simp
 refine aI (fun k:Nat=> [(1,.ptr s.c),(4,.lsl g4 1 0 R.length),(21,.sl (mv s.ms)),(22,.int .i64 s.ms.length),(23,.int .i64 k)]) (fun k=>upd b4 g4 (some ⟨1,fvs (fC s.ms R k)⟩)) (fun k=>k≤s.ms.length) (fun k=>s.ms.length - k) _ 0 (Nat.zero_le _) ⟨rfl,by simp[Str.c],sub_eq (by
  rw[M7]
  funext y;simp only[aA];split
  ·rename_i e;rw[e,b4g]
  ·rfl)⟩ ?_
 intro k hk
 have wk:IntKind.i64.wrap ((k:Int)+1)=(k:Int)+1:=i64_in (by omega) (by omega)
 refine aE ?_
 simp
 refine aE ?_
 simp
 refine⟨fun hkn=> ?_,fun hkn=> ?_⟩
 ·have hkR:k<R.length:=by omega
  have Gx:(k:Int)<R.length:=by omega
  refine aO (aT ?_)
  obtain⟨bq,hbq⟩: ∃bq,bq=upd b4 g4 (some ⟨1,fvs (fC s.ms R k)⟩):=⟨_,rfl⟩
  have bqg:bq g4=some ⟨1,fvs (fC s.ms R k)⟩:=by rw[hbq];simp
  rw[←hbq]
  refine aE ?_
  simp[hkn,Mb.c]
  intro g7 hg7 hb7
  have n74:g7≠g4:=fun e=>by rw[e,bqg] at hb7;cases hb7
  have hl:k<(fC s.ms R k).length:=by simpa using hkR
  have r1:(fvs (fC s.ms R k))[k]? =some [fv R[k]]:=by
   rw[List.getElem?_eq_getElem (by simpa using hl)]
   simp[fvs,zQ s.ms R hkR]
  have ok1:okQ R[k]:=hRo _ (List.getElem_mem hkR)
  have t1:=xX s.ms[k].kind
  have t2:=uN (tkI s.ms[k].kind) (by have:=Po s.ms[k].kind;omega)
  have ok2:okQ (some ((tkI s.ms[k].kind:Int):Rat)):=okS (fits_int (by have:=Po s.ms[k].kind;omega))
  have t3:RO Tryz.prog 82 [fv (fC s.ms R k)[k],fv (some ((tkI s.ms[k].kind:Int):Rat))] (fv (op2 (· + ·) R[k] (some ((tkI s.ms[k].kind:Int):Rat)))):=by
   rw[zQ s.ms R hkR];exact Fw _ _ ok1 ok2
  have st:=Dc s.ms R hkR
  rw[cL _ _ _ hkn] at st
  refine bY aL [0,1,2,3,4,5,6,7,8,9,10,11] 1 12 (by kernel_rfl) ?_
  simp[n74,Ne.symm n74,bqg,hkR,Gx,r1]
  refine aN t1 ?_
  simp
  refine aN t2 ?_
  simp
  refine aN t3 ?_
  simp[n74,Ne.symm n74,bqg,hkR,Gx]
  refine bZ (i:=12) (by kernel_rfl) rfl rfl rfl ?_
  simp[Ne.symm n74,bqg,hkR,hl,uF]
  rw[st]
  refine Dy ?_
  simp
  refine aC ?_
  simp[wk,aB]
  refine⟨k+1,by omega,by omega,rfl,by simp[Str.c],?_⟩
  intro y z hy
  simp only[aA] at hy ⊢
  split
  ·rename_i e;rw[if_pos e] at hy;exact hy
  ·rename_i e;rw[if_neg e] at hy
   rw[if_neg (fun e7=>by rw[hbq,aG _ _ _ _ n74,←e7,hy] at hb7;cases hb7),hbq,aG _ _ _ _ e];exact hy
 ·have hke:k=s.ms.length:=by omega
  subst hke
  obtain⟨B,hB⟩: ∃B,B=upd b4 g4 (some ⟨1,fvs (fC s.ms R s.ms.length)⟩):=⟨_,rfl⟩
  have hBs:Sub bl B:=fun y z hy=>by rw[hB,aG _ _ _ _ (fun e=>by rw[e,f4] at hy;cases hy)];exact s4 y z hy
  have oB:OwnD B (fl 1 (fvs (fC s.ms R s.ms.length))) (.lsl g4 1 0 R.length) [g4]:=S2.2 (.inr ⟨g4,by simp,rfl,by rw[hB,aV],fun h=>by
   have:=Vl h
   have e:R= []:=by simpa [fvs] using this
   rw[e];rfl⟩)
  have eB:frz B 1 (.lsl g4 1 0 R.length)=some (.sl (fvs (fC s.ms R s.ms.length))):=by rw[oB.frz (iZ _ _ _),Jm]
  rw[←hB]
  simp
  refine aC ?_
  simp
  refine H5 1 (ys:= [.sl (fvs (fC s.ms R s.ms.length))]) (by simp[eB]) (Kd (fC s.ms R s.ms.length) hok (by omega)) (aAY _ _) fun v gs b5 o f fr=> ?_
  obtain⟨w,rfl,ow,w1,w2⟩:=Oj o
  simp
  exact dI [w,.bool (bJ (fC s.ms R s.ms.length))] gs (by simp) o (fun x hx=>aR hBs (f x hx)) (fun x y hy=>bI f fr (hBs x y hy))
theorem qZ (s:Str) (hs:s.sz):RO Tryz.prog 65 [.agg s.c] (.tup [.sl (rv (stQ (pI s))),.bool (bJ (pI s))]):=by
 have:=gJ 3 (kT s hs) (aDN _ _ 0)
 rwa [aOQ] at this

structure T4 where
 va:V
 vb:V
 vc:V
 ga:List Int
 gb:List Int
 gc:List Int
 gp:Int
 b:Int→Option Blk
structure Ky (b0 : Int → Option Blk) (s : Str) (a : T4) : Prop where
 oa:OwnD a.b (fl 1 (iv (dA s (dC s)).a)) a.va a.ga
 ob:OwnD a.b (fl 1 (iv (dA s (dC s)).b)) a.vb a.gb
 oc:OwnD a.b (fl 1 (iv (dA s (dC s)).c)) a.vc a.gc
 d1: ∀g,g∈a.ga→g∉a.gb++a.gc
 d2: ∀g,g∈a.gb→g∉a.gc
 f0: ∀x,x∈a.ga++(a.gb++a.gc)→b0 x=none
 fp:b0 a.gp=none
 np:a.gp∉a.ga++(a.gb++a.gc)
 hp:a.b a.gp=some ⟨5,[[.int .i64 (nR s),.int .i64 (nC s),a.va,a.vb,a.vc]]⟩
 sub:Sub b0 a.b
def tcF (s:Str) (i j:Nat):Nat→Int:=fun r=>if r<i then tB s r else if r=i then tcL s i ((aP s.ms).take j) else 0
theorem Oy (s:Str):tcF s 0 0=fun _=>0:=by
 funext r
 unfold tcF
 split
 ·omega
 ·split
  ·rfl
  ·rfl
theorem Vf {s:Str} (hs:SOk s) (i:Nat):tcF s i (nC s)=tcF s (i+1) 0:=by
 have ht:tcL s i ((aP s.ms).take (nC s))=tB s i:=by
  rw[show(aP s.ms).take (nC s)=aU s.ms s.ms.length from List.take_length]
  exact aAE hs i _ (Nat.le_refl _)
 funext r
 unfold tcF
 by_cases h1:r<i
 ·rw[if_pos h1,if_pos (by omega)]
 ·rw[if_neg h1]
  by_cases h2:r=i
  ·subst h2;rw[if_pos rfl,if_pos (by omega)];exact ht
  ·rw[if_neg h2,if_neg (by omega)]
   split
   ·rfl
   ·rfl
theorem Wd (s:Str):lz (nR s) (tcF s (nR s) 0)=lz (nR s) (tB s):=rZ fun c hc=>by unfold tcF;rw[if_pos hc]
theorem D0 (s:Str) (i:Nat) {j:Nat} (h:j<nC s):tcL s i ((aP s.ms).take (j+1))=tcL s i ((aP s.ms).take j) - zF s i (fL s j):=by
 have h':j<(aP s.ms).length:=h
 rw[List.take_succ_eq_append_getElem h',Ag]
 congr 2
 simp[fL,h']
theorem Xq (s:Str) {i j:Nat} {v:Int} (h:tcL s i ((aP s.ms).take (j+1))=v):(iv (lz (nR s) (tcF s i j))).set i [.int .i64 v]=iv (lz (nR s) (tcF s i (j+1))):=by
 rw[N3]
 congr 1
 refine rZ fun c _=> ?_
 unfold tcF
 by_cases e:c=i
 ·subst e;rw[if_pos rfl,if_neg (by omega),if_pos rfl,h]
 ·rw[if_neg e]
  by_cases e2:c<i
  ·rw[if_pos e2,if_pos e2]
  ·rw[if_neg e2,if_neg e2,if_neg e,if_neg e]
theorem Tl (s:Str) {i j:Nat} (h:j<nC s) (hk:zF s i (fL s j)=0):tcF s i j=tcF s i (j+1):=by
 funext c
 unfold tcF
 rw[D0 s i h,hk,Int.sub_zero]
theorem Ut {s:Str} (hs:SOk s) (i:Nat): ∀j:Nat,j≤nC s→ -(100*(j:Int))≤tcL s i ((aP s.ms).take j)∧tcL s i ((aP s.ms).take j)≤100*(j:Int)
 | 0, _ => by simp [tcL]
 | j + 1, h => by
   obtain⟨h1,h2⟩:=Ut hs i j (by omega)
   obtain⟨_,k2⟩:=rL s j (by omega)
   obtain⟨h3,h4⟩:=We hs i k2
   rw[D0 s i (by omega)]
   omega
theorem Oe {s:Str} (i j:Nat) (hk: ¬ (s.ms.getD (fL s j).1.toNat default).kind=3):ent s i j=zF s i (fL s j):=by
 unfold zF ent rAt
 rw[if_neg hk]
theorem Ky.of {b0 b1 B:Int→Option Blk} {s:Str} {va vb vc:V} {ga gb gc:List Int} {gp:Int} (oa:OwnD b1 (fl 1 (iv (dA s (dC s)).a)) va ga) (ob:OwnD b1 (fl 1 (iv (dA s (dC s)).b)) vb gb) (oc:OwnD b1 (fl 1 (iv (dA s (dC s)).c)) vc gc)
  (d1: ∀g,g∈ga→g∉gb++gc) (d2: ∀g,g∈gb→g∉gc) (f0: ∀x,x∈ga++(gb++gc)→b0 x=none) (fp:b0 gp=none) (np:gp∉ga++(gb++gc)) (s1:Sub b0 b1) (hp:B gp=some ⟨5,[[.int .i64 (nR s),.int .i64 (nC s),va,vb,vc]]⟩) (hx: ∀x,x≠gp→B x=b1 x):Ky b0 s ⟨va,vb,vc,ga,gb,gc,gp,B⟩:=by
 have np2:=np
 simp only[List.mem_append,not_or] at np2
 obtain⟨n1,n2,n3⟩:=np2
 exact⟨oa.cZ fun x hm y hy=>(hx x (fun e=>n1 (e▸hm))).trans hy,ob.cZ fun x hm y hy=>(hx x (fun e=>n2 (e▸hm))).trans hy,oc.cZ fun x hm y hy=>(hx x (fun e=>n3 (e▸hm))).trans hy,d1,d2,f0,fp,np,hp,fun x y h=>(hx x (fun e=>by rw[e,fp] at h;cases h)).trans (s1 x y h)⟩
theorem K5 (s:Str) (hs:SOk s):NW Tryz.prog 124 [.agg s.c] (dPg (gZ s)):=by
 have h6:=hs.nj
 have h8:=hs.nm
 have hnR:=Uk hs
 have hnC:=Bx hs
 have ew:(who s).length=nC s:=by simp[who,nC]
 obtain⟨N2,hN2⟩: ∃x,2*s.js.length=x:=⟨_,rfl⟩
 have w0:IntKind.i64.wrap (2*(s.js.length:Int))=(N2:Int):=by rw[i64_in (by omega) (by omega)];omega
 have hz0:dC s=List.replicate N2 0:=by unfold dC;rw[hN2]
 have hF:=K0 s (dC s) (D3 hs)
 have lK:(dA s (dC s)).rows=nR s:=rfl
 have Ai:(dA s (dC s)).aP=nC s:=rfl
 have e1:(List.replicate N2 [V.int .i64 0]:List (List V))=iv (dC s):=by rw[hz0];simp[iv]
 have hfr: ∀(B bz:Int→Option Blk) (gz:Int),0≤gz→bz gz=none→B gz=some ⟨1,List.replicate N2 [.int .i64 0]⟩→frzL (dropB B bz) 1 [.agg s.c,.lsl gz 1 0 N2]=some [.agg s.c,.sl (iv (dC s))]:=fun B bz gz h1 h2 h3=>by
  have e2:=dH (bl:=B) (bl0:=bz) (sz:=1) (n:=N2) h1 h2 h3 (by simp) (by simp[V.cl])
  rw[e1] at e2
  simp[e2]
  simp[frz,Str.c,V.cl]
 refine fU Tryz.func124 rfl rfl (by rw[Tryz.ntmps124];simp) fun bl=> ?_
 rw[Tryz.ntmps124,Tryz.results124]
 refine aE ?_
 simp[Str.c]
 intro g1 hg1 hb1 gr hgr hr1 hbr
 obtain⟨b0,hb0⟩: ∃b0,b0=upd bl gr (some ⟨5,[[.int .i64 0,.int .i64 0,.nils,.nils,.nils]]⟩):=⟨_,rfl⟩
 refine cW 1 1 (.ptr s.c) b0 (by rw[hb0];intro z b hz;simp only[aA] at hz ⊢;grind) (by simp[frz,dropB,hb0,hb1,hr1,Ne.symm hr1,V.cl,Str.c]) ?_
 refine dJ [(1,.ptr s.c),(2,.loc gr 5 0 0)] 64 b0 ⟨rfl,by simp[Str.c],Sub.refl _⟩ ?_
 have b0r:b0 gr=some ⟨5,[[.int .i64 0,.int .i64 0,.nils,.nils,.nils]]⟩:=by rw[hb0];simp
 have s0:Sub bl b0:=fun x y hx=>by rw[hb0,aG _ _ _ _ (fun e=>by rw[e,hbr] at hx;cases hx)];exact hx
 clear hb0 hb1 hg1 hr1
 refine gV (fun a:T4=> [(1,.ptr s.c),(2,.loc gr 5 0 0),(3,.loc a.gp 5 0 0)]) (fun a=>a.b) (Ky b0 s) 64 ?_ ?_
 ·refine dK aL b0 (Sub.refl _) [0,1,2,3,4] 4 8 (by kernel_rfl) ?_
  simp[Str.c,w0]
  refine Dw 5 7 false false ?_ ?_
  ·simp
   refine⟨by omega,by unfold maxLen;omega,fun gz hgz hbz=>⟨by simp[hbz],?_⟩⟩
   refine Dw 6 7 false false ?_ ?_
   ·simp
    refine mO 1 (bl2:=b0) (ys:= [.agg s.c,.sl (iv (dC s))]) (by simp[hbz]) (hfr _ _ gz hgz hbz (by simp)) (bU hF fun v gs b1 o1 f fr=> ?_)
    obtain⟨va,vb,vc,ga,gb,gc,rfl,rfl,d1,d2,oa,ob,oc⟩:=tP.1 o1
    have hva:=eR oa
    have hvb:=eR ob
    have hvc:=eR oc
    have s1:Sub b0 b1:=fun x y hx=>bI f fr hx
    simp
    refine⟨s1,Dq 7 false ?_⟩
    simp
    intro gp hgp hbp
    have hnp:gp∉ga++(gb++gc):=fun h=>by obtain⟨y,hy⟩:=o1.has gp h;rw[hbp] at hy;cases hy
    have fp:=aR s1 hbp
    refine⟨fun x y hx=>by rw[aG _ _ _ _ (fun e=>by rw[e,fp] at hx;cases hx)];exact s1 x y hx,Dq 8 true ?_⟩
    simp[hva,hvb,hvc]
    refine Dd ?_
    rw[aH]
    exact⟨⟨va,vb,vc,ga,gb,gc,gp,upd b1 gp (some ⟨5,[[.int .i64 (nR s),.int .i64 (nC s),va,vb,vc]]⟩)⟩,Ky.of oa ob oc d1 d2 f fp hnp s1 (aV _ _ _) (fun x hx=>aG _ _ _ _ hx),rfl,by simp[Str.c],sub_eq (by simp[lK,Ai])⟩
   ·simp
    intro gp hgp hpz hbp
    refine⟨by simp[hbz,hbp,hpz],Dq 6 false ?_⟩
    simp
    have hz1:upd b0 gp (some ⟨5,[[.int .i64 0,.int .i64 0,.nils,.nils,.nils]]⟩) gz=none:=by simp[Ne.symm hpz,hbz]
    refine mO 1 (bl2:=upd b0 gp (some ⟨5,[[.int .i64 0,.int .i64 0,.nils,.nils,.nils]]⟩)) (ys:= [.agg s.c,.sl (iv (dC s))]) (by intro x y hx;simp only[aA] at hx ⊢;grind) (hfr _ _ gz hgz hz1 (by simp[Ne.symm hpz])) (bU hF fun v gs b1 o1 f fr=> ?_)
    obtain⟨va,vb,vc,ga,gb,gc,rfl,rfl,d1,d2,oa,ob,oc⟩:=tP.1 o1
    have hva:=eR oa
    have hvb:=eR ob
    have hvc:=eR oc
    have s1:Sub b0 b1:=fun x y hx=>bI f fr (by rw[aG _ _ _ _ (fun e=>by rw[e,hbp] at hx;cases hx)];exact hx)
    have hnp:gp∉ga++(gb++gc):=fun h=>by have:=f gp h;rw[aV] at this;cases this
    have b1p:b1 gp=some ⟨5,[[.int .i64 0,.int .i64 0,.nils,.nils,.nils]]⟩:=by rw[fr gp hnp,aV]
    have f1: ∀x,x∈ga++(gb++gc)→b0 x=none:=fun x hx=>by have:=f x hx;rw[aG _ _ _ _ (show x≠gp from fun e=>hnp (e▸hx))] at this;exact this
    simp
    refine⟨s1,Dq 8 true ?_⟩
    simp[hva,hvb,hvc,b1p]
    refine Dd ?_
    rw[aH]
    exact⟨⟨va,vb,vc,ga,gb,gc,gp,upd b1 gp (some ⟨5,[[.int .i64 (nR s),.int .i64 (nC s),va,vb,vc]]⟩)⟩,Ky.of oa ob oc d1 d2 f1 hbp hnp s1 (aV _ _ _) (fun x hx=>aG _ _ _ _ hx),rfl,by simp[Str.c],sub_eq (by simp[lK,Ai])⟩
  ·simp
   intro gp hgp hbp
   refine⟨by simp[hbp],Dq 5 false ?_⟩
   simp
   refine⟨by omega,by unfold maxLen;omega,fun gz hgz hzp hbz=>⟨by simp[hbz,hzp,hbp],?_⟩⟩
   refine Dq 6 false ?_
   simp
   have hz1:upd b0 gp (some ⟨5,[[.int .i64 0,.int .i64 0,.nils,.nils,.nils]]⟩) gz=none:=by simp[hzp,hbz]
   refine mO 1 (bl2:=upd b0 gp (some ⟨5,[[.int .i64 0,.int .i64 0,.nils,.nils,.nils]]⟩)) (ys:= [.agg s.c,.sl (iv (dC s))]) (by intro x y hx;simp only[aA] at hx ⊢;grind) (hfr _ _ gz hgz hz1 (by simp)) (bU hF fun v gs b1 o1 f fr=> ?_)
   obtain⟨va,vb,vc,ga,gb,gc,rfl,rfl,d1,d2,oa,ob,oc⟩:=tP.1 o1
   have hva:=eR oa
   have hvb:=eR ob
   have hvc:=eR oc
   have s1:Sub b0 b1:=fun x y hx=>bI f fr (by rw[aG _ _ _ _ (fun e=>by rw[e,hbp] at hx;cases hx)];exact hx)
   have hnp:gp∉ga++(gb++gc):=fun h=>by have:=f gp h;rw[aV] at this;cases this
   have b1p:b1 gp=some ⟨5,[[.int .i64 0,.int .i64 0,.nils,.nils,.nils]]⟩:=by rw[fr gp hnp,aV]
   have f1: ∀x,x∈ga++(gb++gc)→b0 x=none:=fun x hx=>by have:=f x hx;rw[aG _ _ _ _ (show x≠gp from fun e=>hnp (e▸hx))] at this;exact this
   simp
   refine⟨s1,Dq 8 true ?_⟩
   simp[hva,hvb,hvc,b1p]
   refine Dd ?_
   rw[aH]
   exact⟨⟨va,vb,vc,ga,gb,gc,gp,upd b1 gp (some ⟨5,[[.int .i64 (nR s),.int .i64 (nC s),va,vb,vc]]⟩)⟩,Ky.of oa ob oc d1 d2 f1 hbp hnp s1 (aV _ _ _) (fun x hx=>aG _ _ _ _ hx),rfl,by simp[Str.c],sub_eq (by simp[lK,Ai])⟩
 rintro⟨va,vb,vc,ga,gb,gc,gp,b2⟩ ⟨oa,ob,oc,d1,d2,f0,fp,np,b2p,s2⟩
 simp only at oa ob oc d1 d2 f0 fp np b2p s2
 have np2:=np
 simp only[List.mem_append,not_or] at np2
 obtain⟨npa,npb,npc⟩:=np2
 refine A5 (g:=gp) (s:=5) (els:= [[.int .i64 (nR s),.int .i64 (nC s),va,vb,vc]]) 0 2 b2p rfl rfl oa npa fun gA b3 b3p b3A nAp aVY Aor b3x=> ?_
 have nAb:gA∉gb:=fun h=>by
  rcases Aor with g | g
  ·exact d1 gA g (List.mem_append.2 (.inl h))
  ·have g:b2 gA=none:=g
   obtain⟨y,hy⟩:=ob.has gA h;rw[g] at hy;cases hy
 have nAc:gA∉gc:=fun h=>by
  rcases Aor with g | g
  ·exact d1 gA g (List.mem_append.2 (.inr h))
  ·have g:b2 gA=none:=g
   obtain⟨y,hy⟩:=oc.has gA h;rw[g] at hy;cases hy
 have fA:b0 gA=none:=by
  rcases Aor with g | g
  ·exact f0 gA (by simp[g])
  ·exact aR s2 g
 have ob3:=ob.cZ (bl':=b3) fun x hx y hy=>by rw[b3x x (fun e=>npb (e▸hx)) (fun e=>nAb (e▸hx))];exact hy
 have oc3:=oc.cZ (bl':=b3) fun x hx y hy=>by rw[b3x x (fun e=>npc (e▸hx)) (fun e=>nAc (e▸hx))];exact hy
 have s3:Sub b0 b3:=fun x y hx=>by
  rw[b3x x (fun e=>by rw[e,fp] at hx;cases hx) (fun e=>by rw[e,fA] at hx;cases hx)];exact s2 x y hx
 simp only[List.set] at b3p
 clear Aor b3x b2p oa ob oc s2
 refine A5 (g:=gp) (s:=5) (els:= [[.int .i64 (nR s),.int .i64 (nC s),.lsl gA 1 0 (dA s (dC s)).a.length,vb,vc]]) 0 3 b3p rfl rfl ob3 npb fun gB b4 b4p b4B nBp Tv Bor b4x=> ?_
 have nBA:gB≠gA:=fun e=>by
  rcases Bor with g | g
  ·exact nAb (e▸g)
  ·have g:b3 gB=none:=g
   rw[e,b3A] at g;cases g
 have nBc:gB∉gc:=fun h=>by
  rcases Bor with g | g
  ·exact d2 gB g h
  ·have g:b3 gB=none:=g
   obtain⟨y,hy⟩:=oc3.has gB h;rw[g] at hy;cases hy
 have fB:b0 gB=none:=by
  rcases Bor with g | g
  ·exact f0 gB (by simp[g])
  ·exact aR s3 g
 have oc4:=oc3.cZ (bl':=b4) fun x hx y hy=>by rw[b4x x (fun e=>npc (e▸hx)) (fun e=>nBc (e▸hx))];exact hy
 have b4A:=(b4x gA nAp (Ne.symm nBA)).trans b3A
 have s4:Sub b0 b4:=fun x y hx=>by
  rw[b4x x (fun e=>by rw[e,fp] at hx;cases hx) (fun e=>by rw[e,fB] at hx;cases hx)];exact s3 x y hx
 have eb:(dA s (dC s)).b=lz (nR s) (tcF s 0 0):=by rw[Oy];exact A6 s
 have hvc:=eR oc3
 rw[eb] at b4B b4p
 rw[sD] at b4p
 simp only[List.set] at b4p
 obtain⟨nA,hnA⟩: ∃n,nR s*nC s=n:=⟨_,rfl⟩
 have ea:(dA s (dC s)).a=aTo s nA:=by rw[←hnA];rfl
 have el:(dA s (dC s)).a.length=nA:=by rw[ea];simp[aTo]
 rw[el] at b4p
 rw[ea] at b4A
 clear Bor b4x b3p ob3 oc3 s3 d1 d2
 refine dJ [(1,.ptr s.c),(2,.loc gr 5 0 0),(3,.loc gp 5 0 0)] 64 b4 ⟨rfl,by simp[Str.c],Sub.refl _⟩ ?_
 refine aE ?_
 simp[Str.c]
 refine aD (kQ s (by omega)) ?_
 simp
 refine aO ?_
 refine aE ?_
 simp[b4p]
 refine aT ?_
 refine aI (fun i:Nat=> [(1,.ptr s.c),(2,.loc gr 5 0 0),(3,.loc gp 5 0 0),(4,.sl (iv (who s))),(23,.int .i64 (nR s)),(24,.int .i64 i)]) (fun i=>upd b4 gB (some ⟨1,iv (lz (nR s) (tcF s i 0))⟩)) (fun i=>i≤nR s) (fun i=>nR s - i) _ 0 (Nat.zero_le _) ⟨rfl,by simp[Str.c],sub_eq (by
  funext x;simp only[aA];split
  ·rename_i e;rw[e,b4B]
  ·rfl)⟩ ?_
 intro i hi
 have wi:IntKind.i64.wrap ((i:Int)+1)=(i:Int)+1:=i64_in (by omega) (by omega)
 refine aE ?_
 simp
 refine aE ?_
 simp
 refine⟨fun hin=> ?_,fun hin=> ?_⟩
 ·have Oa:(i:Int)<nR s:=by omega
  refine aO (aT ?_)
  refine aE ?_
  simp
  refine aE ?_
  simp[ew]
  refine aT ?_
  refine aI (fun j:Nat=> [(1,.ptr s.c),(2,.loc gr 5 0 0),(3,.loc gp 5 0 0),(4,.sl (iv (who s))),(23,.int .i64 (nR s)),(24,.int .i64 i),(6,.int .i64 i),(27,.sl (iv (who s))),(28,.int .i64 (nC s)),(29,.int .i64 j)]) (fun j=>upd b4 gB (some ⟨1,iv (lz (nR s) (tcF s i j))⟩)) (fun j=>j≤nC s) (fun j=>nC s - j) _ 0 (Nat.zero_le _) ⟨rfl,by simp[ew,Str.c],Sub.refl _⟩ ?_
  intro j hj
  have wj:IntKind.i64.wrap ((j:Int)+1)=(j:Int)+1:=i64_in (by omega) (by omega)
  refine aE ?_
  simp
  refine aE ?_
  simp
  refine⟨fun hjn=> ?_,fun hjn=> ?_⟩
  ·have G5:(j:Int)<nC s:=by omega
   refine aO (aT ?_)
   obtain⟨⟨k0,k1⟩,k2⟩:=rL s j hjn
   have qw:=Qj s j hjn
   obtain⟨kk,hkk⟩: ∃kk:Nat,(fL s j).1=kk:=⟨(fL s j).1.toNat,by omega⟩
   have hkm:kk<s.ms.length:=by omega
   rw[hkk] at qw
   obtain⟨bq,hbq⟩: ∃bq,bq=upd b4 gB (some ⟨1,iv (lz (nR s) (tcF s i j))⟩):=⟨_,rfl⟩
   have bqB:bq gB=some ⟨1,iv (lz (nR s) (tcF s i j))⟩:=by rw[hbq];simp
   have bqp:=(show bq gp=b4 gp by rw[hbq,aG _ _ _ _ (Ne.symm nBp)]).trans b4p
   have bqA:=(show bq gA=b4 gA by rw[hbq,aG _ _ _ _ (Ne.symm nBA)]).trans b4A
   rw[←hbq]
   refine aE ?_
   simp[-eC,qw]
   refine aE ?_
   simp[Str.c,hkm,Mb.c]
   refine aC ?_
   simp
   have hgm:s.ms.getD (fL s j).1.toNat default=s.ms[kk]:=by rw[hkk,Int.toNat_natCast];exact cL _ _ _ hkm
   refine⟨fun h3=> ?_,fun h3=> ?_⟩
   ·obtain⟨u,hu⟩: ∃u,i*nC s=u:=⟨_,rfl⟩
    obtain⟨t,ht⟩: ∃t,u+j=t:=⟨_,rfl⟩
    have hu2:u≤12*16:=by rw[←hu];exact Nat.mul_le_mul (by omega) hnC
    have htA:t<nA:=by
     have:(i+1)*nC s≤nR s*nC s:=Nat.mul_le_mul_right _ (by omega)
     rw[Nat.add_mul,Nat.one_mul,hu,hnA] at this
     omega
    have aWO:(t:Int)<nA:=by omega
    have w1:IntKind.i64.wrap ((i:Int)*(nC s:Int))=(u:Int):=by
     have:(i:Int)*(nC s:Int)=(u:Int):=by rw[←hu];simp
     rw[this];exact i64_in (by omega) (by omega)
    have w2:IntKind.i64.wrap ((u:Int)+(j:Int))=(t:Int):=by rw[i64_in (by omega) (by omega)];omega
    have aWB:0<nC s:=by omega
    have vA:(aTo s nA)[t]'(by simpa [aTo] using htA)=ent s i j:=by
     have d1:t / nC s=i:=by rw[←ht,←hu,Nat.mul_comm,Nat.mul_add_div aWB,Nat.div_eq_of_lt hjn,Nat.add_zero]
     have d2:t % nC s=j:=by rw[←ht,←hu,Nat.mul_comm,Nat.mul_add_mod,Nat.mod_eq_of_lt hjn]
     simp[aTo,d1,d2]
    have lA:t<(aTo s nA).length:=by simpa [aTo] using htA
    have tc0:tcF s i j i=tcL s i ((aP s.ms).take j):=by simp[tcF]
    have es:tcL s i ((aP s.ms).take (j+1))=tcL s i ((aP s.ms).take j) - ent s i j:=by
     rw[D0 s i hjn,Oe i j (by rw[hgm];exact h3)]
    have w3:IntKind.i64.wrap (tcL s i ((aP s.ms).take j) - ent s i j)=tcL s i ((aP s.ms).take (j+1)):=by
     have:=Ut hs i (j+1) (by omega)
     rw[←es];exact i64_in (by omega) (by omega)
    refine bY aL [0,1,2,3,4,5,6,7,8,9,10,11,12,13,14,15,16,17,18,19] 1 20 (by kernel_rfl) ?_
    simp[bqp,bqB,bqA,hin,Oa,w1,w2,htA,aWO,lA,vA,tc0,w3]
    refine bZ (i:=20) (by kernel_rfl) rfl rfl rfl ?_
    simp[-eC,bqB,hin,tc0,w3]
    rw[Xq s rfl]
    refine Dy ?_
    simp
    refine aC ?_
    simp[wj,aB]
    refine⟨j+1,by omega,by omega,rfl,by simp[Str.c],?_⟩
    intro x y hx
    simp only[aA] at hx ⊢
    split
    ·rename_i e;rw[if_pos e] at hx;exact hx
    ·rename_i e;rw[if_neg e] at hx
     rw[hbq,aG _ _ _ _ e];exact hx
   ·have hk3:s.ms[kk].kind=3:=by omega
    refine aC ?_
    simp[wj,aB]
    refine⟨j+1,by omega,by omega,rfl,by simp[Str.c],sub_eq ?_⟩
    rw[hbq,Tl s hjn (by unfold zF;rw[hgm,if_pos hk3])]
  ·have hje:j=nC s:=by omega
   subst hje
   simp
   refine aC ?_
   simp[wi,aB]
   exact⟨i+1,by omega,by omega,rfl,by simp[Str.c],sub_eq (by rw[Vf hs])⟩
 ·have hie:i=nR s:=by omega
  subst hie
  rw[Wd]
  have nrp:gr≠gp:=fun e=>by rw[e,fp] at b0r;cases b0r
  have nrA:gr≠gA:=fun e=>by rw[e,fA] at b0r;cases b0r
  have nrB:gr≠gB:=fun e=>by rw[e,fB] at b0r;cases b0r
  have b4r:=s4 _ _ b0r
  have fbl: ∀x,b0 x=none→bl x=none:=fun x hx=>aR s0 hx
  refine aC ?_
  simp[Ne.symm nBp,b4p,nrB,Ne.symm nrB,b4r,hvc]
  obtain⟨B,hB⟩: ∃B,B=upd (upd b4 gB (some ⟨1,iv (lz (nR s) (tB s))⟩)) gr (some ⟨5,[[.int .i64 (nR s),.int .i64 (nC s),.lsl gA 1 0 nA,.lsl gB 1 0 (nR s),vc]]⟩):=⟨_,rfl⟩
  have hBx: ∀x,x≠gB→x≠gr→B x=b4 x:=fun x x1 x2=>by rw[hB,aG _ _ _ _ x2,aG _ _ _ _ x1]
  have oc5:OwnD B (fl 1 (iv (dA s (dC s)).c)) vc gc:=oc4.cZ fun x hx y hy=>by
   rw[hBx x (fun e=>nBc (e▸hx)) (fun e=>by have:=f0 x (List.mem_append.2 (.inr (List.mem_append.2 (.inr hx))));rw[e,b0r] at this;cases this)];exact hy
  have oa5:OwnD B (fl 1 (iv (aTo s nA))) (.lsl gA 1 0 nA) [gA]:=dP.2 (.inr ⟨gA,by simp[aTo],rfl,by rw[hBx gA (Ne.symm nBA) (Ne.symm nrA)];exact b4A,fun h=>by have:=aVY h;rw[ea] at this;exact this⟩)
  have ob5:OwnD B (fl 1 (iv (lz (nR s) (tB s)))) (.lsl gB 1 0 (nR s)) [gB]:=dP.2 (.inr ⟨gB,by simp,rfl,by rw[hB];simp[Ne.symm nrB],fun h=>by have:=Tv h;rw[eb] at this;have e:=congrArg List.length this;rw[sD] at e;rw[show nR s=0 by simpa using e];rfl⟩)
  rw[←ea] at oa5
  refine dI [.agg [.int .i64 (nR s),.int .i64 (nC s),.lsl gA 1 0 nA,.lsl gB 1 0 (nR s),vc]] ([gA]++([gB]++gc)) (by simp) (tP.2 ⟨.lsl gA 1 0 nA,.lsl gB 1 0 (nR s),vc,[gA],[gB],gc,rfl,rfl,fun g hg hh=> ?_,fun g hg hh=> ?_,?_,?_,?_⟩) (fun x hx=> ?_) fun x y hx=> ?_
  ·rw[List.mem_singleton] at hg
   rcases List.mem_append.1 hh with h | h
   ·rw[List.mem_singleton] at h;exact nBA (h.symm.trans hg)
   ·exact nAc (hg▸h)
  ·rw[List.mem_singleton] at hg;exact nBc (hg▸hh)
  ·show OwnD (upd (upd b4 gB _) gr _) _ _ _
   rw[←hB];exact oa5
  ·show OwnD (upd (upd b4 gB _) gr _) _ _ _
   rw[←hB];exact ob5
  ·show OwnD (upd (upd b4 gB _) gr _) _ _ _
   rw[←hB];exact oc5
  ·rcases List.mem_append.1 hx with h | h
   ·rw[List.mem_singleton] at h;rw[h];exact fbl gA fA
   ·rcases List.mem_append.1 h with h | h
    ·rw[List.mem_singleton] at h;rw[h];exact fbl gB fB
    ·exact fbl x (f0 x (List.mem_append.2 (.inr (List.mem_append.2 (.inr h)))))
  ·show upd (upd b4 gB _) gr _ x=some y
   rw[aG _ _ _ _ (fun e=>by rw[e,hbr] at hx;cases hx),aG _ _ _ _ (fun e=>by rw[e,fbl gB fB] at hx;cases hx)]
   exact s4 x y (s0 x y hx)
theorem J7 (s:Str) (hs:SOk s):RO Tryz.prog 124 [.agg s.c] (.agg (gZ s).v):=by
 have:=gJ 2 (K5 s hs) (Jj _)
 rwa [Sf] at this

theorem Wj (x:Option Rat):op2 (· + ·) x (some ((tkI 1:Int):Rat))=op2 (· + ·) x (some ((1:Int):Rat)):=rfl
theorem Xk (x:Option Rat):op2 (· + ·) x (some ((tkI 2:Int):Rat))=op2 (· - ·) x (some ((1:Int):Rat)):=by
 cases x with
 | none => rfl
 | some q =>
   show fit (q+((-1:Int):Rat))=fit (q - ((1:Int):Rat))
   congr 1
   rw[Rat.sub_eq_add_neg];rfl
theorem Xy {x:Option Rat} (hx:okQ x):op2 (· + ·) x (some ((tkI 3:Int):Rat))=x:=by
 cases x with
 | none => rfl
 | some q =>
   show fit (q+((0:Int):Rat))=some q
   rw[show q+((0:Int):Rat)=q from Rat.add_zero q]
   unfold fit
   rw[if_pos (hx q rfl)]
theorem rM (s:Str) (hs:s.sz):RO Tryz.prog 64 [.agg s.c] (.tup [.sl (rv (stQ (pI s))),.bool (bJ (pI s))]):=by
 refine aJ Tryz.func64 rfl rfl (by rw[Tryz.ntmps64];simp) fun bl=> ?_
 rw[Tryz.ntmps64,Tryz.results64]
 refine aE ?_
 simp[Str.c]
 intro g hg hbg
 refine cW 1 1 (.ptr s.c) bl (by intro z b hz;simp only[aA] at hz ⊢;grind) (by simp[frz,dropB,hbg,V.cl,Str.c]) ?_
 refine aE ?_
 simp[Str.c]
 refine aD (iV s hs.js hs.ms hs.nm) ?_
 cases h1:sOk s
 ·have hz:pI s= [none]:=by unfold pI;rw[if_neg (by simp[h1])]
  rw[hz]
  simp
  exact aK [.nils,.bool false] 1 (by simp) (by simp[frz,V.cl,stQ,bJ,rv,bA]) (Sub.refl _)
 have hS:=pH h1
 have h8:=hS.nm
 have hpg:=D8 hS
 have hT:=J7 s hS
 have hB:=Ak (gZ s) (nC s) (nR s) hpg
 have hz:pI s=C1 s (Lp.opt (nC s) (nR s) (eQ (gZ s) (nC s) (nR s)) (nC s+nR s) (wO (pC (gZ s)))):=by unfold pI;rw[if_pos h1]
 have pM:=fun x (e:Lp.opt (nC s) (nR s) (eQ (gZ s) (nC s) (nR s)) (nC s+nR s) (wO (pC (gZ s)))=some (some x))=>vK hpg e
 have hpl:=fun x (e:Lp.opt (nC s) (nR s) (eQ (gZ s) (nC s) (nR s)) (nC s+nR s) (wO (pC (gZ s)))=some (some x))=>fun(y:Rat) (i:Int) (hy:some y∈fT s.ms (xl (nC s) x) (nC s)) (hi:i.natAbs≤1)=>Tz hpg (Bx hS) e s.ms hy hi
 rw[hz]
 obtain⟨p,hp⟩: ∃p,gZ s=p:=⟨_,rfl⟩
 rw[hp] at hT hB pM hpl ⊢
 obtain⟨o,ho⟩: ∃o,Lp.opt (nC s) (nR s) (eQ p (nC s) (nR s)) (nC s+nR s) (wO (pC p))=o:=⟨_,rfl⟩
 rw[ho] at hB pM hpl ⊢
 simp
 refine aE ?_
 simp[Str.c]
 refine aD hT ?_
 simp
 refine aD hB ?_
 rcases o with _ | _ | x
 ·simp[Ev]
  intro g6 hg6 hb6
  refine aC ?_
  simp
  exact aK [.nils,.bool false] 1 (by simp) (by simp[frz,V.cl,C1,stQ,bJ,rv,bA]) (by simp[hb6])
 ·simp[Ev]
  intro g6 hg6 hb6
  refine aC ?_
  simp
  exact aK [.nils,.bool false] 1 (by simp) (by simp[frz,V.cl,C1,stQ,bJ,rv,bA]) (by simp[hb6])
 have hD:=X0 s hs h1 (pM x rfl)
 simp[Ev,RT.c]
 intro g6 hg6 hb6
 refine aE ?_
 simp
 refine aE ?_
 simp
 obtain⟨R,hR⟩: ∃R,fT s.ms (xl (nC s) x) (nC s)=R:=⟨_,rfl⟩
 have hRl:R.length=s.ms.length:=by rw[←hR];exact dQ _ _ _
 have hRo:okL R:=by rw[←hR];exact sA s.ms (C5 (pM x rfl)) _
 have hpo:C1 s (some (some x))=fC s.ms R s.ms.length:=by rw[←hR];rfl
 have hdo:Ma s (some (some x))=R:=hR
 have bH:bJ (fC s.ms R s.ms.length)=bJ R:=Sz s.ms (fun y e h1 h2=>hpl x rfl y e (by rw[hR];exact h1) h2) (by omega)
 rw[hdo] at hD
 rw[hpo,bH]
 refine bU hD fun v gs b' od f fr=> ?_
 have s1:Sub bl b':=fun y z hy=>bI f fr (by rw[aG _ _ _ _ (fun e=>by rw[e,hb6] at hy;cases hy)];exact hy)
 have f1: ∀y,y∈gs→bl y=none:=fun y hy=>by
  have:=f y hy
  simp only[aA] at this
  split at this
  ·cases this
  ·exact this
 obtain⟨w,rfl,ow⟩:=oY.1 od
 simp[ow.one]
 refine dJ [(1,.ptr s.c),(5,w),(6,.bool (bJ R))] 60 b' ⟨rfl,by simp[Str.c],Sub.refl _⟩ ?_
 refine Iz (gs:=gs) 5 3 (Ig _) (Il _) ow rfl fun g4 b4 b4g Vl or4 b4x=> ?_
 have f4:bl g4=none:=by
  rcases or4 with h | h
  ·exact f1 g4 h
  ·exact aR s1 h
 have s4:Sub bl b4:=fun y z hy=>by rw[b4x y (fun e=>by rw[e,f4] at hy;cases hy)];exact s1 y z hy
 rw[N9]
 clear or4 b4x od ow f fr s1 f1
 cases ha:bJ R
 ·have hst:stQ R= []:=by unfold stQ;rw[ha];rfl
  have aD3:stQ (fC s.ms R s.ms.length)= []:=by unfold stQ;rw[bH,ha];rfl
  rw[hst] at b4g ⊢
  rw[aD3]
  refine dJ [(1,.ptr s.c),(5,.lsl g4 3 0 0),(6,.bool false)] 60 b4 ⟨rfl,by simp[Str.c],Sub.refl _⟩ ?_
  refine aE ?_
  simp
  refine aI (fun k:Nat=> [(5,.lsl g4 3 0 0),(6,.bool false),(25,.int .i64 0),(26,.int .i64 0)]) (fun _=>b4) (fun _=>True) (fun k=>k) _ 0 trivial ⟨rfl,by simp,Sub.refl _⟩ ?_
  intro k _
  refine aC ?_
  simp
  refine aC ?_
  simp
  have oB:OwnD (dropB b4 bl) (fl 3 (rv [])) (.lsl g4 3 0 0) [g4]:=oO.2 (.inr ⟨g4,rfl,rfl,by unfold dropB;rw[f4];exact b4g,fun _=>rfl⟩)
  exact aK [.lsl g4 3 0 0,.bool false] 2 (by simp) (F9 (by rw[oB.frz (iZ _ _ _),Jm])) s4
 have hst:stQ R=bA R:=by unfold stQ;rw[ha];rfl
 have aD3:stQ (fC s.ms R s.ms.length)=bA (fC s.ms R s.ms.length):=by unfold stQ;rw[bH,ha];rfl
 rw[hst] at b4g Vl ⊢
 rw[aD3,W0]
 refine dJ [(1,.ptr s.c),(5,.lsl g4 3 0 R.length),(6,.bool true)] 60 b4 ⟨rfl,by simp[Str.c],Sub.refl _⟩ ?_
 refine aE ?_
 simp
 refine aI (fun k:Nat=> [(1,.ptr s.c),(5,.lsl g4 3 0 R.length),(6,.bool true),(25,.int .i64 R.length),(26,.int .i64 k)]) (fun k=>upd b4 g4 (some ⟨3,rv (bA (fC s.ms R k))⟩)) (fun k=>k≤R.length) (fun k=>R.length - k) _ 0 (Nat.zero_le _) ⟨rfl,by simp[Str.c],sub_eq (by
  rw[M7]
  funext y;simp only[aA];split
  ·rename_i e;rw[e,b4g]
  ·rfl)⟩ ?_
 intro k hk
 have wk:IntKind.i64.wrap ((k:Int)+1)=(k:Int)+1:=i64_in (by omega) (by omega)
 refine aE ?_
 simp
 refine aE ?_
 simp
 refine⟨fun hkR=> ?_,fun hkR=> ?_⟩
 ·have hkn:k<s.ms.length:=by omega
  have Gx:(k:Int)<R.length:=by omega
  refine aO (aT ?_)
  obtain⟨bq,hbq⟩: ∃bq,bq=upd b4 g4 (some ⟨3,rv (bA (fC s.ms R k))⟩):=⟨_,rfl⟩
  have bqg:bq g4=some ⟨3,rv (bA (fC s.ms R k))⟩:=by rw[hbq];simp
  rw[←hbq]
  have hl:k<(fC s.ms R k).length:=by simpa using hkR
  have hl2:k<(bA (fC s.ms R k)).length:=by simpa using hkR
  have eg:=tN (fC s.ms R k) k hl2
  rw[zQ s.ms R hkR] at eg
  have ok1:okQ R[k]:=hRo _ (List.getElem_mem hkR)
  have ok2:okQ (some ((1:Int):Rat)):=okS (fits_int (by decide))
  have tI:=dO 1 (by decide)
  have tA:=aDK R[k] (some ((1:Int):Rat)) ok1 ok2
  have tS:=aA7 R[k] (some ((1:Int):Rat)) ok1 ok2
  have st:=Dc s.ms R hkR
  rw[cL _ _ _ hkn] at st
  have hkd:=hS.kd _ (List.getElem_mem hkn)
  refine aE ?_
  simp
  refine aE ?_
  simp[hkn,Mb.c,Str.c]
  refine aC ?_
  simp
  refine⟨fun e1=> ?_,fun e1=> ?_⟩
  ·rw[e1,Wj] at st
   refine bY aL [0,1,2,3,4,5,6,7,8] 1 9 (by kernel_rfl) ?_
   simp[bqg,hkR,Gx,eg,RT.c]
   refine aN tI ?_
   simp[RT.c]
   refine aN tA ?_
   simp[bqg,hkR,Gx,RT.c]
   refine bZ (i:=9) (by kernel_rfl) rfl rfl rfl ?_
   simp[bqg,hkR,RT.c]
   refine Dy ?_
   simp
   refine aC ?_
   simp[wk,aB]
   refine⟨k+1,by omega,by omega,rfl,by simp[Str.c],?_⟩
   intro y z hy
   simp only[aA] at hy ⊢
   split
   ·rename_i e;rw[if_pos e] at hy;rw[←hy,←st,←wM];simp[RT.c]
   ·rename_i e;rw[if_neg e] at hy
    rw[hbq,aG _ _ _ _ e];exact hy
  ·refine⟨fun e2=> ?_,fun e2=> ?_⟩
   ·rw[e2,Xk] at st
    refine bY aL [0,1,2,3,4,5,6,7,8] 1 9 (by kernel_rfl) ?_
    simp[bqg,hkR,Gx,eg,RT.c]
    refine aN tI ?_
    simp[RT.c]
    refine aN tS ?_
    simp[bqg,hkR,Gx,RT.c]
    refine bZ (i:=9) (by kernel_rfl) rfl rfl rfl ?_
    simp[bqg,hkR,RT.c]
    refine Dy ?_
    simp
    refine aC ?_
    simp[wk,aB]
    refine⟨k+1,by omega,by omega,rfl,by simp[Str.c],?_⟩
    intro y z hy
    simp only[aA] at hy ⊢
    split
    ·rename_i e;rw[if_pos e] at hy;rw[←hy,←st,←wM];simp[RT.c]
    ·rename_i e;rw[if_neg e] at hy
     rw[hbq,aG _ _ _ _ e];exact hy
   ·have e3:s.ms[k].kind=3:=by omega
    rw[e3,Xy ok1] at st
    have st2:fC s.ms R (k+1)=fC s.ms R k:=by
     rw[←st]
     have e4:=zQ s.ms R hkR
     conv=>lhs;rw[←e4]
     exact List.set_getElem_self hl
    refine aC ?_
    simp[wk,aB]
    exact⟨k+1,by omega,by omega,rfl,by simp[Str.c],sub_eq (by rw[st2,hbq])⟩
 ·have hke:k=R.length:=by omega
  subst hke
  rw[hRl]
  obtain⟨B,hB⟩: ∃B,B=upd b4 g4 (some ⟨3,rv (bA (fC s.ms R s.ms.length))⟩):=⟨_,rfl⟩
  have hBs:Sub bl B:=fun y z hy=>by rw[hB,aG _ _ _ _ (fun e=>by rw[e,f4] at hy;cases hy)];exact s4 y z hy
  have oB:OwnD (dropB B bl) (fl 3 (rv (bA (fC s.ms R s.ms.length)))) (.lsl g4 3 0 s.ms.length) [g4]:=oO.2 (.inr ⟨g4,by simp[hRl],rfl,by unfold dropB;rw[f4,hB,aV],fun h=>by
   have:=Vl h
   have e:R= []:=by simpa [rv,bA] using this
   rw[e];rfl⟩)
  rw[←hB]
  simp
  refine aC ?_
  simp
  exact aK [.lsl g4 3 0 s.ms.length,.bool true] 2 (by simp) (F9 (by rw[oB.frz (iZ _ _ _),Jm])) hBs
end Go.Proofs.YticmgmemnpcbbaaGreat.Vm

namespace Go.Proofs.YticmgmemnpcbbaaGreat.Vm
open Go Go.Proofs
set_option linter.unusedSimpArgs false
set_option linter.unusedVariables false
theorem law_PretensionOf_ro (s:Str) (hs:s.sz):RO Tryz.prog 12 [.agg s.c] (.bool true):=by
 refine aJ Tryz.func12 rfl rfl (by rw[Tryz.ntmps12];simp) fun bl=> ?_
 rw[Tryz.ntmps12,Tryz.results12]
 refine aC ?_
 simp[Str.c]
 intro gx0 aKQ aMR
 have kp:=Zz (bl:=bl) aMR (some ⟨2,[[.sl (jv s.js),.sl (mv s.ms)]]⟩)
 have iM:upd bl gx0 (some ⟨2,[[.sl (jv s.js),.sl (mv s.ms)]]⟩) gx0=some ⟨2,[[.sl (jv s.js),.sl (mv s.ms)]]⟩:=by simp
 have sb1:Sub bl (upd bl gx0 (some ⟨2,[[.sl (jv s.js),.sl (mv s.ms)]]⟩)):=fun x y hx=>kp x y ((Sub.refl _) x y hx)
 generalize upd bl gx0 (some ⟨2,[[.sl (jv s.js),.sl (mv s.ms)]]⟩)=b1 at *
 clear kp
 refine aD (H0 s _ (by omega) hs.js hs.ms hs.nm) ?_
 try simp[iM]
 refine⟨fun h=> ?_,fun hzs=> ?_⟩
 ·exact aK [_] 0 rfl rfl sb1
 obtain⟨l1s,l2s,l3s⟩:=Ro (s:=s) (left:=1048576) (by omega) (by omega)
 have aYS: -1≤(uG s 1048576)∧(uG s 1048576)≤1048576:=by omega
 have jss:s.js.length≤1048576:=by omega
 have mss:s.ms.length≤1048576:=by omega
 have ts:=F7 s jss mss
 have hS:=rM s ⟨hs.js,hs.ms,hs.nm⟩
 have hI:=kT s ⟨hs.js,hs.ms,hs.nm⟩
 have hJ:=qZ s ⟨hs.js,hs.ms,hs.nm⟩
 have wl:=Vs (V5 s).1 (by have:=(V5 s).2;omega)
 generalize bJ (pI s)=ob at hS hI hJ
 generalize stQ (pI s)=w at hS hI hJ wl
 obtain⟨wq,ws⟩:=wl
 have we:=Nb w wq
 refine aD ts ?_
 try simp[iM]
 refine aD hS ?_
 try simp[iM]
 refine bU (C7 s jss mss) fun va0 ga0 cb0 ot fa0 aO0=> ?_
 obtain⟨Qs,Ou,rfl,oa0,c1,c2,c3,c4⟩:=Wb ot
 clear ot
 have Mr:gx0∉ga0:=fun hh=>by have hz:=fa0 _ hh;rw[iM] at hz;cases hz
 have aCG: ∀x,x∈ga0→bl x=none:=fun x hx=>aR sb1 (fa0 x hx)
 have iM:=bI fa0 aO0 iM
 have aU5:Sub bl cb0:=fun x y hx=>bI fa0 aO0 (sb1 x y hx)
 try simp[iM,c1,c2,c3,c4]
 intro gx1 aYW Iy
 have Q7:gx0≠gx1:=fun e=>by rw[←e,iM] at Iy;cases Iy
 try simp[Q7,Ne.symm Q7,iM]
 have kp:=Zz (bl:=cb0) Iy (some ⟨2,[[Qs,Ou]]⟩)
 have mQ:upd cb0 gx1 (some ⟨2,[[Qs,Ou]]⟩) gx1=some ⟨2,[[Qs,Ou]]⟩:=by simp
 have sb2:Sub bl (upd cb0 gx1 (some ⟨2,[[Qs,Ou]]⟩)):=fun x y hx=>kp x y (aU5 x y hx)
 generalize upd cb0 gx1 (some ⟨2,[[Qs,Ou]]⟩)=b2 at *
 have iM:=kp _ _ iM
 have Ka:gx1∉ga0:=oa0.not Iy
 have oa0:=oa0.cZ (bl':=b2) fun x _ y hy=>kp x y hy
 clear kp
 try simp[iM,mQ,c1,c2,c3,c4]
 refine H5 3 (ys:= [.agg s.c]) (by simp[Hn oa0 1];try simp[frz]) hI (aAY _ _) fun vr gr d0 oT fr0 Wu=> ?_
 obtain⟨w0,rfl,oR,p1,p2⟩:=Oj oT
 clear oT
 have Tw:gx0∉gr:=fun hh=>by have hz:=fr0 _ hh;rw[iM] at hz;cases hz
 have Sx:gx1∉gr:=fun hh=>by have hz:=fr0 _ hh;rw[mQ] at hz;cases hz
 have Cp: ∀x,x∈gr→x∉ga0:=fun x hx=>oa0.not (fr0 x hx)
 have aLS: ∀x,x∈gr→bl x=none:=fun x hx=>aR sb2 (fr0 x hx)
 have iM:=bI fr0 Wu iM
 have mQ:=bI fr0 Wu mQ
 have oa0:=oa0.cZ (bl':=d0) fun x _ y hy=>bI fr0 Wu hy
 have sd0:Sub bl d0:=fun x y hx=>bI fr0 Wu (sb2 x y hx)
 try simp[iM,mQ,p1,p2]
 refine bN [(1,.loc gx0 2 0 0),(6,.loc gx1 2 0 0),(4,.sl (rv w)),(5,.bool ob),(7,w0),(8,.bool ob)] _ d0 40 (.bool false) ⟨rfl,by simp,Sub.refl _⟩ rfl ?_ ?_
 ·simp[iM,mQ]
  refine aX 3 (ys:= [.sl (rv w),.sl (rv w)]) (by simp[U9 oR 1];simp[frz]) we rfl ?_
  simp
 try simp[iM,mQ]
 refine cI aL (by kernel_rfl) ?_
 simp[iM,mQ]
 refine aN ts ?_
 try simp
 refine aBW 3 (D6 s s hs.js hs.ms) (by simp[Hn oa0 1];simp[frz,Str.c,V.cl]) rfl ?_
 try simp[iM,mQ]
 have bd0:(mkN 1 s)≤4611686018427387000:=by simp only[mkN];omega
 refine wY s 1 _ ga0 oa0 bd0 fun mb0 oa0 k0=> ?_
 have iM:=k0 gx0 Mr _ iM
 have mQ:=k0 gx1 Ka _ mQ
 have oR:=oR.cZ (bl':=mb0) fun x hx y hy=>k0 x (Cp x hx) y hy
 have aV6:Sub bl mb0:=fun x y hx=>k0 x (fun h=>by rw[aCG x h] at hx;cases hx) y (sd0 x y hx)
 try simp[iM,mQ]
 refine bN [(1,.loc gx0 2 0 0),(6,.loc gx1 2 0 0),(4,.sl (rv w)),(5,.bool ob),(7,w0),(8,.bool ob),(9,.int .i64 ((mkN 1 s):Nat))] _ mb0 61 (.bool false) ⟨rfl,by simp,Sub.refl _⟩ rfl ?_ ?_
 ·simp[iM,mQ]
  refine aX 3 (ys:= [.sl (rv w),.sl (rv w)]) (by simp[U9 oR 1];simp[frz]) we rfl ?_
  simp
 try simp[iM,mQ]
 have bw:fQ 1 w≤4611686018427387000:=by have:=wq.1;rw[lV];omega
 refine Bu w 1 _ gr oR bw fun f0 oR kr=> ?_
 have iM:=kr gx0 Tw _ iM
 have mQ:=kr gx1 Sx _ mQ
 have oa0:=oa0.cZ (bl':=f0) fun x hx y hy=>kr x (fun hh=>Cp x hh hx) y hy
 have sf0:Sub bl f0:=fun x y hx=>kr x (fun h=>by rw[aLS x h] at hx;cases hx) y (aV6 x y hx)
 have hh:=Dn w 1 bw
 have cO: ¬ (fQ 1 w:Int)<0:=by omega
 try simp[iM,mQ,cO]
 refine aX 3 (ys:= [.sl (rv (mkQs 1 w)),.int .i64 1]) (by simp[U9 oR 1];simp[frz]) hh rfl ?_
 try simp[iM,mQ,cO]
 refine aD ts ?_
 try simp[iM,mQ]
 refine aD hJ ?_
 try simp[iM,mQ]
 refine bN [(1,.loc gx0 2 0 0),(6,.loc gx1 2 0 0),(4,.sl (rv w)),(5,.bool ob),(7,w0),(8,.bool ob),(10,.int .i64 (fQ 1 w:Nat)),(12,.sl (rv w)),(13,.bool ob)] _ f0 87 (.bool false) ⟨rfl,by simp,Sub.refl _⟩ rfl ?_ ?_
 ·simp[iM,mQ]
  refine aD we ?_
  simp
 try simp[iM,mQ]
 refine aX 3 (ys:= [.sl (rv (mkQs 1 w)),.int .i64 1]) (by simp[U9 oR 1];simp[frz]) hh rfl ?_
 try simp[iM,mQ,cO]
 exact aK [_] 0 rfl rfl sf0
end Go.Proofs.YticmgmemnpcbbaaGreat.Vm

namespace Go.Proofs.YticmgmemnpcbbaaGreat.lawPretensionOf
open Go Go.RowKit Go.ChangeShapes Go.WideShapes Vm
theorem body (xs:List V) (h:sZ Tryz.prog Tryz.f12.params.toList xs):RO Tryz.prog 12 xs (.bool true):=by
 rw[Tryz.params12] at h
 obtain⟨c0,ys,rfl,h0,h⟩:=Km h
 obtain rfl:=Us h
 obtain⟨x0,rfl,y0⟩:=Ks h0
 rw[Ft Tryz.underlying71]
 exact law_PretensionOf_ro x0 ⟨y0.js,y0.ms,y0.names⟩
set_option maxRecDepth 100000 in
theorem lifted (os:Os) (started:os.Started) (H:Type) (enc:TypeId×Value→H):
  ReturnsInHanded {} Tryz.checked os 12 .any (Rows.fnExactPretensionOfSpec.pre6 enc Tryz.prog Tryz.f12 Rows.fnExactPretensionOfRow.domain false) (Rows.fnExactPretensionOfSpec.post enc Tryz.prog Tryz.f12 false true false false):=by
 refine returnsInHanded_of_change_sized (C:=Tryz.checked) own started (by kernel_rfl) Tryz.func12
  (ChangeSpec.witness6 (enc:=enc) (C:=Tryz.checked) false ⟨#[], #[.agg #[.slice none 0 0,.slice none 0 0]],[]⟩ 8 (by kernel_rfl) (by kernel_rfl) (by kernel_rfl) (by kernel_rfl)) ?_
 intro W base args ds gs before Es hW aYP hsz _
 refine law_calls (tb:=4) rfl rfl Tryz.underlying4 laidOut (by kernel_rfl) (fun ds hds=> ?_) body W base args ds gs before Es hW hsz
 rw[Tryz.params12] at hds
 first
  | (match ds, hds with | [a], _ => rfl)
  | (match ds, hds with | [a, b], _ => rfl)
  | (match ds, hds with | [a, b, c], _ => rfl)
  | (match ds, hds with | [a, b, c, d], _ => rfl)
  | (match ds, hds with | [a, b, c, d, e], _ => rfl)
  | (match ds, hds with | [a, b, c, d, e, f], _ => rfl)
theorem oC :Rows.fnExactPretensionOfRow.holds Tryz.pinned (OpenSpec.ofChange Rows.fnExactPretensionOfSpec):=
 OpenClaim.holds_of_wide 12 Tryz.f12 rfl rfl rfl rfl rfl rfl rfl ⟨rfl,rfl,rfl,rfl,rfl⟩ rfl rfl rfl rfl rfl (by kernel_rfl) Tryz.func12 (facts (by kernel_rfl))
  (of_decide_eq_true (by kernel_rfl)) (by unfold Func.isWrapper;first | (rw[if_pos (by decide+kernel)];kernel_rfl)| (rw[if_neg (by decide+kernel)];exact⟨rfl,rfl⟩))
  (fun os started H enc _=>lifted os started H enc)
theorem proved :Rows.FnExactPretensionOfSaid:=oC
#print axioms proved
end Go.Proofs.YticmgmemnpcbbaaGreat.lawPretensionOf
