import Derived.Test.YticmgmemnpcbbaaGreatQCFnExactCanPretension8

namespace Go.Proofs.YticmgmemnpcbbaaGreat.Vm
open Go Go.RowKit Go.Proofs
set_option linter.unusedSimpArgs false
set_option linter.unusedVariables false
theorem Eo (p:Pg) (n m i:Nat) (h:PgN p n m) (hi:i<m):RO Tryz.prog 246 [.agg p.v,.int .i64 i] (.sl (iv (lz n (pA p n i)))):=by
 have hr:=h.row hi
 have hml:=h.ml
 have hnl:=h.nl
 have hal:=h.al
 have hin:i*n≤17*100:=Nat.mul_le_mul (by omega) (by omega)
 have hmn:i*n+n≤m*n:=by
  have:=Nat.mul_le_mul_right n (show i+1≤m by omega)
  rwa [Nat.add_mul,Nat.one_mul] at this
 have e1:(i:Int)*(n:Int)=((i*n:Nat):Int):=(Int.natCast_mul i n).symm
 have e2:((i:Int)+1)*(n:Int)=((i*n+n:Nat):Int):=by rw[Int.add_mul,Int.one_mul,e1];omega
 have w0:IntKind.i64.wrap ((i:Int)+1)=(i:Int)+1:=i64_in (by omega) (by omega)
 have w1:IntKind.i64.wrap ((i:Int)*(n:Int))=(i:Int)*n:=by rw[e1];exact i64_in (by omega) (by omega)
 have w2:IntKind.i64.wrap (((i:Int)+1)*(n:Int))=(i:Int)*n+n:=by rw[e2,i64_in (by omega) (by omega)];simp
 have hc:=h.aY
 have k1:(0:Int)≤(i:Int)*n:=by rw[e1];omega
 have k2:(i:Int)*n≤(i:Int)*n+n:=by omega
 have k3:(i:Int)*n+n≤(p.a.length:Int):=by rw[hal,e1];omega
 have k4:((i:Int)*n).toNat=i*n:=by rw[e1];omega
 have k5:((i:Int)*n+n).toNat=i*n+n:=by rw[e1];omega
 refine aJ Tryz.func246 rfl rfl (by rw[Tryz.ntmps246];simp) fun bl=> ?_
 rw[Tryz.ntmps246,Tryz.results246]
 refine aC ?_
 simp[Pg.v]
 intro g hg hbg
 simp[hc,w0,w1,w2,k1,k2,k3,sliV,k4,k5,hr]
 exact⟨fun x hx=>(E6 _ x hx).symm,aK [.sl (iv (lz n (pA p n i)))] 0 (by simp) (by simp[frz,V.cl]) (by simp[hbg])⟩
theorem SS.snoc {b b':Int→Option Blk} {g:SG} {r w n:Nat} {Z:Nat→Nat→Rat} {co:Nat→Rat} {bs:Nat→Nat} (h:SS b g ⟨r,w,n,Z,co,bs⟩) (gN gM gr:Int) (hR:b' gN=some ⟨1,(g.ids++ [gr]).map fun x=> [.lsl x 3 0 w]⟩) (hB:b' gM=some ⟨1,iv (lb (r+1) bs)⟩)
  (hT:b' g.T=some ⟨4,[[.int .i64 n,.lsl gN 1 0 (r+1),.lsl gM 1 0 (r+1),.lsl g.C 3 0 w]]⟩) (hC:b' g.C=b g.C) (hi: ∀x,x∈g.ids→b' x=b x)
  (hr:b' gr=some ⟨3,rqs w (Z r)⟩) (h0:0≤gr) (hN:0≤gN) (hM:0≤gM) (nd:(SG.all ⟨g.T,gN,gM,g.C,g.ids++ [gr]⟩).Nodup):
  SS b' ⟨g.T,gN,gM,g.C,g.ids++ [gr]⟩ ⟨r+1,w,n,Z,co,bs⟩:=by
 have hl:=h.len
 simp only at hl
 refine⟨by simp[hl],hR,fun i x hx=> ?_,fun x hx=> ?_,hT,hB,by simp only;rw[hC];exact h.cst,h.pT,fun e=>by simp only at e;omega,fun e=>by simp only at e;omega,h.pC,nd⟩
 ·simp only at hx ⊢
  by_cases e:i<r
  ·rw[List.getElem?_append_left (by omega)] at hx
   rw[hi x (List.mem_of_getElem? hx)];exact h.row i x hx
  ·rw[List.getElem?_append_right (by omega)] at hx
   have e0:i - g.ids.length=0:=by
    rcases Nat.eq_zero_or_pos (i - g.ids.length) with q | q
    ·exact q
    ·rw[List.getElem?_eq_none (by simp;omega)] at hx;cases hx
   rw[e0] at hx;cases hx
   rw[show i=r by omega];exact hr
 ·rcases List.mem_append.1 hx with hx | hx
  ·exact h.pos x hx
  ·rw[List.mem_singleton.1 hx];exact h0
noncomputable def eW (p : Pg) (n m i : Nat) : Nat → Rat := fun c => if c < n ∨ c = n + m then Lp.S i fun r => eQ p n m r c else 0
theorem aDA {p:Pg} {n m:Nat} (h:PgN p n m) (i c:Nat): ∃z:Int,eQ p n m i c=(z:Rat)∧z.natAbs≤1000:=⟨_,rfl,Jy h i c⟩
theorem S6 {p:Pg} {n m:Nat} (h:PgN p n m) (c:Nat): ∀i,∃z:Int,eW p n m i c=(z:Rat)∧z.natAbs≤i*1000
 | 0 => ⟨0, by unfold eW; rw [Lp.S]; split <;> rfl, by simp⟩
 | i + 1 => by
   obtain⟨z,h1,h2⟩:=S6 h c i
   obtain⟨y,h3,h4⟩:=aDA h i c
   by_cases e:c<n∨c=n+m
   ·refine⟨z+y,?_,by omega⟩
    unfold eW at h1 ⊢
    rw[if_pos e] at h1 ⊢
    rw[Lp.S,h1,h3,Rat.intCast_add]
   ·refine⟨0,?_,by simp⟩
    unfold eW;rw[if_neg e];rfl
theorem C1 {p:Pg} {n m i:Nat} (h:PgN p n m) (hi:i≤m) (c:Nat):fits (eW p n m i c):=by
 obtain⟨z,h1,h2⟩:=S6 h c i
 rw[h1]
 have:=h.ml
 have:=Nat.mul_le_mul_right 1000 (show i≤17 by omega)
 exact fits_int (by omega)
theorem R5 {p:Pg} {n m i c:Nat} (e:c<n∨c=n+m):eW p n m (i+1) c=eW p n m i c+eQ p n m i c:=by unfold eW;rw[if_pos e,if_pos e,Lp.S]
theorem Mr {p:Pg} {n m i c:Nat} (e: ¬ (c<n∨c=n+m)):eW p n m (i+1) c=eW p n m i c:=by unfold eW;rw[if_neg e,if_neg e]
theorem Nv {p:Pg} {n m c:Nat} (h:PgN p n m) (hc:c≤n+m):eW p n m m c=Lp.rc m (Lp.aZ n m) (Lp.jO n (eQ p n m)) c:=by
 have hS:(Lp.S m fun i=>(Lp.jO n (eQ p n m)).X i c*Lp.aZ n m ((Lp.jO n (eQ p n m)).bs i))= - Lp.S m fun i=>eQ p n m i c:=by
  rw[Lp.bE (g:=fun i=>(-1)*eQ p n m i c) fun i hi=>by
   show eQ p n m i c*Lp.aZ n m (n+i)=_
   unfold Lp.aZ
   rw[if_pos (by omega)];grind,Lp.iM]
  grind
 unfold Lp.rc
 rw[hS]
 unfold eW
 by_cases e:c<n∨c=n+m
 ·rw[if_pos e,show Lp.aZ n m c=0 by unfold Lp.aZ;rw[if_neg (by omega)]];grind
 ·rw[if_neg e,show Lp.aZ n m c= -1 by unfold Lp.aZ;rw[if_pos (by omega)]]
  obtain⟨j,hj⟩: ∃j,c=n+j:=⟨c - n,by omega⟩
  have hjm:j<m:=by omega
  rw[hj,Lp.dE (k:=j) hjm,h.init.art j j hjm hjm,if_pos rfl]
  ·grind
  ·intro i hi hne
   rw[h.init.art i j hi hjm,if_neg hne]
structure Ge where
 j:Nat
 gC:Int
 b:Int→Option Blk
structure Q2 where
 k:Nat
 gw:Int
 b:Int→Option Blk
structure Kk where
 i:Nat
 g:SG
 b:Int→Option Blk
structure WOk (b : Int → Option Blk) (f : Nat → Rat) (W : Q2) : Prop where
 blk:W.b W.gw=some ⟨3,rqs W.k f⟩
 new:b W.gw=none
 nn:0≤W.gw
 sub:Sub b W.b
theorem WOk.snoc {b:Int→Option Blk} {f:Nat→Rat} {k:Nat} {gw g4 gN:Int} {bw:Int→Option Blk} (h:WOk b f ⟨k,gw,bw⟩) (h4:bw g4=none) (hN:0≤gN) (hn: ¬ gN=gw→ ¬ gN=g4∧bw gN=none):
  WOk b f ⟨k+1,gN,upd (rem bw gw) gN (some ⟨3,rqs (k+1) f⟩)⟩:=by
 have hbN:b gN=none:=by
  by_cases e:gN=gw
  ·rw[e];exact h.new
  ·cases hv:b gN with
   | none => rfl
   | some y => have := h.sub gN y hv; simp only at this; rw [(hn e).2] at this; cases this
 refine⟨aU _ _ _,hbN,hN,fun x y hx=> ?_⟩
 have x1:x≠gN:=fun e=>by rw[e,hbN] at hx;cases hx
 have x2:x≠gw:=fun e=>by have:=h.new;simp only at this;rw[e,this] at hx;cases hx
 simp only
 rw[aG _ _ _ _ x1,aF,if_neg x2]
 exact h.sub x y hx
theorem wW {bw:Int→Option Blk} {gw g4 gN:Int} {X Y:Option Blk} (h4:bw g4=none) (h: ¬ gN=gw→ ¬ gN=g4) (hw:g4≠gw):Sub (upd (rem bw gw) gN Y) (upd (rem (upd bw g4 X) gw) gN Y):=fun z y hz=>by
 simp only[aA,aF] at hz ⊢
 grind
theorem T6 {bl:Int→Option Blk} {K:V→(Int→Option Blk)→Prop} (p:Pg) (n m:Nat) (h:PgN p n m)
  (hK: ∀b' g,SS b' g (snV (List.range m) (n+m) (n+m) m (Lp.aZ n m) (Lp.jO n (eQ p n m)))→(∀x,x∈g.all→bl x=none)→Sub bl b'→K (.loc g.T 4 0 0) b'):
  cO Tryz.prog 189 [.agg p.v] bl K:=by
 have hml:=h.ml
 have hnl:=h.nl
 obtain⟨N,hN⟩: ∃N,n+m=N:=⟨_,rfl⟩
 have wN:IntKind.i64.wrap ((n:Int)+(m:Int))=(N:Int):=by rw[i64_in (by omega) (by omega)];omega
 have hL5:p.v.length=5:=rfl
 refine cV Tryz.func189 rfl rfl (by rw[Tryz.ntmps189];simp) ?_
 rw[Tryz.ntmps189,Tryz.results189]
 refine aD ?_
 simp[Pg.v]
 intro g1 hg1 hb1
 refine cE 1 1 (.ptr p.v) bl (by intro z b hz;simp only[aA] at hz ⊢;grind) (by simp[frz,dropB,hb1,V.cl,Pg.v]) ?_
 refine aD ?_
 simp[Pg.v,h.rows,h.aY,wN]
 intro gT hgT hbT
 refine dI [(1,.ptr p.v),(3,.loc gT 4 0 0)] 152 (upd bl gT (some ⟨4,[[.int .i64 N,.nils,.nils,.nils]]⟩)) ⟨rfl,by simp[Pg.v,h.rows,h.aY],sub_eq (by simp)⟩ ?_
 refine cM (g:=gT) (s:=4) (els:= [[.int .i64 N,.nils,.nils,.nils]]) 0 1 1 (by simp) rfl rfl fun gR hgR hRT=> ?_
 simp[hRT] at hgR
 refine cM (g:=gT) (s:=4) (els:= [[.int .i64 N,.lsl gR 1 0 0,.nils,.nils]]) 0 2 1 (by simp[Ne.symm hRT]) rfl rfl fun gB hgB hBT=> ?_
 simp[hBT] at hgB
 obtain⟨hBR,hgB⟩:=hgB
 refine cM (g:=gT) (s:=4) (els:= [[.int .i64 N,.lsl gR 1 0 0,.lsl gB 1 0 0,.nils]]) 0 3 3 (by simp[Ne.symm hBT]) rfl rfl fun gC hgC hCT=> ?_
 simp[hCT] at hgC
 obtain⟨hCB,hCR,hgC⟩:=hgC
 obtain⟨b1,hb1⟩: ∃b1,b1=upd (upd (upd (upd (upd (upd (upd bl gT (some ⟨4,[[.int .i64 N,.nils,.nils,.nils]]⟩)) gT (some ⟨4,[[.int .i64 N,.lsl gR 1 0 0,.nils,.nils]]⟩)) gR (some ⟨1,[]⟩)) gT (some ⟨4,[[.int .i64 N,.lsl gR 1 0 0,.lsl gB 1 0 0,.nils]]⟩)) gB (some ⟨1,[]⟩)) gT (some ⟨4,[[.int .i64 N,.lsl gR 1 0 0,.lsl gB 1 0 0,.lsl gC 3 0 0]]⟩)) gC (some ⟨3,[]⟩):=⟨_,rfl⟩
 have b1T:b1 gT=some ⟨4,[[.int .i64 N,.lsl gR 1 0 0,.lsl gB 1 0 0,.lsl gC 3 0 0]]⟩:=by rw[hb1];simp[Ne.symm hCT]
 have b1R:b1 gR=some ⟨1,[]⟩:=by rw[hb1];simp[Ne.symm hCR,hRT,Ne.symm hBR]
 have b1B:b1 gB=some ⟨1,[]⟩:=by rw[hb1];simp[Ne.symm hCB,hBT]
 have b1C:b1 gC=some ⟨3,rqs 0 fun _=>0⟩:=by rw[hb1];simp[rqs]
 have s1:Sub bl b1:=fun x y hx=>by
  have x1:x≠gT:=fun e=>by rw[e,hbT] at hx;cases hx
  have x2:x≠gR:=fun e=>by rw[e,hgR] at hx;cases hx
  have x3:x≠gB:=fun e=>by rw[e,hgB] at hx;cases hx
  have x4:x≠gC:=fun e=>by rw[e,hgC] at hx;cases hx
  rw[hb1];simp[x1,x2,x3,x4,hx]
 refine dI [(1,.ptr p.v),(3,.loc gT 4 0 0)] 152 b1 ⟨rfl,by simp,by rw[hb1];exact sub_eq (by simp)⟩ ?_
 clear hb1
 refine aM ?_
 refine aC ?_
 simp
 refine aI (fun q:Ge=> [(1,.ptr p.v),(3,.loc gT 4 0 0),(4,.int .i64 q.j)]) (fun q=>q.b) (fun q=>q.j≤N+1∧q.b gT=some ⟨4,[[.int .i64 N,.lsl gR 1 0 0,.lsl gB 1 0 0,.lsl q.gC 3 0 q.j]]⟩∧q.b gR=some ⟨1,[]⟩∧q.b gB=some ⟨1,[]⟩∧q.b q.gC=some ⟨3,rqs q.j fun _=>0⟩∧(q.gC≠gT∧q.gC≠gR∧q.gC≠gB∧bl q.gC=none∧(0≤q.gC∨q.j=0))∧Sub bl q.b) (fun q=>N+1 - q.j) _ ⟨0,gC,b1⟩ ⟨Nat.zero_le _,b1T,b1R,b1B,b1C,⟨hCT,hCR,hCB,hgC,.inr rfl⟩,s1⟩ ⟨rfl,by simp,Sub.refl _⟩ ?_
 clear s1 b1T b1R b1B b1C hgC hCB hCR hCT
 rintro⟨j,gC,b⟩ ⟨hj,bT,bR,bB,bC,⟨cT,cR,cB,cbl,Tk⟩,hsb⟩
 simp only at hj bT bR bB bC cT cR cB cbl Tk hsb
 have wj:IntKind.i64.wrap ((j:Int)+1)=(j:Int)+1:=i64_in (by omega) (by omega)
 refine aM ?_
 refine aC ?_
 simp[bT]
 refine⟨fun hjn=> ?_,fun hjn=> ?_⟩
 ·refine aM (aR ?_)
  have hR0:=eG 0 (by decide)
  refine cQ aN (rem b gC) (dF b gC) [0,1,2,3,4,5] 5 10 (by kernel_rfl) ?_
  simp[Ne.symm cT,bT]
  refine aP hR0 ?_
  simp
  refine Dq 6 false ?_
  simp[RT.c]
  intro g4 hg4 hb4
  have n4T:g4≠gT:=fun e=>by rw[e,bT] at hb4;cases hb4
  have n4R:g4≠gR:=fun e=>by rw[e,bR] at hb4;cases hb4
  have n4B:g4≠gB:=fun e=>by rw[e,bB] at hb4;cases hb4
  have n4C:g4≠gC:=fun e=>by rw[e,bC] at hb4;cases hb4
  have pK: ∀X,Sub (rem b gC) (upd b g4 X):=fun X z y hz=>by
   rw[aF] at hz
   rw[aA]
   grind
  refine⟨pK _,Dq 7 false ?_⟩
  have tkC:(rqs j fun _=>(0:Rat)).take j=rqs j fun _=>0:=List.take_of_length_le (by simp)
  simp[n4C,Ne.symm n4C,appV,elsV,Int.not_lt.2 hg4,bC,tkC]
  have hsn:(rqs j fun _=>(0:Rat))++ [[V.bool (rq 0).neg,.sl (iv (rq 0).m),.sl (iv (rq 0).d)]]=rqs (j+1) fun _=>0:=by rw[jG];rfl
  rw[hsn]
  refine⟨by omega,fun gN hgN hbN=> ?_⟩
  have nN:gN≠gT∧gN≠gR∧gN≠gB∧gN≠g4:=by
   by_cases e:gN=gC
   ·subst e
    exact⟨cT,cR,cB,Ne.symm n4C⟩
   ·obtain⟨q1,q2⟩:=hbN e
    exact⟨fun e=>(by rw[e,bT] at q2;cases q2),fun e=>(by rw[e,bR] at q2;cases q2),fun e=>(by rw[e,bB] at q2;cases q2),q1⟩
  obtain⟨nNT,nNR,nNB,nN4⟩:=nN
  have blN:bl gN=none:=by
   by_cases e:gN=gC
   ·rw[e];exact cbl
   ·cases hv:bl gN with
    | none => rfl
    | some y => have := hsb gN y hv; rw [(hbN e).2] at this; cases this
  have fW: ∀X Y,Sub (rem b gC) (upd (rem (upd b g4 X) gC) gN Y):=fun X Y z y hz=>by
   rw[aF] at hz
   rw[aA,aF,aA]
   grind
  have jP: ∀X Y Z,Sub (upd (upd (rem b gC) gN Y) gT Z) (upd (upd (rem (upd b g4 X) gC) gN Y) gT Z):=fun X Y Z z y hz=>by
   simp only[aA,aF] at hz ⊢
   grind
  refine⟨fW _ _,Dq 8 false ?_⟩
  simp
  refine⟨fW _ _,Dq 9 false ?_⟩
  simp
  refine⟨fW _ _,Dq 10 true ?_⟩
  simp[Ne.symm nNT,Ne.symm cT,n4T,Ne.symm n4T,bT]
  refine Dd ?_
  simp
  refine aC ?_
  simp[wj,aB]
  obtain⟨b2,hb2⟩: ∃b2,b2=upd (upd (rem b gC) gN (some ⟨3,rqs (j+1) fun _=>0⟩)) gT (some ⟨4,[[.int .i64 N,.lsl gR 1 0 0,.lsl gB 1 0 0,.lsl gN 3 0 (j+1)]]⟩):=⟨_,rfl⟩
  refine⟨⟨j+1,gN,b2⟩,⟨by simp only;omega,by rw[hb2];simp,by rw[hb2];simp[hRT,Ne.symm nNR,Ne.symm cR,bR],by rw[hb2];simp[hBT,Ne.symm nNB,Ne.symm cB,bB],by rw[hb2];simp[nNT],⟨nNT,nNR,nNB,blN,.inl hgN⟩,fun x y hx=> ?_⟩,by simp only;omega,rfl,by simp,by rw[hb2];exact jP _ _ _⟩
  have x1:x≠gT:=fun e=>by rw[e,hbT] at hx;cases hx
  have x2:x≠gN:=fun e=>by rw[e,blN] at hx;cases hx
  have x3:x≠gC:=fun e=>by rw[e,cbl] at hx;cases hx
  simp only
  rw[hb2];simp[x1,x2,x3];exact hsb x y hx
 have hje:j=N+1:=by omega
 subst hje
 have cnn:0≤gC:=by rcases Tk with g | g;exact g;omega
 refine aM ?_
 refine aC ?_
 simp
 have nTR:=Ne.symm hRT
 have hS0:SS b ⟨gT,gR,gB,gC,[]⟩ ⟨0,N+1,N,eQ p n m,eW p n m 0,fun q=>n+q⟩:=by
  refine⟨rfl,bR,fun i x hx=>(by cases hx),fun x hx=>(by cases hx),bT,bB,?_,hgT,fun _=>rfl,fun _=>rfl,cnn,?_⟩
  ·simp only
   rw[bC,bI (g:=eW p n m 0) fun c _=>by unfold eW;rw[Lp.S];split<;>rfl]
  ·simp[SG.all];grind
 have aB1: ∀x,x∈SG.all ⟨gT,gR,gB,gC,[]⟩→bl x=none:=by simp[SG.all,hbT,hgR,hgB,cbl]
 refine aI (fun q:Kk=> [(1,.ptr p.v),(3,.loc gT 4 0 0),(5,.int .i64 q.i)]) (fun q=>q.b) (fun q=>q.i≤m∧SS q.b q.g ⟨q.i,N+1,N,eQ p n m,eW p n m q.i,fun q=>n+q⟩∧q.g.T=gT∧(∀x,x∈q.g.all→bl x=none)∧Sub bl q.b) (fun q=>m - q.i) _ ⟨0,⟨gT,gR,gB,gC,[]⟩,b⟩ ⟨Nat.zero_le _,hS0,rfl,aB1,hsb⟩ ⟨rfl,by simp,Sub.refl _⟩ ?_
 clear hS0 aB1 hsb Tk cbl cB cR cT bC bB bR bT wj hj cnn nTR
 rintro⟨i,⟨gT',gR',gB',gC',ids⟩,b'⟩ ⟨hi,hS,e1,hal,hsb⟩
 simp only at hi hS e1 hsb
 subst e1
 have hal: ∀x,x∈SG.all ⟨gT',gR',gB',gC',ids⟩→bl x=none:=hal
 have wi:IntKind.i64.wrap ((i:Int)+1)=(i:Int)+1:=i64_in (by omega) (by omega)
 refine aM ?_
 refine aC ?_
 simp[Pg.v,h.rows]
 refine⟨fun him=> ?_,fun him=> ?_⟩
 ·refine aM (aR ?_)
  refine aD ?_
  simp
  refine fH (fun _:Unit=> [(1,.ptr p.v),(3,.loc gT' 4 0 0),(5,.int .i64 i),(6,.int .i64 (sgB p i))]) (fun _=>b') (fun _=>True) 152 ?_ ?_
  ·refine aC ?_
   simp[Pg.v,h.b,him]
   refine⟨fun cL=> ?_,fun cL=> ?_⟩
   ·simp[aH]
    exact⟨rfl,by simp[Pg.v,h.b,h.rows,sgB,cL],Sub.refl _⟩
   ·simp[aH]
    exact⟨rfl,by simp[Pg.v,h.b,h.rows,sgB,cL],Sub.refl _⟩
  rintro⟨⟩ -
  obtain⟨sg,hsg⟩: ∃x,sgB p i=x:=⟨_,rfl⟩
  have sg1:sg.natAbs=1:=by rw[←hsg];unfold sgB;split<;>rfl
  rw[hsg]
  have hpA: ∀c,(sg*pA p n i c).natAbs≤1000:=fun c=>by rw[Int.natAbs_mul,sg1,Nat.one_mul];exact kZ h.am _
  have hpB:(sg*pB p i).natAbs≤1000:=by rw[Int.natAbs_mul,sg1,Nat.one_mul];exact kZ h.bm _
  refine aD ?_
  simp
  intro g7 hg7 hb7
  have hW0:WOk b' (eQ p n m i) ⟨0,g7,upd b' g7 (some ⟨3,[]⟩)⟩:=⟨by simp[rqs],hb7,hg7,fun x y hx=>by simp only;rw[aG _ _ _ _ (fun e=>by rw[e,hb7] at hx;cases hx)];exact hx⟩
  have heq: ∀c,eQ p n m i c=((eZ p n m i c:Int):Rat):=fun _=>rfl
  refine fH (fun W:Q2=> [(1,.ptr p.v),(3,.loc gT' 4 0 0),(5,.int .i64 i),(6,.int .i64 sg),(7,.lsl W.gw 3 0 n)]) (fun W=>W.b) (fun W=>W.k=n∧WOk b' (eQ p n m i) W) 152 ?_ ?_
  ·refine aC ?_
   simp[Pg.v]
   refine aE (Eo p n m i h him) ?_
   simp
   refine aI (fun W:Q2=> [(1,.ptr p.v),(3,.loc gT' 4 0 0),(5,.int .i64 i),(6,.int .i64 sg),(7,.lsl W.gw 3 0 W.k),(53,.sl (iv (lz n (pA p n i)))),(54,.int .i64 n),(55,.int .i64 W.k)]) (fun W=>W.b) (fun W=>W.k≤n∧WOk b' (eQ p n m i) W) (fun W=>n - W.k) _ ⟨0,g7,upd b' g7 (some ⟨3,[]⟩)⟩ ⟨Nat.zero_le _,hW0⟩ ⟨rfl,by simp[Pg.v],Sub.refl _⟩ ?_
   rintro⟨k,gw,bw⟩ ⟨hk,hW⟩
   simp only at hk
   have wk:IntKind.i64.wrap ((k:Int)+1)=(k:Int)+1:=i64_in (by omega) (by omega)
   have wa: ∀c,IntKind.i64.wrap (sg*pA p n i c)=sg*pA p n i c:=fun c=>i64_in (by have:=hpA c;omega) (by have:=hpA c;omega)
   have hbw:=hW.blk
   simp only at hbw
   refine aC ?_
   simp
   refine⟨fun hkn=> ?_,fun hkn=> ?_⟩
   ·have hez:eZ p n m i k=sg*pA p n i k:=by unfold eZ;rw[if_pos hkn,hsg]
    have hR0:=eG (sg*pA p n i k) (by have:=hpA k;omega)
    rw[←hez,←heq] at hR0
    simp[hkn,wa]
    rw[←hez]
    refine aE hR0 ?_
    simp[RT.c]
    intro g4 hg4 hb4
    have n4w:g4≠gw:=fun e=>by rw[e,hbw] at hb4;cases hb4
    have tkw:(rqs k (eQ p n m i)).take k=rqs k (eQ p n m i):=List.take_of_length_le (by simp)
    simp[n4w,Ne.symm n4w,appV,elsV,Int.not_lt.2 hg4,hbw,tkw]
    have hsn:rqs k (eQ p n m i)++ [[V.bool (rq (eQ p n m i k)).neg,.sl (iv (rq (eQ p n m i k)).m),.sl (iv (rq (eQ p n m i k)).d)]]=rqs (k+1) (eQ p n m i):=by rw[jG];rfl
    rw[hsn]
    refine⟨by omega,fun gN hgN hbN=> ?_⟩
    simp[wk,aB]
    refine⟨⟨k+1,gN,upd (rem bw gw) gN (some ⟨3,rqs (k+1) (eQ p n m i)⟩)⟩,⟨by simp only;omega,hW.snoc hb4 hgN hbN⟩,by simp only;omega,rfl,by simp[Pg.v],wW hb4 (fun e=>(hbN e).1) n4w⟩
   ·have hke:k=n:=by omega
    subst hke
    simp[aH]
    exact⟨⟨k,gw,bw⟩,⟨rfl,hW⟩,rfl,by simp[Pg.v],Sub.refl _⟩
  rintro⟨k,gw,bw⟩ ⟨hk,hW⟩
  simp only at hk
  have hk:=hk.symm
  subst hk
  clear hW0
  have hfr: ∀ {w1:Nat} {gw1:Int} {bw1:Int→Option Blk},WOk b' (eQ p n m i) ⟨w1,gw1,bw1⟩→bw1 gw1=some ⟨3,rqs w1 (eQ p n m i)⟩:=fun h=>h.blk
  refine fH (fun W:Q2=> [(1,.ptr p.v),(3,.loc gT' 4 0 0),(5,.int .i64 i),(6,.int .i64 sg),(7,.lsl W.gw 3 0 N)]) (fun W=>W.b) (fun W=>W.k=N∧WOk b' (eQ p n m i) W) 152 ?_ ?_
  ·refine aC ?_
   simp
   refine aI (fun W:Q2=> [(1,.ptr p.v),(3,.loc gT' 4 0 0),(5,.int .i64 i),(6,.int .i64 sg),(7,.lsl W.gw 3 0 (n+W.k)),(10,.int .i64 W.k)]) (fun W=>W.b) (fun W=>W.k≤m∧WOk b' (eQ p n m i) ⟨n+W.k,W.gw,W.b⟩) (fun W=>m - W.k) _ ⟨0,gw,bw⟩ ⟨Nat.zero_le _,hW⟩ ⟨rfl,by simp[Pg.v],Sub.refl _⟩ ?_
   clear hW
   rintro⟨k,gw,bw⟩ ⟨hk,hW⟩
   simp only at hk hW
   have wk:IntKind.i64.wrap ((k:Int)+1)=(k:Int)+1:=i64_in (by omega) (by omega)
   have hbw:=hfr hW
   refine aM ?_
   refine aC ?_
   simp[Pg.v,h.rows]
   refine⟨fun hkm=> ?_,fun hkm=> ?_⟩
   ·refine aM (aR ?_)
    refine aD ?_
    simp
    have hez:eZ p n m i (n+k)=if k=i then 1 else 0:=by
     unfold eZ
     rw[if_neg (by omega),if_neg (by omega)]
     by_cases e:k=i
     ·rw[if_pos e,if_pos (by omega)]
     ·rw[if_neg e,if_neg (by omega)]
    have hR0:=eG (eZ p n m i (n+k)) (by rw[hez];split<;>decide)
    rw[←heq] at hR0
    refine fH (fun _:Unit=> [(1,.ptr p.v),(3,.loc gT' 4 0 0),(5,.int .i64 i),(6,.int .i64 sg),(7,.lsl gw 3 0 (n+k)),(10,.int .i64 k),(11,.int .i64 (eZ p n m i (n+k)))]) (fun _=>bw) (fun _=>True) 152 ?_ ?_
    ·refine aC ?_
     simp
     refine⟨fun e=> ?_,fun e=> ?_⟩
     ·have ez1:eZ p n m i (n+k)=1:=by rw[hez,if_pos (show k=i by omega)]
      simp[aH]
      exact⟨rfl,by simp[Pg.v,h.rows,ez1],Sub.refl _⟩
     ·have ez1:eZ p n m i (n+k)=0:=by rw[hez,if_neg (show ¬ k=i by omega)]
      simp[aH]
      exact⟨rfl,by simp[Pg.v,h.rows,ez1],Sub.refl _⟩
    rintro⟨⟩ -
    obtain⟨w1,hw1⟩: ∃w1,n+k=w1:=⟨_,rfl⟩
    rw[hw1] at hR0 hbw hW
    rw[hw1]
    have hw2:n+(k+1)=w1+1:=by omega
    refine aC ?_
    simp
    refine aE hR0 ?_
    simp[RT.c]
    intro g4 hg4 hb4
    have n4w:g4≠gw:=fun e=>by rw[e,hbw] at hb4;cases hb4
    have tkw:(rqs w1 (eQ p n m i)).take w1=rqs w1 (eQ p n m i):=List.take_of_length_le (by simp)
    simp[n4w,Ne.symm n4w,appV,elsV,Int.not_lt.2 hg4,hbw,tkw]
    have hsn:rqs w1 (eQ p n m i)++ [[V.bool (rq (eQ p n m i w1)).neg,.sl (iv (rq (eQ p n m i w1)).m),.sl (iv (rq (eQ p n m i w1)).d)]]=rqs (w1+1) (eQ p n m i):=by rw[jG];rfl
    rw[hsn]
    refine⟨by omega,fun gN hgN hbN=> ?_⟩
    refine aC ?_
    simp[wk,aB]
    refine⟨⟨k+1,gN,upd (rem bw gw) gN (some ⟨3,rqs (w1+1) (eQ p n m i)⟩)⟩,⟨by simp only;omega,by simp only;rw[hw2];exact hW.snoc hb4 hgN hbN⟩,by simp only;omega,rfl,by simp[Pg.v,h.rows,hw2],wW hb4 (fun e=>(hbN e).1) n4w⟩
   ·have hke:m=k:=by omega
    rw[hke] at hN
    simp[aH]
    exact⟨⟨N,gw,bw⟩,⟨rfl,by rw[←hN];exact hW⟩,rfl,by simp[Pg.v,h.rows,hN],Sub.refl _⟩
  clear hW
  rintro⟨k,gw,bw⟩ ⟨hk,hW⟩
  simp only at hk
  have hk:=hk.symm
  subst hk
  have wB:IntKind.i64.wrap (sg*pB p i)=sg*pB p i:=i64_in (by omega) (by omega)
  have hez:eZ p n m i N=sg*pB p i:=by unfold eZ;rw[if_neg (by omega),if_pos hN.symm,hsg]
  have hR0:=eG (sg*pB p i) (by omega)
  rw[←hez,←heq] at hR0
  have hbw:=hfr hW
  refine aD ?_
  simp[Pg.v,h.b,him,wB]
  rw[←hez]
  refine aE hR0 ?_
  simp[RT.c]
  intro g4 hg4 hb4
  have n4w:g4≠gw:=fun e=>by rw[e,hbw] at hb4;cases hb4
  have tkw:(rqs N (eQ p n m i)).take N=rqs N (eQ p n m i):=List.take_of_length_le (by simp)
  simp[n4w,Ne.symm n4w,appV,elsV,Int.not_lt.2 hg4,hbw,tkw]
  have hsn:rqs N (eQ p n m i)++ [[V.bool (rq (eQ p n m i N)).neg,.sl (iv (rq (eQ p n m i N)).m),.sl (iv (rq (eQ p n m i N)).d)]]=rqs (N+1) (eQ p n m i):=by rw[jG];rfl
  rw[hsn]
  refine⟨by omega,fun gN hgN hbN=> ?_⟩
  obtain⟨N1,hN1⟩: ∃N1,N+1=N1:=⟨_,rfl⟩
  have hW2:=hW.snoc hb4 hgN hbN
  rw[hN1] at hW2
  obtain⟨bx,hbx⟩: ∃bx,bx=upd (rem bw gw) gN (some ⟨3,rqs N1 (eQ p n m i)⟩):=⟨_,rfl⟩
  rw[←hbx] at hW2
  refine dI [(1,.ptr p.v),(3,.loc gT' 4 0 0),(5,.int .i64 i),(7,.lsl gN 3 0 N1)] 152 bx ⟨rfl,by simp[Pg.v,h.b,hN1],by rw[hbx,hN1];exact wW hb4 (fun e=>(hbN e).1) n4w⟩ ?_
  clear hbx hW hbN hgN hsn tkw n4w hb4 hg4 hbw
  clear g4
  have hSx:SS bx ⟨gT',gR',gB',gC',ids⟩ ⟨i,N+1,N,eQ p n m,eW p n m i,fun q=>n+q⟩:=hS.cW fun x y _ hx=>hW2.sub x y hx
  have xw:bx gN=some ⟨3,rqs N1 (eQ p n m i)⟩:=hW2.blk
  have xT:bx gT'=_:=hSx.hd
  have xR:bx gR'=_:=hSx.top
  have xB:bx gB'=_:=hSx.ba
  have xC:bx gC'=_:=hSx.cst
  simp only[hN1] at xT xR xB xC
  have nd:=hS.nd
  simp only[SG.all,List.nodup_cons,List.mem_cons,not_or] at nd
  obtain⟨⟨nTR,nTB,nTC,nTi⟩,⟨nRB,nRC,nRi⟩,⟨nBC,nBi⟩,nCi,nds⟩:=nd
  have hin: ∀x,x∈SG.all ⟨gT',gR',gB',gC',ids⟩→ ∃y,b' x=some y:=fun x hx=>by
   simp only[SG.all,List.mem_cons] at hx
   rcases hx with rfl | rfl | rfl | rfl | hx
   ·exact⟨_,hS.hd⟩
   ·exact⟨_,hS.top⟩
   ·exact⟨_,hS.ba⟩
   ·exact⟨_,hS.cst⟩
   ·obtain⟨q,hq⟩:=List.mem_iff_getElem?.1 hx
    exact⟨_,hS.row q x hq⟩
  have Q7:gN∉SG.all ⟨gT',gR',gB',gC',ids⟩:=fun hm2=>by
   obtain⟨y,hy⟩:=hin gN hm2
   have:=hW2.new
   simp only at this
   rw[this] at hy;cases hy
  simp only[SG.all,List.mem_cons,not_or] at Q7
  obtain⟨wT,wR,wB',wC,wI⟩:=Q7
  refine fH (fun _:Unit=> [(1,.ptr p.v),(3,.loc gT' 4 0 0),(5,.int .i64 i),(7,.lsl gN 3 0 N1)]) (fun _=>upd bx gC' (some ⟨3,rqs N1 (eW p n m (i+1))⟩)) (fun _=>True) 152 ?_ ?_
  ·refine aC ?_
   simp
   refine aI (fun j:Nat=> [(1,.ptr p.v),(3,.loc gT' 4 0 0),(5,.int .i64 i),(7,.lsl gN 3 0 N1),(93,.int .i64 N1),(94,.int .i64 j)]) (fun j=>upd bx gC' (some ⟨3,rqs N1 fun c=>if c<j then eW p n m (i+1) c else eW p n m i c⟩)) (fun j=>j≤N1) (fun j=>N1 - j) _ 0 (Nat.zero_le _) ⟨rfl,by simp[Pg.v],sub_eq (by funext x;simp only[aA];split;rename_i e;rw[e,xC];simp;rfl)⟩ ?_
   intro j hj
   have wj:IntKind.i64.wrap ((j:Int)+1)=(j:Int)+1:=i64_in (by omega) (by omega)
   refine aD ?_
   simp
   refine aD ?_
   simp
   refine⟨fun hj1=> ?_,fun hj1=> ?_⟩
   ·have Tl:(j:Int)<N1:=by omega
    refine aM (aR ?_)
    refine aD ?_
    simp
    refine aM ?_
    refine bP [(1,.ptr p.v),(3,.loc gT' 4 0 0),(5,.int .i64 i),(7,.lsl gN 3 0 N1),(93,.int .i64 N1),(94,.int .i64 j),(12,.int .i64 j)] _ (upd bx gC' (some ⟨3,rqs N1 fun c=>if c<j then eW p n m (i+1) c else eW p n m i c⟩)) 108 (.bool (decide (j<n∨j=N))) ⟨rfl,by simp[Pg.v],Sub.refl _⟩ rfl ?_ ?_
    ·simp[Pg.v,h.aY,nTC,xT]
     by_cases e:j<n
     ·simp[e]
      intro h9;omega
     ·simp[e]
      intro _
      by_cases e2:j=N
      ·simp[e2]
      ·have e3: ¬ (j:Int)=N:=by omega
       simp[e2,e3]
    simp
    have aRB: ∀c,(if c<j then eW p n m (i+1) c else eW p n m i c)=if c<j then eW p n m (i+1) c else eW p n m i c:=fun _=>rfl
    refine aC ?_
    simp
    refine⟨fun aCH=> ?_,fun hno hno2=> ?_⟩
    ·have Qo:j<n∨j=n+m:=by omega
     have lA:=A0 (some (eW p n m i j)) (some (eQ p n m i j)) (okS (C1 h hi j)) (okS (fits_int (by have:=Jy h i j;omega)))
     rw[G8 (by rw[←R5 Qo];exact C1 h (by omega) j),←R5 Qo] at lA
     have pG:(rqs N1 fun c=>if c<j then eW p n m (i+1) c else eW p n m i c).set j (ro (some (eW p n m (i+1) j))).c=rqs N1 fun c=>if c<j+1 then eW p n m (i+1) c else eW p n m i c:=by
      rw[uU _ _ hj1]
      exact bI fun c _=>by
       by_cases e:c=j
       ·subst e;rw[if_pos rfl,if_pos (by omega)]
       ·rw[if_neg e]
        by_cases e2:c<j
        ·rw[if_pos e2,if_pos (by omega)]
        ·rw[if_neg e2,if_neg (by omega)]
     have l3: ∀q:Rat,(rq q).c.length=3:=fun _=>rfl
     have t3: ∀q:Rat,(rq q).c.take 3=(rq q).c:=fun _=>rfl
     refine eP aN [0,1,2,3,4,5,6,7,8,9,10,11,12,13,14,15,16,17] 1 18 (by kernel_rfl) ?_
     simp[nTC,wC,xT,xw,hj1,Tl,l3,t3]
     refine aP lA ?_
     simp[hj1,Tl]
     refine eV (i:=18) (by kernel_rfl) rfl rfl rfl ?_
     generalize hy:eW p n m (i+1) j=y at pG
     simp[hj1,Tl,RT.c]
     refine Dy ?_
     simp
     refine aC ?_
     simp[wj,aB]
     refine⟨j+1,by omega,by omega,rfl,by simp[Pg.v],?_⟩
     rw[←pG]
     intro z b hz
     simp only[aA,RT.c,mI] at hz ⊢
     grind
    ·have aMM: ¬ (j<n∨j=n+m):=by omega
     refine aC ?_
     simp[wj,aB]
     refine⟨j+1,by omega,by omega,rfl,by simp[Pg.v],sub_eq ?_⟩
     rw[bI (f:=fun c=>if c<j+1 then eW p n m (i+1) c else eW p n m i c) (g:=fun c=>if c<j then eW p n m (i+1) c else eW p n m i c) fun c _=>by
      by_cases e:c=j
      ·subst e;rw[if_pos (by omega),if_neg (by omega)];exact Mr aMM
      ·by_cases e2:c<j
       ·rw[if_pos e2,if_pos (by omega)]
       ·rw[if_neg e2,if_neg (by omega)]]
   ·have hje:j=N1:=by omega
    subst hje
    simp[aH]
    refine⟨rfl,by simp[Pg.v],sub_eq ?_⟩
    rw[bI fun c hc=>by rw[if_pos hc]]
  rintro⟨⟩ -
  obtain⟨by',hby⟩: ∃by',by'=upd bx gC' (some ⟨3,rqs N1 (eW p n m (i+1))⟩):=⟨_,rfl⟩
  rw[←hby]
  have hSy:SS by' ⟨gT',gR',gB',gC',ids⟩ ⟨i,N+1,N,eQ p n m,eW p n m (i+1),fun q=>n+q⟩:=by
   have:=hSx.Uy (eW p n m (i+1))
   simp only[hN1] at this
   rw[hby,hN1];exact this
  have yT:by' gT'=_:=hSy.hd
  have yR:by' gR'=_:=hSy.top
  have yB:by' gB'=_:=hSy.ba
  have yC:by' gC'=_:=hSy.cst
  have yw:by' gN=some ⟨3,rqs N1 (eQ p n m i)⟩:=by rw[hby,aG _ _ _ _ wC];exact xw
  have yx: ∀x,x≠gC'→by' x=bx x:=fun x hx=>by rw[hby,aG _ _ _ _ hx]
  simp only[hN1] at yT yR yB yC
  have hil:=hS.len
  simp only at hil
  clear hby
  have Cs: ∀x,by' x=none→x≠gT'∧x≠gR'∧x≠gB'∧x≠gC'∧x≠gN∧x∉ids:=fun x hx=>by
   refine⟨fun e=> ?_,fun e=> ?_,fun e=> ?_,fun e=> ?_,fun e=> ?_,fun e=> ?_⟩
   ·rw[e,yT] at hx;cases hx
   ·rw[e,yR] at hx;cases hx
   ·rw[e,yB] at hx;cases hx
   ·rw[e,yC] at hx;cases hx
   ·rw[e,yw] at hx;cases hx
   ·obtain⟨q,hq⟩:=List.mem_iff_getElem?.1 e
    rw[hSy.row q x hq] at hx;cases hx
  refine aD ?_
  simp[yT,yR,appV,elsV,hil]
  intro g4 hg4 hb4
  obtain⟨n4T,n4R,n4B,n4C,n4w,n4i⟩:=Cs g4 hb4
  have tk:(ids.map fun x=> [V.lsl x 3 0 N1]).take i=ids.map fun x=> [V.lsl x 3 0 N1]:=List.take_of_length_le (by simp[hil])
  simp[Ne.symm n4T,Ne.symm n4R,n4T,n4R,Int.not_lt.2 hg4,yR,hil,tk]
  refine⟨by omega,fun gQ hgQ hbQ=> ?_⟩
  have nQ:gQ≠gT'∧gQ≠gB'∧gQ≠gC'∧gQ≠gN∧gQ∉ids∧gQ≠g4:=by
   by_cases e:gQ=gR'
   ·subst e
    exact⟨Ne.symm nTR,nRB,nRC,Ne.symm wR,nRi,Ne.symm n4R⟩
   ·obtain⟨q1,q2⟩:=hbQ e
    obtain⟨w1,w2,w3,w4,w5,w6⟩:=Cs gQ q2
    exact⟨w1,w3,w4,w5,w6,q1⟩
  obtain⟨nQT,nQB,nQC,nQw,nQi,nQ4⟩:=nQ
  simp[Ne.symm nQT,nQT,Ne.symm n4T,nTR,yT]
  obtain⟨b3,hb3⟩: ∃b3,b3=upd (upd (rem by' gR') gQ (some ⟨1,(ids++ [gN]).map fun x=> [.lsl x 3 0 N1]⟩)) gT' (some ⟨4,[[.int .i64 N,.lsl gQ 1 0 (i+1),.lsl gB' 1 0 i,.lsl gC' 3 0 N1]]⟩):=⟨_,rfl⟩
  refine dI [(1,.ptr p.v),(3,.loc gT' 4 0 0),(5,.int .i64 i)] 152 b3 ⟨rfl,by simp[Pg.v],?_⟩ ?_
  ·rw[hb3]
   intro z y hz
   simp only[aA,aF] at hz ⊢
   grind
  have b3N:b3 gQ=some ⟨1,(ids++ [gN]).map fun x=> [.lsl x 3 0 N1]⟩:=by rw[hb3];simp[nQT]
  have b3T:b3 gT'=some ⟨4,[[.int .i64 N,.lsl gQ 1 0 (i+1),.lsl gB' 1 0 i,.lsl gC' 3 0 N1]]⟩:=by rw[hb3];simp
  have b3x: ∀x,x≠gT'→x≠gQ→x≠gR'→b3 x=by' x:=fun x x1 x2 x3=>by rw[hb3,aG _ _ _ _ x1,aG _ _ _ _ x2,aF,if_neg x3]
  have b3B:=b3x gB' (Ne.symm nTB) (Ne.symm nQB) (Ne.symm nRB)
  rw[yB] at b3B
  clear hb3
  have wni:IntKind.i64.wrap ((n:Int)+(i:Int))=((n+i:Nat):Int):=by rw[i64_in (by omega) (by omega)];simp
  obtain⟨ni,hni⟩: ∃x,n+i=x:=⟨_,rfl⟩
  rw[hni] at wni
  refine cQ aN (rem b3 gB') (dF b3 gB') [0,1,2,3,4,5,6,7,8] 5 13 (by kernel_rfl) ?_
  simp[nTB,b3T,Pg.v,h.aY,wni]
  refine Dq 9 false ?_
  simp
  intro g5 hg5 hb5
  have n5:g5≠gT'∧g5≠gQ∧g5≠gB':=⟨fun e=>(by rw[e,b3T] at hb5;cases hb5),fun e=>(by rw[e,b3N] at hb5;cases hb5),fun e=>(by rw[e,b3B] at hb5;cases hb5)⟩
  obtain⟨n5T,n5Q,n5B⟩:=n5
  have Q5: ∀X,Sub (rem b3 gB') (upd b3 g5 X):=fun X z y hz=>by
   rw[aF] at hz
   rw[aA]
   grind
  refine⟨Q5 _,Dq 10 false ?_⟩
  have tkB:(iv (lb i fun q=>n+q)).take i=iv (lb i fun q=>n+q):=List.take_of_length_le (by simp)
  simp[n5B,Ne.symm n5B,appV,elsV,Int.not_lt.2 hg5,b3B,tkB]
  have hlb:iv (lb i fun q=>n+q)++ [[.int .i64 ni]]=iv (lb (i+1) fun q=>n+q):=by rw[F7,aT,hni];rfl
  rw[hlb]
  refine⟨by omega,fun gM hgM hbM=> ?_⟩
  have nM:gM≠gT'∧gM≠gQ∧gM≠gC'∧gM≠gN∧gM∉ids∧gM≠g5:=by
   by_cases e:gM=gB'
   ·subst e
    exact⟨Ne.symm nTB,Ne.symm nQB,nBC,Ne.symm wB',nBi,Ne.symm n5B⟩
   ·obtain⟨q1,q2⟩:=hbM e
    have q3:gM≠gT':=fun e2=>by rw[e2,b3T] at q2;cases q2
    have q4:gM≠gQ:=fun e2=>by rw[e2,b3N] at q2;cases q2
    by_cases e3:gM=gR'
    ·subst e3
     exact⟨q3,q4,nRC,Ne.symm wR,nRi,q1⟩
    ·rw[b3x gM q3 q4 e3] at q2
     obtain⟨w1,w2,w3,w4,w5,w6⟩:=Cs gM q2
     exact⟨q3,q4,w4,w5,w6,q1⟩
  obtain⟨nMT,nMQ,nMC,nMw,nMi,nM5⟩:=nM
  have kI: ∀X Y,Sub (rem b3 gB') (upd (rem (upd b3 g5 X) gB') gM Y):=fun X Y z y hz=>by
   rw[aF] at hz
   rw[aA,aF,aA]
   grind
  have jP: ∀X Y Z,Sub (upd (upd (rem b3 gB') gM Y) gT' Z) (upd (upd (rem (upd b3 g5 X) gB') gM Y) gT' Z):=fun X Y Z z y hz=>by
   simp only[aA,aF] at hz ⊢
   grind
  refine⟨kI _ _,Dq 11 false ?_⟩
  simp
  refine⟨kI _ _,Dq 12 false ?_⟩
  simp
  refine⟨kI _ _,Dq 13 true ?_⟩
  simp[Ne.symm nMT,nTB,n5T,Ne.symm n5T,b3T]
  refine Dd ?_
  simp
  refine aC ?_
  simp[wi,aB]
  obtain⟨b4,gV⟩: ∃b4,b4=upd (upd (rem b3 gB') gM (some ⟨1,iv (lb (i+1) fun q=>n+q)⟩)) gT' (some ⟨4,[[.int .i64 N,.lsl gQ 1 0 (i+1),.lsl gM 1 0 (i+1),.lsl gC' 3 0 N1]]⟩):=⟨_,rfl⟩
  have b4T:b4 gT'=some ⟨4,[[.int .i64 N,.lsl gQ 1 0 (i+1),.lsl gM 1 0 (i+1),.lsl gC' 3 0 N1]]⟩:=by rw[gV];simp
  have b4M:b4 gM=some ⟨1,iv (lb (i+1) fun q=>n+q)⟩:=by rw[gV];simp[nMT]
  have b4x: ∀x,x≠gT'→x≠gM→x≠gB'→b4 x=b3 x:=fun x x1 x2 x3=>by rw[gV,aG _ _ _ _ x1,aG _ _ _ _ x2,aF,if_neg x3]
  have b4o: ∀x,x≠gT'→x≠gM→x≠gB'→x≠gQ→x≠gR'→b4 x=by' x:=fun x x1 x2 x3 x4 x5=>by rw[b4x x x1 x2 x3,b3x x x1 x4 x5]
  have fr: ∀x,by' x=none→bl x=none:=fun x hx=>by
   cases hv:bl x with
   | none => rfl
   | some y =>
     have h5:=hsb x y hv
     have h6:=hW2.sub x y h5
     simp only at h6
     by_cases e:x=gC'
     ·rw[e,yC] at hx;cases hx
     ·rw[yx x e,h6] at hx;cases hx
  have blT:bl gT'=none:=hal gT' (by simp[SG.all])
  have blR:bl gR'=none:=hal gR' (by simp[SG.all])
  have blB:bl gB'=none:=hal gB' (by simp[SG.all])
  have blC:bl gC'=none:=hal gC' (by simp[SG.all])
  have blw:bl gN=none:=by
   cases hv:bl gN with
   | none => rfl
   | some y => have := hsb gN y hv; have h6 := hW2.new; simp only at h6; rw [h6] at this; cases this
  have blQ:bl gQ=none:=by
   by_cases e:gQ=gR'
   ·rw[e];exact blR
   ·exact fr gQ (hbQ e).2
  have blM:bl gM=none:=by
   by_cases e:gM=gB'
   ·rw[e];exact blB
   ·by_cases e3:gM=gR'
    ·rw[e3];exact blR
    ·have:=(hbM e).2
     rw[b3x gM nMT nMQ e3] at this;exact fr gM this
  have Hz:=hSy.snoc (b':=b4) gQ gM gN (by simp only;rw[hN1,b4x gQ nQT (Ne.symm nMQ) nQB,b3N]) (by exact b4M) (by simp only;rw[hN1,b4T])
   (by simp only;exact b4o gC' (Ne.symm nTC) (Ne.symm nMC) (Ne.symm nBC) (Ne.symm nQC) (Ne.symm nRC))
   (fun x hx=>by simp only at hx;exact b4o x (fun e=>nTi (e▸hx)) (fun e=>nMi (e▸hx)) (fun e=>nBi (e▸hx)) (fun e=>nQi (e▸hx)) (fun e=>nRi (e▸hx)))
   (by rw[hN1,b4o gN wT (Ne.symm nMw) wB' (Ne.symm nQw) wR,yw]) hW2.nn hgQ hgM (by
     simp only[SG.all,List.nodup_cons,List.mem_cons,not_or,List.mem_append,List.mem_singleton,List.nodup_append,List.not_mem_nil,or_false]
     refine⟨⟨Ne.symm nQT,Ne.symm nMT,nTC,nTi,Ne.symm wT⟩,⟨Ne.symm nMQ,nQC,nQi,nQw⟩,⟨nMC,nMi,nMw⟩,⟨nCi,Ne.symm wC⟩,nds,by simp,fun a ha c hc=> ?_⟩
     rw[hc];exact fun e=>wI (e▸ha))
  refine⟨⟨i+1,⟨gT',gQ,gM,gC',ids++ [gN]⟩,b4⟩,⟨by simp only;omega,Hz,rfl,fun x hx=> ?_,fun x y hx=> ?_⟩,by simp only;omega,rfl,by simp[Pg.v,h.aY,h.rows,h.b],by rw[gV];exact jP _ _ _⟩
  ·simp only[SG.all,List.mem_cons,List.mem_append,List.not_mem_nil,or_false] at hx
   rcases hx with rfl | rfl | rfl | rfl | hx | rfl
   ·exact blT
   ·exact blQ
   ·exact blM
   ·exact blC
   ·exact hal x (by simp[SG.all,hx])
   ·exact blw
  ·have nx: ∀z,bl z=none→x≠z:=fun z hz e=>by rw[e,hz] at hx;cases hx
   simp only
   rw[b4o x (nx _ blT) (nx _ blM) (nx _ blB) (nx _ blQ) (nx _ blR),yx x (nx _ blC)]
   exact hW2.sub x y (hsb x y hx)
 ·have hie:m=i:=by omega
  refine aC ?_
  simp
  rw[dQ]
  refine⟨[.loc gT' 4 0 0],by simp,hK b' ⟨gT',gR',gB',gC',ids⟩ ?_ hal hsb⟩
  unfold snV
  rw[←hie,←hN] at hS
  rw[show(List.range m).length=m by simp]
  refine hS.congr (fun q c hq hc=> ?_) (fun c hc=> ?_) fun q hq=> ?_
  ·rw[cZ hq]
   show eQ p n m q c=eQ p n m q _
   by_cases e:c<n+m
   ·rw[if_pos e]
   ·rw[if_neg e,show c=n+m by omega]
  ·rw[Nv h (by omega)]
   by_cases e:c<n+m
   ·rw[if_pos e]
   ·rw[if_neg e,show c=n+m by omega]
  ·rw[cZ hq];rfl
end Go.Proofs.YticmgmemnpcbbaaGreat.Vm

namespace Go.Proofs.YticmgmemnpcbbaaGreat.Lp
set_option linter.unusedSimpArgs false
set_option linter.unusedVariables false
noncomputable def opt (n m : Nat) (E : Nat → Nat → Rat) (b : Nat) (C : Nat → Rat) : Option (Option (Nat → Rat)) :=
 open Classical in
 if h: ∃x,rX n m E b C x then some (some fun c=>if c<n then h.choose c else 0)
 else if∃x,iV n m E b x then some none else none
theorem xQ {n m b:Nat} {E:Nat→Nat→Rat} {C x:Nat→Rat} (h:rX n m E b C x):opt n m E b C=some (some fun c=>if c<n then x c else 0):=by
 have he: ∃x,rX n m E b C x:=⟨x,h⟩
 unfold opt
 rw[dif_pos he]
 congr 2
 funext c
 split
 ·exact Db he.choose_spec h c (by assumption)
 ·rfl
theorem T5 {n m b:Nat} {E:Nat→Nat→Rat} {C:Nat→Rat} (h:Unb n m E b C) {x:Nat→Rat} (hx:iV n m E b x):opt n m E b C=some none:=by
 have he: ¬ ∃x,rX n m E b C x:=fun⟨x,hb⟩=>G2 h hb
 unfold opt
 rw[dif_neg he,if_pos ⟨x,hx⟩]
theorem L3 {n m b:Nat} {E:Nat→Nat→Rat} {C:Nat→Rat} (h: ∀x, ¬ iV n m E b x):opt n m E b C=none:=by
 have he: ¬ ∃x,rX n m E b C x:=fun⟨x,hb⟩=>h x hb.1
 unfold opt
 rw[dif_neg he,if_neg fun⟨x,hx⟩=>h x hx]
theorem Y8 {n m b:Nat} {E:Nat→Nat→Rat} {x y:Nat→Rat} (h:iV n m E b x) (e: ∀c,c<n→x c=y c):iV n m E b y:=
 ⟨fun c hc=>by rw[←e c hc];exact h.nn c hc,fun i hi=>by
   have:=h.sol i hi
   rw[←this]
   exact bE fun c hc=>by rw[e c hc]⟩
theorem C3 {n:Nat} {C x y:Nat→Rat} (e: ∀c,c<n→x c=y c):dot n C x=dot n C y:=bE fun c hc=>by rw[e c hc]
theorem Iv {n m b:Nat} {E:Nat→Nat→Rat} {C x:Nat→Rat} (h:opt n m E b C=some (some x)):rX n m E b C x:=by
 unfold opt at h
 split at h
 ·rename_i he
  cases h
  have hb:=he.choose_spec
  have e: ∀c,c<n→he.choose c=if c<n then he.choose c else 0:=fun c hc=>by rw[if_pos hc]
  refine⟨Y8 hb.1 e,fun y hy hp=>hb.2 y hy ?_⟩
  refine dP hp fun q hq=> ?_
  rw[C3 (C:=wl C q) e]
 ·split at h<;>cases h

def Den (L n:Nat) (x:Nat→Rat):Prop:= ∃v:Int,v≠0∧v.natAbs≤L∧ ∀c,c<n→ ∃a:Int,x c*v=a∧a.natAbs≤L
theorem Den.congr {L n:Nat} {x y:Nat→Rat} (h:Den L n x) (e: ∀c,c<n→x c=y c):Den L n y:=by
 obtain⟨v,h1,h2,h3⟩:=h
 exact⟨v,h1,h2,fun c hc=>by rw[←e c hc];exact h3 c hc⟩
theorem Den.sm {L n:Nat} {x:Nat→Rat} (h:Den L n x) {c:Nat} (hc:c<n):Lp.sm L (x c):=by
 obtain⟨v,h1,h2,h3⟩:=h
 obtain⟨a,ha,hal⟩:=h3 c hc
 exact⟨a,v,h1,ha,hal,h2⟩
theorem Tj {n m N K b:Nat} {E:Nat→Nat→Rat} {t:Tab} (h:TZ m N K E t) (hb:b<N):Den (lid K m) n (xb m b t):=by
 obtain⟨⟨v,hv⟩,hvl⟩:=h.kY
 have hne:=h.vol
 refine⟨v,fun e=>hne (by rw[hv,e];rfl),lB hv hvl,fun c _=> ?_⟩
 by_cases e: ∃i,i<m∧t.bs i=c
 ·obtain⟨i,hi,rfl⟩:=e
  rw[aGZ h.ti hi]
  obtain⟨⟨a,ha⟩,hal⟩:=h.entry hi hb
  exact⟨a,by rw[←hv,ha],lB ha hal⟩
 ·rw[Vc fun i hi e2=>e ⟨i,hi,e2⟩]
  exact⟨0,by grind,by simp⟩
theorem Den.sum {L n W:Nat} {x:Nat→Rat} (h:Den L n x) {C:Nat→Int} (hC: ∀c,c<n→(C c).natAbs≤W) (hW:1≤W): ∀k,k≤n→Lp.sm ((n+1)*(W*L)) (S k fun c=>(C c:Rat)*x c):=by
 obtain⟨v,h1,h2,h3⟩:=h
 have key: ∀k,k≤n→ ∃a:Int,(S k fun c=>(C c:Rat)*x c)*v=a∧a.natAbs≤k*(W*L):=by
  intro k
  induction k with
  | zero => intro _; exact ⟨0, by rw [S]; grind, by simp⟩
  | succ k ih =>
    intro hk
    obtain⟨a,ha,hal⟩:=ih (by omega)
    obtain⟨z,hz,hzl⟩:=h3 k (by omega)
    refine⟨a+C k*z,?_,?_⟩
    ·rw[S,Rat.intCast_add,Rat.intCast_mul,←ha,←hz];grind
    ·have e1:=Int.natAbs_add_le a (C k*z)
     have e2:(C k*z).natAbs≤W*L:=by rw[Int.natAbs_mul];exact Nat.mul_le_mul (hC k (by omega)) hzl
     rw[Nat.add_mul,Nat.one_mul];omega
 intro k hk
 obtain⟨a,ha,hal⟩:=key k hk
 refine⟨a,v,h1,ha,Nat.le_trans hal (Nat.mul_le_mul_right _ (by omega)),Nat.le_trans h2 ?_⟩
 have e1:1*L≤W*L:=Nat.mul_le_mul_right _ hW
 have e2:1*(W*L)≤(n+1)*(W*L):=Nat.mul_le_mul_right _ (by omega)
 omega
theorem runs {n m K:Nat} {E:Nat→Nat→Rat} (C:Nat→Rat) (h:Init n m K E):(∀x, ¬ iV n m E (n+m) x)∨
  ∃t rows,Inv n m (n+m) (n+m+1) K E rows t∧(∀i,i∈rows→t.bs i<n)∧nx n (n+m) rows (okL m n C) t=none:=by
 obtain⟨e,h1,h2,h3,h4⟩:=qJ (N':=n+m) (F:=fun c=>c<n) h (fun c hc=>by omega) (Nat.le_refl _) (fun c hc=>⟨by omega,hc⟩)
 generalize orb (nx (n+m) (n+m) (List.range m) (okW m (aZ n m) fun c=>c<n)) (jO n E) e=t at *
 by_cases hp:rc m (aZ n m) t (n+m)=0
 ·right
  have hk:=(kE (h4.kB hp) (by omega) m (Nat.le_refl _)).inv
  have R:rW n m (n+m) (n+1) n (n+m+1) (wl C) (fun c=>c<n) (bH n (kicks n t m) m) (okL m n C):=Ri (by omega) (by omega)
  obtain⟨e2,g1,g2,g3⟩:=R.ends hk
  exact⟨_,_,g3 e2 (Nat.le_refl _),R.low (fun c hc=>hc) g3 (fun i hi=>(lX.1 hi).2) e2 (Nat.le_refl _),g1⟩
 ·exact .inl fun x=>h4.no hp x
theorem answers {n m K:Nat} {E:Nat→Nat→Rat} (C:Nat→Rat) (h:Init n m K E):(opt n m E (n+m) C=none∧ ∀x, ¬ iV n m E (n+m) x)∨(opt n m E (n+m) C=some none∧Unb n m E (n+m) C∧ ∃x,iV n m E (n+m) x)∨
  ∃x,opt n m E (n+m) C=some (some x)∧rX n m E (n+m) C x∧Den (lid K m) n x∧ ∀c,n≤c→x c=0:=by
 rcases runs C h with g | ⟨t,rows,h1,h2,h3⟩
 ·exact .inl ⟨L3 g,g⟩
 ·have hf:iV n m E (n+m) (xb m (n+m) t):=rN h1.z.ti h1.nn (h1.zero h2)
  rcases yE h1 h2 h3 with ⟨_,hb⟩| ⟨_,hu⟩
  ·refine .inr (.inr ⟨_,xQ hb,Iv (xQ hb),(Tj (b:=n+m) h1.z (by omega)).congr fun c hc=>by rw[if_pos hc],fun c hc=>if_neg (by omega)⟩)
  ·exact .inr (.inl ⟨T5 hu hf,hu,_,hf⟩)
end Go.Proofs.YticmgmemnpcbbaaGreat.Lp

namespace Go.Proofs.YticmgmemnpcbbaaGreat.Vm
open Go Go.RowKit Go.Proofs
set_option linter.unusedSimpArgs false
set_option linter.unusedVariables false
structure aO1 (p : Pg) (n m : Nat) : Prop where
 a: ∀x,x∈p.a→x.natAbs≤100
 b: ∀x,x∈p.b→x.natAbs≤100
 c: ∀x,x∈p.c→x.natAbs≤100
 m:m≤20
 n:n≤40
noncomputable def zS (n m : Nat) (E : Nat → Nat → Rat) : Bool := open Classical in decide (∃ x, Lp.iV n m E (n + m) x)
theorem vQ {n m:Nat} {E:Nat→Nat→Rat} :zS n m E=true ↔ ∃x,Lp.iV n m E (n+m) x:=by unfold zS;simp
theorem qV (n m c:Nat):Lp.isInt (Lp.aZ n m c)∧ -((1000:Nat):Rat)≤Lp.aZ n m c∧Lp.aZ n m c≤((1000:Nat):Rat):=by
 unfold Lp.aZ
 split
 ·exact⟨⟨-1,rfl⟩,by decide,by decide⟩
 ·exact⟨⟨0,rfl⟩,by decide,by decide⟩
theorem Eh {bl:Int→Option Blk} {K:V→(Int→Option Blk)→Prop} (p:Pg) (n m:Nat) (h:PgN p n m) (g:SG) (hS:SS bl g (snV (List.range m) (n+m) (n+m) m (Lp.aZ n m) (Lp.jO n (eQ p n m))))
  (hK: ∀b' T r,Lp.mP n m (n+m+1) 1000 (eQ p n m) T→SS b' g (snV (List.range m) (n+m) (n+m) m (Lp.aZ n m) T)→(∀x y,bl x=some y→x∉g.all→b' x=some y)→K (.bool r) b'):
  cO Tryz.prog 190 [.loc g.T 4 0 0,.bool false] bl K:=by
 have hml:=h.ml
 have hnl:=h.nl
 obtain⟨e,h1,h2,h3,h4⟩:=Lp.qJ (F:=fun c=>c<n+m) (N':=n+m) h.init (fun c hc=>hc) (Nat.le_refl _) (fun c hc=>⟨by omega,by omega⟩)
 have hR:Hn n m (n+m) (eQ p n m) (List.range m) false (Lp.aZ n m) (Lp.okW m (Lp.aZ n m) fun c=>c<n+m):=by
  refine⟨hml,hnl,Nat.le_refl _,kD m,fun T _ i hi hn=>absurd (by simpa using hi) hn,fun c _=>qV n m c,fun T hI j hj hb hok=> ?_⟩
  obtain⟨q,hq,e1⟩:=hb
  have hq':q<m:=by simpa using hq
  have e2:=Lp.kP hI.z.ti (Lp.aZ n m) hq'
  simp only at e1
  rw[cZ hq'] at e1
  rw[e1] at e2
  have:=hok.2
  rw[e2] at this;exact absurd this (by decide)
 have hnx:Lp.nx (n+m) (n+m) (List.range m) (Lp.okW m (Lp.aZ n m) fun c=>c<n+m) (Lp.orb (Lp.nx (n+m) (n+m) (List.range m) (Lp.okW m (Lp.aZ n m) fun c=>c<n+m)) (Lp.jO n (eQ p n m)) e)=none:=by
  unfold Lp.nx at h1 ⊢
  rw[h1]
 refine l10Run_cp hR g (Lp.jO n (eQ p n m)) e (fun T hI j hj hnb=> ?_) hnx h2 h3 hS (fun b' _ hS' hx=>hK b' _ true h4 hS' hx) (fun b' k hk _ _=>absurd hk (by rw[h1];simp))
 have hV:=hR.view hI
 have hco:(snV (List.range m) (n+m) (n+m) m (Lp.aZ n m) T).co j=Lp.rc m (Lp.aZ n m) T j:=by
  show Lp.rc m (Lp.aZ n m) T (if j<n+m then j else n+m)=_
  rw[if_pos hj]
 have hfl:=H5 (snV (List.range m) (n+m) (n+m) m (Lp.aZ n m) T) j (show j<n+m+1 by omega) (bU (hV.tm.co j (show j<n+m+1 by omega)))
 refine⟨_,?_,hfl⟩
 rw[Lp.vT,hco]
 unfold Lp.okW
 exact⟨fun hp=>⟨hj,hp⟩,fun hp=>hp.2⟩
theorem mP.has {p:Pg} {n m:Nat} {T:Lp.Tab} (h:Lp.mP n m (n+m+1) 1000 (eQ p n m) T):(Lp.rc m (Lp.aZ n m) T (n+m)=0) ↔ zS n m (eQ p n m)=true:=by
 rw[vQ]
 constructor
 ·intro h0;exact⟨_,h.aHT h0⟩
 ·rintro⟨x,hx⟩
  exact Classical.byContradiction fun h0=>h.no h0 x hx
end Go.Proofs.YticmgmemnpcbbaaGreat.Vm

namespace Go.Proofs.YticmgmemnpcbbaaGreat.Lp
set_option linter.unusedSimpArgs false
set_option linter.unusedVariables false
def part (w:Nat→Rat) (t:Tab) (rw_:Nat→Nat) (i c:Nat):Rat:=w c - S i fun p=>t.X (rw_ p) c*w (t.bs (rw_ p))
theorem TZ.part {m N K W:Nat} {E:Nat→Nat→Rat} {t:Tab} (h:TZ m N K E t) {w:Nat→Rat} (hw: ∀c,c<N→isInt (w c)∧ -(W:Rat)≤w c∧w c≤W) {c:Nat} (hc:c<N) (hW:1≤W) {rw_:Nat→Nat} {i:Nat} (hi:i≤m) (hr: ∀p,p<i→rw_ p<m):Lp.sm ((m+1)*(W*lid K m)) (Lp.part w t rw_ i c):=by
 obtain⟨hvi,hvl⟩:=h.kY
 obtain⟨v,hv⟩:=hvi
 have hne:=h.vol
 have e:Lp.part w t rw_ i c*Lp.vol m E t=w c*Lp.vol m E t - S i fun p=>w (t.bs (rw_ p))*(t.X (rw_ p) c*Lp.vol m E t):=by
  unfold Lp.part
  rw[show(S i fun p=>w (t.bs (rw_ p))*(t.X (rw_ p) c*Lp.vol m E t))=(S i fun p=>t.X (rw_ p) c*w (t.bs (rw_ p)))*Lp.vol m E t by rw[←mY];exact bE fun i _=>by grind]
  grind
 have hint:isInt (Lp.part w t rw_ i c*Lp.vol m E t):=by
  rw[e]
  exact A9 (jW (hw c hc).1 h.kY.1) (uV fun p hp=>jW (hw _ (h.bs _ (hr p hp))).1 (h.entry (hr p hp) hc).1)
 have b1:=rP (hw c hc).2 hvl
 have b2:=Br (n:=i) (f:=fun p=>w (t.bs (rw_ p))*(t.X (rw_ p) c*Lp.vol m E t)) (B:=(W:Rat)*lid K m) fun p hp=>rP (hw _ (h.bs _ (hr p hp))).2 (h.entry (hr p hp) hc).2
 have hB:(((m+1)*(W*lid K m):Nat):Rat)=(m:Rat)*((W:Rat)*lid K m)+(W:Rat)*lid K m:=by
  rw[Rat.natCast_mul,Rat.natCast_mul,Rat.natCast_add]
  grind
 have hle:(i:Rat)*((W:Rat)*lid K m)≤(m:Rat)*((W:Rat)*lid K m):=by
  have:i*(W*lid K m)≤m*(W*lid K m):=Nat.mul_le_mul_right _ hi
  have:=Rat.natCast_le_natCast.2 this
  simp only[Rat.natCast_mul] at this
  exact this
 obtain⟨a,ha⟩:=hint
 refine⟨a,v,fun e0=>hne (by rw[hv,e0];rfl),by rw[←hv,ha],lB ha ?_,?_⟩
 ·rw[hB,e]
  grind
 ·have h1:=lB hv hvl
  have:lid K m≤(m+1)*(W*lid K m):=by
   calc lid K m=1*(1*lid K m):=by omega
    _≤(m+1)*(W*lid K m):=Nat.mul_le_mul (by omega) (Nat.mul_le_mul hW (Nat.le_refl _))
  omega
theorem X9 {m:Nat} {E:Nat→Nat→Rat} {t:Tab} (h:TI m E t) {w:Nat→Rat} {rw_:Nat→Nat} {i:Nat} (hi:rw_ i<m) (hr: ∀p,p<i→rw_ p<m) (hne: ∀p,p<i→rw_ p≠rw_ i):Lp.part w t rw_ i (t.bs (rw_ i))=w (t.bs (rw_ i)):=by
 unfold Lp.part
 rw[iD]
 ·grind
 ·intro p hp
  rw[h.unit _ _ (hr p hp) hi,if_neg (hne p hp)];grind
theorem Df (w:Nat→Rat) (t:Tab) (rw_:Nat→Nat) (i c:Nat):Lp.part w t rw_ (i+1) c=Lp.part w t rw_ i c - w (t.bs (rw_ i))*t.X (rw_ i) c:=by
 unfold Lp.part
 rw[S];grind
end Go.Proofs.YticmgmemnpcbbaaGreat.Lp

namespace Go.Proofs.YticmgmemnpcbbaaGreat.Vm
open Go Go.RowKit Go.Proofs
set_option linter.unusedSimpArgs false
set_option linter.unusedVariables false
theorem R8 {n0 m n:Nat} {E:Nat→Nat→Rat} {rows:List Nat} {w0:Nat→Rat} {T:Lp.Tab} (hml:m≤17) (hnl:n0+m≤100) (hnn:n≤n0+m) (hr:Rows m rows) (hw: ∀c,c<n0+m+1→Lp.isInt (w0 c)∧ -((1000:Nat):Rat)≤w0 c∧w0 c≤((1000:Nat):Rat)) (z:Lp.TZ m (n0+m+1) 1000 E T):Ol (snV rows n (n0+m) m w0 T):=by
 have hl:=hr.len
 refine⟨fun i c hi hc=> ?_,fun c hc=> ?_,?_,?_⟩
 ·have hi':i<rows.length:=hi
  have hin:=hr.lt (cH hi')
  exact Lp.jD (z.sm (c:=if c<n then c else n0+m) hin (by split<;>omega)) (qT hml)
 ·exact Lp.jD (z.rc hw (c:=if c<n then c else n0+m) (by split<;>omega) (by decide)) (sD hml)
 ·show n+1≤200;omega
 ·show rows.length≤100;omega
theorem Hq {w j:Nat} {f g:Nat→Rat} (hj:j≤w) (h: ∀c,c<j→f c=g c):(rqs w f).take j=rqs j g:=by
 unfold rqs
 rw[←List.map_take,List.take_range,Nat.min_eq_left hj]
 exact List.map_congr_left fun c hc=>by rw[h c (by simpa using hc)]
theorem oJ {L:List Nat} (r:Nat) {z:Nat} (h:z<L.length):atR (L++ [r]) z=atR L z:=by
 unfold atR
 rw[List.getD_eq_getElem?_getD,List.getD_eq_getElem?_getD,List.getElem?_append_left h]
theorem tO {L:List Nat} (r:Nat) {l:Nat} (h:L.length=l):atR (L++ [r]) l=r:=by
 unfold atR
 rw[List.getD_eq_getElem?_getD,List.getElem?_append_right (by omega),h,Nat.sub_self];rfl
theorem Lr {r:Nat} {f g:Nat→Nat} (h: ∀z,z<r→f z=g z):lb r f=lb r g:=List.map_congr_left fun c hc=>by rw[h c (by simpa using hc)]
structure aCP where
 i:Nat
 b:Int→Option Blk
structure Uu where
 j:Nat
 d:Bool
 b:Int→Option Blk
set_option maxHeartbeats 2000000 in
theorem H2 {bl:Int→Option Blk} {K:V→(Int→Option Blk)→Prop} (p:Pg) (n m:Nat) (h:PgN p n m) (g:SG) (T:Lp.Tab) (h4:Lp.mP n m (n+m+1) 1000 (eQ p n m) T) (hp:Lp.rc m (Lp.aZ n m) T (n+m)=0) (hS:SS bl g (snV (List.range m) (n+m) (n+m) m (Lp.aZ n m) T))
  (hK: ∀b' g',SS b' g' (snV (Lp.bH n (Lp.kicks n T m) m) n (n+m) m (wO (pC p)) (Lp.kicks n T m))→(∀x,x∈g'.all→bl x=none)→(∀x y,bl x=some y→x∉g.all→b' x=some y)→K (.loc g'.T 4 0 0) b'):
  cO Tryz.prog 201 [.agg p.v,.loc g.T 4 0 0] bl K:=by
 have hml:=h.ml
 have hnl:=h.nl
 have hkk:=Lp.kE (h4.kB hp) (show n≤n+m+1 by omega)
 have hrl:(List.range m).length=m:=by simp
 obtain⟨N,hN⟩: ∃N,n+m=N:=⟨_,rfl⟩
 refine cV Tryz.func201 rfl rfl (by rw[Tryz.ntmps201];simp) ?_
 rw[Tryz.ntmps201,Tryz.results201]
 refine aD ?_
 simp[Pg.v]
 intro g2 hg2 hb2
 refine cE 1 2 (.ptr p.v) bl (by intro z b hz;simp only[aA] at hz ⊢;grind) (by simp[frz,dropB,hb2,V.cl,Pg.v]) ?_
 have bT:bl g.T=some ⟨4,[[.int .i64 N,.lsl g.R 1 0 m,.lsl g.B 1 0 m,.lsl g.C 3 0 (N+1)]]⟩:=by
  have:=hS.hd
  simp only[snV,hrl] at this
  rw[←hN];exact this
 refine aM ?_
 refine aC ?_
 simp[bT]
 refine aI (fun q:aCP=> [(1,.loc g.T 4 0 0),(2,.ptr p.v),(18,.int .i64 m),(19,.int .i64 q.i)]) (fun q=>q.b) (fun q=>q.i≤m∧SS q.b g (snV (List.range m) (n+m) (n+m) m (Lp.aZ n m) (Lp.kicks n T q.i))∧ ∀x y,bl x=some y→x∉g.all→q.b x=some y) (fun q=>m - q.i) _ ⟨0,bl⟩ ⟨Nat.zero_le _,hS,fun _ _ hx _=>hx⟩ ⟨rfl,by simp[Pg.v],Sub.refl _⟩ ?_
 clear bT hS
 rintro⟨i,b⟩ ⟨hi,hSb,hfb⟩
 simp only at hi hSb hfb
 have wi:IntKind.i64.wrap ((i:Int)+1)=(i:Int)+1:=i64_in (by omega) (by omega)
 obtain⟨U,hU⟩: ∃U,Lp.kicks n T i=U:=⟨_,rfl⟩
 rw[hU] at hSb
 have hKi:=hkk i hi
 rw[hU] at hKi
 refine aD ?_
 simp
 refine aD ?_
 simp
 refine⟨fun him=> ?_,fun him=> ?_⟩
 ·have nD:Lp.kicks n T (i+1)=Lp.kB n U i:=by rw[Lp.kicks,hU]
  have hKn:=hkk (i+1) (by omega)
  rw[nD] at hKn
  refine aM (aR ?_)
  refine aD ?_
  simp
  refine aC ?_
  simp
  refine aI (fun q:Uu=> [(1,.loc g.T 4 0 0),(2,.ptr p.v),(18,.int .i64 m),(19,.int .i64 i),(5,.int .i64 i),(6,.int .i64 q.j)]) (fun q=>q.b) (fun q=>q.j≤n∧(∀x y,bl x=some y→x∉g.all→q.b x=some y)∧((q.d=false∧ ¬ U.bs i<n∧(∀c,c<q.j→ ¬ U.X i c≠0)∧SS q.b g (snV (List.range m) (n+m) (n+m) m (Lp.aZ n m) U))∨(q.d=true∧(Lp.kB n U i).bs i<n∧SS q.b g (snV (List.range m) (n+m) (n+m) m (Lp.aZ n m) (Lp.kB n U i))))) (fun q=>n - q.j) _ ⟨0,decide (U.bs i<n),b⟩ ⟨Nat.zero_le _,hfb,?_⟩ ⟨rfl,by simp[Pg.v],Sub.refl _⟩ ?_
  ·by_cases e:U.bs i<n
   ·have ek:Lp.kB n U i=U:=by unfold Lp.kB;rw[if_pos e]
    exact .inr ⟨by simp[e],by rw[ek];exact e,by rw[ek];exact hSb⟩
   ·exact .inl ⟨by simp[e],e,fun c hc=>by simp only at hc;omega,hSb⟩
  clear hSb hfb
  rintro⟨j,d,b⟩ ⟨hj,hfb,hst⟩
  simp only at hj hfb hst
  have wj:IntKind.i64.wrap ((j:Int)+1)=(j:Int)+1:=i64_in (by omega) (by omega)
  rcases hst with ⟨rfl,hnb,bO,hSb⟩| ⟨rfl,hkb,hSb⟩
  ·have bT:b g.T=some ⟨4,[[.int .i64 N,.lsl g.R 1 0 m,.lsl g.B 1 0 m,.lsl g.C 3 0 (N+1)]]⟩:=by
    have:=hSb.hd
    simp only[snV,hrl] at this
    rw[←hN];exact this
   have bB:b g.B=some ⟨1,iv (lb m fun q=>U.bs (atR (List.range m) q))⟩:=by
    have:=hSb.ba
    simp only[snV,hrl] at this
    exact this
   have S3:(i:Int)<m:=by omega
   have hge:n≤U.bs i:=by omega
   refine aM (aM ?_)
   refine sE aN (by kernel_rfl) [(1,.loc g.T 4 0 0),(2,.ptr p.v),(18,.int .i64 m),(19,.int .i64 i),(5,.int .i64 i),(6,.int .i64 j)] _ b 37 (.bool (decide (j<n))) ⟨rfl,by simp[Pg.v],Sub.refl _⟩ rfl ?_ ?_
   ·simp[Pg.v,h.aY]
    by_cases e:j<n
    ·simp[e,bT,bB,him,S3,cZ him,hge]
    ·simp[e]
   simp
   refine aC ?_
   simp
   refine⟨fun hjn=> ?_,fun hjn=> ?_⟩
   ·have hRt:SG.mk g.T g.R g.B g.C g.ids=g:=rfl
    obtain⟨gi,hgi,zA,xJ,nG⟩:=hSb.at i (show i<(List.range m).length by rw[hrl];exact him)
    obtain⟨zr,hzr⟩: ∃zr,(snV (List.range m) (n+m) (n+m) m (Lp.aZ n m) U).Z i=zr:=⟨_,rfl⟩
    have aGV:b gi=some ⟨3,rqs (N+1) zr⟩:=by rw[nG,←hzr,←hN];rfl
    have bR:b g.R=some ⟨1,g.ids.map fun x=> [.lsl x 3 0 (N+1)]⟩:=by
     have:=hSb.top
     simp only[snV] at this
     rw[←hN];exact this
    have hil:g.ids.length=m:=by have:=hSb.len;simp only[snV,hrl] at this;exact this
    have hgj: ∀h,g.ids[i]'h=gi:=fun h=>by rw[List.getElem?_eq_getElem h] at hgi;exact Option.some.inj hgi
    have hjN:j<N+1:=by omega
    have aNJ:(j:Int)<(N:Int)+1:=by omega
    have hzj:zr j=U.X i j:=by
     rw[←hzr]
     show U.X (atR (List.range m) i) (if j<n+m then j else n+m)=_
     rw[cZ him,if_pos (by omega)]
    have htm:=R8 hml hnl (Nat.le_refl (n+m)) (kD m) (fun c _=>qV n m c) hKi.z
    have hfz:fits (U.X i j):=by
     have:=htm.z i j (show i<(List.range m).length by rw[hrl];exact him) (show j<n+m+1 by omega)
     rw[hzr,hzj] at this
     exact bU this
    have l3: ∀q:Rat,(rq q).c.length=3:=fun _=>rfl
    have t3: ∀q:Rat,(rq q).c.take 3=(rq q).c:=fun _=>rfl
    refine aM (aR ?_)
    refine aM ?_
    refine aC ?_
    simp[bT,bR,him,S3,hil,hgj,aGV,hjN,aNJ,hzj,l3,t3]
    refine aE (fQ hfz) ?_
    simp
    by_cases hz:U.X i j=0
    ·refine aC ?_
     simp[hz]
     refine aC ?_
     simp[wj,aB]
     refine⟨⟨j+1,false,b⟩,⟨by simp only;omega,hfb,.inl ⟨rfl,hge,fun c hc=> ?_,hSb⟩⟩,by simp only;omega,rfl,by simp[Pg.v],Sub.refl _⟩
     by_cases e:c=j
     ·rw[e];exact hz
     ·exact Classical.not_not.1 (bO c (by simp only at hc;omega))
    ·have ek:Lp.kB n U i=Lp.piv U i j:=by unfold Lp.kB;rw[if_neg hnb,Lp.dJ.2 ⟨hjn,hz,bO⟩]
     have hat:=cZ him
     obtain⟨p1,p2,p3⟩:=Bd (n0:=n) (n:=n+m) (w0:=Lp.aZ n m) (T:=U) (kD m) (pr:=i) (k:=j) (by rw[hrl];exact him) (by omega) (by rw[hat];exact hz)
     rw[hat] at p1 p2 p3
     have Rp:=R8 hml hnl (Nat.le_refl (n+m)) (kD m) (fun c _=>qV n m c) hKn.z
     rw[ek] at Rp
     refine aC ?_
     simp[hz]
     refine tV g (snV (List.range m) (n+m) (n+m) m (Lp.aZ n m) U) i j hSb (show i<(List.range m).length by rw[hrl];exact him) (show j<n+m+1 by omega) htm (by rw[hzr,hzj];exact hz) ⟨fun a c ha hc=> ?_,fun c hc=> ?_,htm.w,htm.r⟩ fun b' hS' hx'=> ?_
     ·show mR (zpv _ i j a c)
      rw[p1 a c ha];exact Rp.z a c ha hc
     ·show mR (cpv _ _ i j c)
      rw[p2 c];exact Rp.co c hc
     simp
     refine aC ?_
     simp[wj,aB]
     refine⟨⟨j+1,true,b'⟩,⟨by simp only;omega,fun x y g1 g2=>hx' x y (hfb x y g1 g2) g2,.inr ⟨rfl,by rw[ek,Lp.dD];exact hjn,?_⟩⟩,by simp only;omega,rfl,by simp[Pg.v],Sub.refl _⟩
     rw[ek]
     exact hS'.congr (fun q c hq _=>p1 q c hq) (fun c _=>p2 c) (fun q hq=>p3 q hq)
   ·have hje:j=n:=by omega
    have ek:Lp.kB n U i=U:=by
     unfold Lp.kB
     rw[if_neg hnb,Lp.fG.2 fun c hc=>bO c (by omega)]
    refine aC ?_
    simp[wi,aB]
    refine⟨⟨i+1,b⟩,⟨by simp only;omega,by simp only;rw[nD,ek];exact hSb,hfb⟩,by simp only;omega,rfl,by simp[Pg.v],Sub.refl _⟩
  ·have bT:b g.T=some ⟨4,[[.int .i64 N,.lsl g.R 1 0 m,.lsl g.B 1 0 m,.lsl g.C 3 0 (N+1)]]⟩:=by
    have:=hSb.hd
    simp only[snV,hrl] at this
    rw[←hN];exact this
   have bB:b g.B=some ⟨1,iv (lb m fun q=>(Lp.kB n U i).bs (atR (List.range m) q))⟩:=by
    have:=hSb.ba
    simp only[snV,hrl] at this
    exact this
   have S3:(i:Int)<m:=by omega
   have hlt: ¬ n≤(Lp.kB n U i).bs i:=by omega
   refine aM (aM ?_)
   refine sE aN (by kernel_rfl) [(1,.loc g.T 4 0 0),(2,.ptr p.v),(18,.int .i64 m),(19,.int .i64 i),(5,.int .i64 i),(6,.int .i64 j)] _ b 37 (.bool false) ⟨rfl,by simp[Pg.v],Sub.refl _⟩ rfl ?_ ?_
   ·simp[Pg.v,h.aY]
    by_cases e:j<n
    ·simp[e,bT,bB,him,S3,cZ him,hlt]
     try omega
    ·simp[e]
   simp
   refine aC ?_
   simp
   refine aC ?_
   simp[wi,aB]
   refine⟨⟨i+1,b⟩,⟨by simp only;omega,by simp only;rw[nD];exact hSb,hfb⟩,by simp only;omega,rfl,by simp[Pg.v],Sub.refl _⟩
 ·have hie:i=m:=by omega
  subst hie
  clear him hi wi
  obtain⟨rows,kX⟩: ∃rows,Lp.bH n (Lp.kicks n T i) i=rows:=⟨_,rfl⟩
  rw[kX] at hK
  rw[hU] at hK kX
  have Q4:=A5 n i U
  have hRl:(List.range i).length=i:=hrl
  have hin: ∀x,x∈g.all→ ∃y,b x=some y:=fun x hx=>by
   simp only[SG.all,List.mem_cons] at hx
   rcases hx with rfl | rfl | rfl | rfl | hx
   ·exact⟨_,hSb.hd⟩
   ·exact⟨_,hSb.top⟩
   ·exact⟨_,hSb.ba⟩
   ·exact⟨_,hSb.cst⟩
   ·obtain⟨q,hq⟩:=List.mem_iff_getElem?.1 hx
    exact⟨_,hSb.row q x hq⟩
  have frB: ∀x,b x=none→bl x=none:=fun x hx=>by
   cases hv:bl x with
   | none => rfl
   | some y =>
     by_cases e:x∈g.all
     ·obtain⟨z,hz⟩:=hin x e
      rw[hx] at hz;cases hz
     ·have:=hfb x y hv e
      rw[hx] at this;cases this
  have bT0:b g.T=some ⟨4,[[.int .i64 N,.lsl g.R 1 0 i,.lsl g.B 1 0 i,.lsl g.C 3 0 (N+1)]]⟩:=by
   have:=hSb.hd
   simp only[snV,hrl] at this
   rw[←hN];exact this
  have bR0:b g.R=some ⟨1,g.ids.map fun x=> [.lsl x 3 0 (N+1)]⟩:=by
   have:=hSb.top
   simp only[snV] at this
   rw[←hN];exact this
  have bB0:b g.B=some ⟨1,iv (lb i fun q=>U.bs (atR (List.range i) q))⟩:=by
   have:=hSb.ba
   simp only[snV,hrl] at this
   exact this
  have hil:g.ids.length=i:=by have:=hSb.len;simp only[snV,hrl] at this;exact this
  have aL6: ∀q x,g.ids[q]? =some x→b x=some ⟨3,rqs (N+1) fun c=>U.X q (if c<N then c else N)⟩:=fun q x hq=>by
   have hqi:q<i:=by rw[←hil];exact(List.getElem?_eq_some_iff.1 hq).1
   rw[hSb.row q x hq]
   simp only[snV]
   rw[hN,cZ hqi]
  obtain⟨w,hw⟩: ∃w,wO (pC p)=w:=⟨_,rfl⟩
  rw[hw] at hK
  have hwi: ∀c,w c=((pC p c:Int):Rat):=fun c=>by rw[←hw];rfl
  have hpc: ∀c,(pC p c).natAbs≤1000:=fun c=>kZ h.cm c
  refine aD ?_
  simp[Pg.v,h.aY]
  intro gT hgT hbT
  refine dI [(1,.loc g.T 4 0 0),(2,.ptr p.v),(7,.loc gT 4 0 0)] 179 (upd b gT (some ⟨4,[[.int .i64 n,.nils,.nils,.nils]]⟩)) ⟨rfl,by simp[Pg.v,h.aY],sub_eq (by simp)⟩ ?_
  refine cM (g:=gT) (s:=4) (els:= [[.int .i64 n,.nils,.nils,.nils]]) 0 1 1 (by simp) rfl rfl fun gR hgR hRT=> ?_
  simp[hRT] at hgR
  refine cM (g:=gT) (s:=4) (els:= [[.int .i64 n,.lsl gR 1 0 0,.nils,.nils]]) 0 2 1 (by simp[Ne.symm hRT]) rfl rfl fun gB hgB hBT=> ?_
  simp[hBT] at hgB
  obtain⟨hBR,hgB⟩:=hgB
  refine cM (g:=gT) (s:=4) (els:= [[.int .i64 n,.lsl gR 1 0 0,.lsl gB 1 0 0,.nils]]) 0 3 3 (by simp[Ne.symm hBT]) rfl rfl fun gC hgC hCT=> ?_
  simp[hCT] at hgC
  obtain⟨hCB,hCR,hgC⟩:=hgC
  obtain⟨b1,hb1⟩: ∃b1,b1=upd (upd (upd (upd (upd (upd (upd b gT (some ⟨4,[[.int .i64 n,.nils,.nils,.nils]]⟩)) gT (some ⟨4,[[.int .i64 n,.lsl gR 1 0 0,.nils,.nils]]⟩)) gR (some ⟨1,[]⟩)) gT (some ⟨4,[[.int .i64 n,.lsl gR 1 0 0,.lsl gB 1 0 0,.nils]]⟩)) gB (some ⟨1,[]⟩)) gT (some ⟨4,[[.int .i64 n,.lsl gR 1 0 0,.lsl gB 1 0 0,.lsl gC 3 0 0]]⟩)) gC (some ⟨3,[]⟩):=⟨_,rfl⟩
  have b1T:b1 gT=some ⟨4,[[.int .i64 n,.lsl gR 1 0 0,.lsl gB 1 0 0,.lsl gC 3 0 0]]⟩:=by rw[hb1];simp[Ne.symm hCT]
  have b1R:b1 gR=some ⟨1,[]⟩:=by rw[hb1];simp[Ne.symm hCR,hRT,Ne.symm hBR]
  have b1B:b1 gB=some ⟨1,[]⟩:=by rw[hb1];simp[Ne.symm hCB,hBT]
  have b1C:b1 gC=some ⟨3,rqs 0 w⟩:=by rw[hb1];simp[rqs]
  have s1:Sub b b1:=fun x y hx=>by
   have x1:x≠gT:=fun e=>by rw[e,hbT] at hx;cases hx
   have x2:x≠gR:=fun e=>by rw[e,hgR] at hx;cases hx
   have x3:x≠gB:=fun e=>by rw[e,hgB] at hx;cases hx
   have x4:x≠gC:=fun e=>by rw[e,hgC] at hx;cases hx
   rw[hb1];simp[x1,x2,x3,x4,hx]
  refine dI [(1,.loc g.T 4 0 0),(2,.ptr p.v),(7,.loc gT 4 0 0)] 179 b1 ⟨rfl,by simp,by rw[hb1];exact sub_eq (by simp)⟩ ?_
  clear hb1
  refine aM ?_
  refine aC ?_
  simp
  refine aI (fun q:Ge=> [(1,.loc g.T 4 0 0),(2,.ptr p.v),(7,.loc gT 4 0 0),(8,.int .i64 q.j)]) (fun q=>q.b) (fun q=>q.j≤n∧q.b gT=some ⟨4,[[.int .i64 n,.lsl gR 1 0 0,.lsl gB 1 0 0,.lsl q.gC 3 0 q.j]]⟩∧q.b gR=some ⟨1,[]⟩∧q.b gB=some ⟨1,[]⟩∧q.b q.gC=some ⟨3,rqs q.j w⟩∧(q.gC≠gT∧q.gC≠gR∧q.gC≠gB∧b q.gC=none)∧Sub b q.b) (fun q=>n - q.j) _ ⟨0,gC,b1⟩ ⟨Nat.zero_le _,b1T,b1R,b1B,b1C,⟨hCT,hCR,hCB,hgC⟩,s1⟩ ⟨rfl,by simp,Sub.refl _⟩ ?_
  clear s1 b1T b1R b1B b1C hgC hCB hCR hCT
  rintro⟨j,gC,c⟩ ⟨hj,cT,cR,cB,cC,⟨nCT,nCR,nCB,cbl⟩,hsb⟩
  simp only at hj cT cR cB cC nCT nCR nCB cbl hsb
  have wj:IntKind.i64.wrap ((j:Int)+1)=(j:Int)+1:=i64_in (by omega) (by omega)
  refine aM ?_
  refine aC ?_
  simp[Pg.v,h.aY]
  refine⟨fun hjn=> ?_,fun hjn=> ?_⟩
  ·refine aM (aR ?_)
   have hR0:=eG (pC p j) (by have:=hpc j;omega)
   rw[←hwi] at hR0
   refine cQ aN (rem c gC) (dF c gC) [0,1,2,3,4,5,6,7,8,9,10] 5 15 (by kernel_rfl) ?_
   simp[Ne.symm nCT,cT,Pg.v,h.c,hjn]
   refine aP hR0 ?_
   simp
   refine Dq 11 false ?_
   simp[RT.c]
   intro g4 hg4 hb4
   have n4T:g4≠gT:=fun e=>by rw[e,cT] at hb4;cases hb4
   have n4R:g4≠gR:=fun e=>by rw[e,cR] at hb4;cases hb4
   have n4B:g4≠gB:=fun e=>by rw[e,cB] at hb4;cases hb4
   have n4C:g4≠gC:=fun e=>by rw[e,cC] at hb4;cases hb4
   have pK: ∀X,Sub (rem c gC) (upd c g4 X):=fun X z y hz=>by
    rw[aF] at hz
    rw[aA]
    grind
   refine⟨pK _,Dq 12 false ?_⟩
   have tkC:(rqs j w).take j=rqs j w:=List.take_of_length_le (by simp)
   simp[n4C,Ne.symm n4C,appV,elsV,Int.not_lt.2 hg4,cC,tkC]
   have hsn:rqs j w++ [[V.bool (rq (w j)).neg,.sl (iv (rq (w j)).m),.sl (iv (rq (w j)).d)]]=rqs (j+1) w:=by rw[jG];rfl
   rw[hsn]
   refine⟨by omega,fun gN hgN hbN=> ?_⟩
   have nN:gN≠gT∧gN≠gR∧gN≠gB∧gN≠g4:=by
    by_cases e:gN=gC
    ·subst e
     exact⟨nCT,nCR,nCB,Ne.symm n4C⟩
    ·obtain⟨q1,q2⟩:=hbN e
     exact⟨fun e=>(by rw[e,cT] at q2;cases q2),fun e=>(by rw[e,cR] at q2;cases q2),fun e=>(by rw[e,cB] at q2;cases q2),q1⟩
   obtain⟨nNT,nNR,nNB,nN4⟩:=nN
   have blN:b gN=none:=by
    by_cases e:gN=gC
    ·rw[e];exact cbl
    ·cases hv:b gN with
     | none => rfl
     | some y => have := hsb gN y hv; rw [(hbN e).2] at this; cases this
   have fW: ∀X Y,Sub (rem c gC) (upd (rem (upd c g4 X) gC) gN Y):=fun X Y z y hz=>by
    rw[aF] at hz
    rw[aA,aF,aA]
    grind
   have jP: ∀X Y Z,Sub (upd (upd (rem c gC) gN Y) gT Z) (upd (upd (rem (upd c g4 X) gC) gN Y) gT Z):=fun X Y Z z y hz=>by
    simp only[aA,aF] at hz ⊢
    grind
   refine⟨fW _ _,Dq 13 false ?_⟩
   simp
   refine⟨fW _ _,Dq 14 false ?_⟩
   simp
   refine⟨fW _ _,Dq 15 true ?_⟩
   simp[Ne.symm nNT,Ne.symm nCT,n4T,Ne.symm n4T,cT]
   refine Dd ?_
   simp
   refine aC ?_
   simp[wj,aB]
   obtain⟨b2,hb2⟩: ∃b2,b2=upd (upd (rem c gC) gN (some ⟨3,rqs (j+1) w⟩)) gT (some ⟨4,[[.int .i64 n,.lsl gR 1 0 0,.lsl gB 1 0 0,.lsl gN 3 0 (j+1)]]⟩):=⟨_,rfl⟩
   refine⟨⟨j+1,gN,b2⟩,⟨by simp only;omega,by rw[hb2];simp,by rw[hb2];simp[hRT,Ne.symm nNR,Ne.symm nCR,cR],by rw[hb2];simp[hBT,Ne.symm nNB,Ne.symm nCB,cB],by rw[hb2];simp[nNT],⟨nNT,nNR,nNB,blN⟩,fun x y hx=> ?_⟩,by simp only;omega,rfl,by simp[Pg.v,h.aY,h.c],by rw[hb2];exact jP _ _ _⟩
   have x1:x≠gT:=fun e=>by rw[e,hbT] at hx;cases hx
   have x2:x≠gN:=fun e=>by rw[e,blN] at hx;cases hx
   have x3:x≠gC:=fun e=>by rw[e,cbl] at hx;cases hx
   simp only
   rw[hb2];simp[x1,x2,x3];exact hsb x y hx
  have Hm:j=n:=by omega
  subst Hm
  have hwN:w (j+i)=0:=by
   rw[hwi,show pC p (j+i)=0 by unfold pC;rw[List.getD_eq_getElem?_getD,List.getElem?_eq_none (by have:=h.cl;omega)];rfl];rfl
  obtain⟨ph,hph⟩: ∃ph:Nat→Nat,ph=fun c=>if c<j then c else j+i:=⟨_,rfl⟩
  have hpl: ∀c,c<j→ph c=c:=fun c hc=>by rw[hph];simp only;rw[if_pos hc]
  have hpn:ph j=j+i:=by rw[hph];simp only;rw[if_neg (by omega)]
  have hR0:=eG 0 (by decide)
  rw[show(((0:Int):Rat))=w (ph j) by rw[hpn,hwN];rfl] at hR0
  refine aM ?_
  refine cQ aN (rem c gC) (dF c gC) [0,1,2,3,4,5] 5 10 (by kernel_rfl) ?_
  simp[Ne.symm nCT,cT]
  refine aP hR0 ?_
  simp
  refine Dq 6 false ?_
  simp[RT.c]
  intro g4 hg4 hb4
  have n4T:g4≠gT:=fun e=>by rw[e,cT] at hb4;cases hb4
  have n4R:g4≠gR:=fun e=>by rw[e,cR] at hb4;cases hb4
  have n4B:g4≠gB:=fun e=>by rw[e,cB] at hb4;cases hb4
  have n4C:g4≠gC:=fun e=>by rw[e,cC] at hb4;cases hb4
  have pK: ∀X,Sub (rem c gC) (upd c g4 X):=fun X z y hz=>by
   rw[aF] at hz
   rw[aA]
   grind
  refine⟨pK _,Dq 7 false ?_⟩
  have tkC:(rqs j w).take j=rqs j w:=List.take_of_length_le (by simp)
  simp[n4C,Ne.symm n4C,appV,elsV,Int.not_lt.2 hg4,cC,tkC]
  obtain⟨j1,hj1⟩: ∃j1,j+1=j1:=⟨_,rfl⟩
  have hsn:rqs j w++ [[V.bool (rq (w (ph j))).neg,.sl (iv (rq (w (ph j))).m),.sl (iv (rq (w (ph j))).d)]]=rqs j1 fun c=>w (ph c):=by
   rw[←hj1,jG,bI (f:=fun c=>w (ph c)) (g:=w) fun c hc=>by rw[hpl c hc]];rfl
  rw[hsn,hj1]
  refine⟨by omega,fun gN hgN hbN=> ?_⟩
  have nN:gN≠gT∧gN≠gR∧gN≠gB∧gN≠g4:=by
   by_cases e:gN=gC
   ·subst e
    exact⟨nCT,nCR,nCB,Ne.symm n4C⟩
   ·obtain⟨q1,q2⟩:=hbN e
    exact⟨fun e=>(by rw[e,cT] at q2;cases q2),fun e=>(by rw[e,cR] at q2;cases q2),fun e=>(by rw[e,cB] at q2;cases q2),q1⟩
  obtain⟨nNT,nNR,nNB,nN4⟩:=nN
  have blN:b gN=none:=by
   by_cases e:gN=gC
   ·rw[e];exact cbl
   ·cases hv:b gN with
    | none => rfl
    | some y => have := hsb gN y hv; rw [(hbN e).2] at this; cases this
  have fW: ∀X Y,Sub (rem c gC) (upd (rem (upd c g4 X) gC) gN Y):=fun X Y z y hz=>by
   rw[aF] at hz
   rw[aA,aF,aA]
   grind
  have jP: ∀X Y Z,Sub (upd (upd (rem c gC) gN Y) gT Z) (upd (upd (rem (upd c g4 X) gC) gN Y) gT Z):=fun X Y Z z y hz=>by
   simp only[aA,aF] at hz ⊢
   grind
  refine⟨fW _ _,Dq 8 false ?_⟩
  simp
  refine⟨fW _ _,Dq 9 false ?_⟩
  simp
  refine⟨fW _ _,Dq 10 true ?_⟩
  simp[Ne.symm nNT,Ne.symm nCT,n4T,Ne.symm n4T,cT]
  refine Dd ?_
  simp
  obtain⟨b2,hb2⟩: ∃b2,b2=upd (upd (rem c gC) gN (some ⟨3,rqs j1 fun c=>w (ph c)⟩)) gT (some ⟨4,[[.int .i64 j,.lsl gR 1 0 0,.lsl gB 1 0 0,.lsl gN 3 0 j1]]⟩):=⟨_,rfl⟩
  have hS2:SS b2 ⟨gT,gR,gB,gN,[]⟩ ⟨0,j1,j,fun q c=>U.X (atR [] q) (ph c),fun c=>w (ph c),fun q=>U.bs (atR [] q)⟩:=by
   refine⟨rfl,by rw[hb2];simp[hRT,Ne.symm nNR,Ne.symm nCR,cR],fun q x hx=>(by cases hx),fun x hx=>(by cases hx),by rw[hb2];simp,by rw[hb2];simp[hBT,Ne.symm nNB,Ne.symm nCB,cB,lb,iv],by rw[hb2];simp[nNT],hgT,fun _=>rfl,fun _=>rfl,hgN,?_⟩
   simp[SG.all];grind
  have s2:Sub b b2:=fun x y hx=>by
   have x1:x≠gT:=fun e=>by rw[e,hbT] at hx;cases hx
   have x2:x≠gN:=fun e=>by rw[e,blN] at hx;cases hx
   have x3:x≠gC:=fun e=>by rw[e,cbl] at hx;cases hx
   rw[hb2];simp[x1,x2,x3];exact hsb x y hx
  have aB2: ∀x,x∈SG.all ⟨gT,gR,gB,gN,[]⟩→b x=none:=by simp[SG.all,hbT,hgR,hgB,blN]
  refine dI [(1,.loc g.T 4 0 0),(2,.ptr p.v),(7,.loc gT 4 0 0)] 179 b2 ⟨rfl,by simp[Pg.v,h.aY],by rw[hb2];exact jP _ _ _⟩ ?_
  clear hb2 jP fW hsn tkC pK hsb cbl nCB nCR nCT cC cB cR cT wj hj hbN blN
  have aFX:b2 g.T=_:=s2 _ _ bT0
  refine aM ?_
  refine aC ?_
  simp[aFX]
  refine aI (fun q:Kk=> [(1,.loc g.T 4 0 0),(2,.ptr p.v),(7,.loc gT 4 0 0),(95,.lsl g.R 1 0 i),(96,.int .i64 i),(97,.int .i64 q.i)]) (fun q=>q.b) (fun q=>q.i≤i∧SS q.b q.g ⟨(Lp.bH j U q.i).length,j1,j,fun z c=>U.X (atR (Lp.bH j U q.i) z) (ph c),fun c=>w (ph c),fun z=>U.bs (atR (Lp.bH j U q.i) z)⟩∧q.g.T=gT∧(∀x,x∈q.g.all→b x=none)∧Sub b q.b) (fun q=>i - q.i) _ ⟨0,⟨gT,gR,gB,gN,[]⟩,b2⟩ ⟨Nat.zero_le _,hS2,rfl,aB2,s2⟩ ⟨rfl,by simp[Pg.v,h.aY],Sub.refl _⟩ ?_
  clear hS2 aB2 s2 aFX
  clear hg4 n4T n4R n4B n4C nNT nNR nNB nN4
  rintro⟨r,⟨gT',gR',gB',gC',ids⟩,b'⟩ ⟨hri,hS,e1,hal,hsb⟩
  simp only at hri hS e1 hsb
  subst e1
  have hal: ∀x,x∈SG.all ⟨gT',gR',gB',gC',ids⟩→b x=none:=hal
  have wr:IntKind.i64.wrap ((r:Int)+1)=(r:Int)+1:=i64_in (by omega) (by omega)
  have b'T:b' g.T=_:=hsb _ _ bT0
  have b'R:b' g.R=_:=hsb _ _ bR0
  have b'B:b' g.B=_:=hsb _ _ bB0
  refine aD ?_
  simp
  refine aD ?_
  simp
  refine⟨fun him=> ?_,fun him=> ?_⟩
  ·refine aM (aR ?_)
   have S3:(r:Int)<i:=by omega
   obtain⟨gi,hgi⟩: ∃gi,g.ids[r]? =some gi:=⟨_,List.getElem?_eq_getElem (show r<g.ids.length by omega)⟩
   have hgj: ∀h,g.ids[r]'h=gi:=fun h=>by rw[List.getElem?_eq_getElem h] at hgi;exact Option.some.inj hgi
   have nG:=aL6 r gi hgi
   have xJ:0≤gi:=hSb.pos gi (List.mem_of_getElem? hgi)
   have b'i:b' gi=_:=hsb _ _ nG
   refine aD ?_
   simp[b'R,him,S3,hil,hgj]
   refine aM ?_
   refine cN aN (by kernel_rfl) ?_
   simp[b'T,b'B,Pg.v,h.aY,him,S3,cZ him]
   obtain⟨L,hL⟩: ∃L,Lp.bH j U r=L:=⟨_,rfl⟩
   have hls:=sT j r U
   rw[hL] at hS hls
   refine aC ?_
   simp
   refine⟨fun aPA=> ?_,fun Qc=> ?_⟩
   ·have Vn:U.bs r<j:=by omega
    rw[if_pos Vn] at hls
    have Hs: ∀x,x∈SG.all ⟨gT',gR',gB',gC',ids⟩→ ∃y,b' x=some y:=fun x hx=>by
     simp only[SG.all,List.mem_cons] at hx
     rcases hx with rfl | rfl | rfl | rfl | hx
     ·exact⟨_,hS.hd⟩
     ·exact⟨_,hS.top⟩
     ·exact⟨_,hS.ba⟩
     ·exact⟨_,hS.cst⟩
     ·obtain⟨q,hq⟩:=List.mem_iff_getElem?.1 hx
      exact⟨_,hS.row q x hq⟩
    intro g5 hg5 hb5
    have n5i:g5≠gi:=fun e=>by rw[e,b'i] at hb5;cases hb5
    have hjN: ¬ (N:Int)+1<j:=by omega
    have aFU:j≤N+1:=by omega
    have aLZ:(j:Int)≤(N:Int)+1:=by omega
    have tkw:(rqs (N+1) fun c=>U.X r (if c<N then c else N)).take j=rqs j fun c=>U.X r c:=Hq aFU fun c hc=>by rw[if_pos (by omega)]
    simp[Pg.v,h.aY,sliV,appV,elsV,n5i,Ne.symm n5i,b'i,Int.not_lt.2 hg5,hjN,aFU,aLZ,tkw,xJ,Int.not_lt.2 xJ]
    refine⟨by omega,fun gw hgw hbw=> ?_⟩
    have bw:b' gw=none:=by
     by_cases e:gw=g5
     ·rw[e];exact hb5
     ·exact(hbw e).2
    obtain⟨l,hl⟩: ∃l,L.length=l:=⟨_,rfl⟩
    rw[hl] at hS
    obtain⟨bx,hbx⟩: ∃bx,bx=upd b' gw (some ⟨3,rqs j fun c=>U.X r c⟩):=⟨_,rfl⟩
    refine dI [(1,.loc g.T 4 0 0),(2,.ptr p.v),(7,.loc gT' 4 0 0),(95,.lsl g.R 1 0 i),(96,.int .i64 i),(97,.int .i64 r),(9,.int .i64 r),(10,.lsl gi 3 0 (N+1)),(11,.lsl gw 3 0 j)] 179 bx ⟨rfl,by simp[Pg.v,h.aY],?_⟩ ?_
    ·rw[hbx]
     intro z y hz
     simp only[aA,aF] at hz ⊢
     grind
    clear hbw hgj hgi
    have S1: ∀x y,b' x=some y→x≠gw:=fun x y hx e=>by rw[e,bw] at hx;cases hx
    have old: ∀x y,b x=some y→x≠gT'∧x≠gR'∧x≠gB'∧x≠gC':=fun x y hx=>
     ⟨fun e=>(by rw[e,hal gT' (by simp[SG.all])] at hx;cases hx),fun e=>(by rw[e,hal gR' (by simp[SG.all])] at hx;cases hx),fun e=>(by rw[e,hal gB' (by simp[SG.all])] at hx;cases hx),fun e=>(by rw[e,hal gC' (by simp[SG.all])] at hx;cases hx)⟩
    obtain⟨oTT,oTR,oTB,oTC⟩:=old _ _ bT0
    obtain⟨oBT,oBR,oBB,oBC⟩:=old _ _ bB0
    obtain⟨iT,iR,iB,iC⟩:=old _ _ nG
    have nd:=hS.nd
    simp only[SG.all,List.nodup_cons,List.mem_cons,not_or] at nd
    obtain⟨⟨nTR,nTB,nTC,nTi⟩,⟨nRB,nRC,nRi⟩,⟨nBC,nBi⟩,nCi,nds⟩:=nd
    have Dk:=hS.len
    have vM:b' gT'=_:=hS.hd
    have F3:b' gR'=_:=hS.top
    have zK:b' gB'=_:=hS.ba
    simp only at Dk vM F3 zK
    have wT:=S1 _ _ vM
    have wR:=S1 _ _ F3
    have wB:=S1 _ _ zK
    have wC:=S1 _ _ hS.cst
    simp only at wC
    have wT0:=S1 _ _ b'T
    have wi:=S1 _ _ b'i
    have wB0:=S1 _ _ b'B
    have wI:gw∉ids:=fun e=>by
     obtain⟨q,hq⟩:=List.mem_iff_getElem?.1 e
     exact S1 _ _ (hS.row q gw hq) rfl
    have xx: ∀x,x≠gw→bx x=b' x:=fun x hx=>by rw[hbx,aG _ _ _ _ hx]
    have xT:bx g.T=_:=(xx _ wT0).trans b'T
    have xi:bx gi=_:=(xx _ wi).trans b'i
    have xB:bx g.B=_:=(xx _ wB0).trans b'B
    have xT':bx gT'=_:=(xx _ wT).trans vM
    have xR':bx gR'=_:=(xx _ wR).trans F3
    have xB':bx gB'=_:=(xx _ wB).trans zK
    have xw:bx gw=some ⟨3,rqs j fun c=>U.X r c⟩:=by rw[hbx];simp
    clear hbx
    have aDW: ∀x,bx x=none→x≠gT'∧x≠gR'∧x≠gB'∧x≠gC'∧x≠gw∧x∉ids∧x≠g.T∧x≠g.B∧x≠gi∧b' x=none:=fun x hx=>by
     have q0:x≠gw:=fun e=>by rw[e,xw] at hx;cases hx
     have q1:b' x=none:=by rw[←xx x q0];exact hx
     have nx: ∀y,b' y≠none→x≠y:=fun y hy e=>hy (e▸q1)
     refine⟨nx _ (by rw[vM];simp),nx _ (by rw[F3];simp),nx _ (by rw[zK];simp),nx _ (by rw[show b' gC'=_ from hS.cst];simp),q0,fun e=> ?_,nx _ (by rw[b'T];simp),nx _ (by rw[b'B];simp),nx _ (by rw[b'i];simp),q1⟩
     obtain⟨q,hq⟩:=List.mem_iff_getElem?.1 e
     rw[hS.row q x hq] at q1;cases q1
    refine cQ aN (rem (rem bx gw) gR') (fun x y hx=>dF bx gw x y (dF _ gR' x y hx)) [0,1,2,3,4,5,6,7,8,9,10,11,12] 7 19 (by kernel_rfl) ?_
    have l3: ∀q:Rat,(rq q).c.length=3:=fun _=>rfl
    have t3: ∀q:Rat,(rq q).c.take 3=(rq q).c:=fun _=>rfl
    have hN1:(N:Int)<(N:Int)+1:=by omega
    simp[nTR,wT,oTR,wT0,iR,wi,xT,xT',xi,l3,t3,hN1]
    refine Dq 13 false ?_
    simp[RT.c]
    intro g4 hg4 hb4
    obtain⟨n4T,n4R,n4B,n4C,n4w,n4i,aQ4,aPC,aQC,n4b⟩:=aDW g4 hb4
    refine⟨(by intro z y hz;simp only[aA,aF] at hz ⊢;grind),Dq 14 false ?_⟩
    have tkC:(rqs j fun c=>U.X r c).take j=rqs j fun c=>U.X r c:=List.take_of_length_le (by simp)
    simp[n4w,Ne.symm n4w,appV,elsV,Int.not_lt.2 hg4,xw,tkC]
    have hsn:(rqs j fun c=>U.X r c)++ [[V.bool (rq (U.X r N)).neg,.sl (iv (rq (U.X r N)).m),.sl (iv (rq (U.X r N)).d)]]=rqs j1 fun c=>U.X r (ph c):=by
     rw[←hj1,jG,bI (f:=fun c=>U.X r (ph c)) (g:=fun c=>U.X r c) fun c hc=>by rw[hpl c hc],hpn,hN];rfl
    rw[hsn,hj1]
    refine⟨by omega,fun gN hgN hbN=> ?_⟩
    have nN:gN≠gT'∧gN≠gR'∧gN≠gB'∧gN≠gC'∧gN∉ids∧gN≠g4∧b' gN=none:=by
     by_cases e:gN=gw
     ·subst e
      exact⟨Ne.symm wT,Ne.symm wR,Ne.symm wB,Ne.symm wC,wI,Ne.symm n4w,bw⟩
     ·obtain⟨q1,q2⟩:=hbN e
      obtain⟨m1,m2,m3,m4,_,m6,_,_,_,m9⟩:=aDW gN q2
      exact⟨m1,m2,m3,m4,m6,q1,m9⟩
    obtain⟨nNT,nNR,nNB,nNC,nNi,nN4,nNb⟩:=nN
    obtain⟨y,hy⟩: ∃y,y=upd (rem (upd bx g4 (some { sz:=3,els:= [[V.bool (rq (U.X r N)).neg,V.sl (iv (rq (U.X r N)).m),V.sl (iv (rq (U.X r N)).d)]] })) gw) gN (some { sz:=3,els:=rqs j1 fun c=>U.X r (ph c) }):=⟨_,rfl⟩
    have yN:y gN=some ⟨3,rqs j1 fun c=>U.X r (ph c)⟩:=by rw[hy];simp
    have yx: ∀x,b' x≠none→x≠gN→y x=b' x:=fun x hx hn=>by
     have q1:x≠gw:=fun e=>hx (e▸bw)
     have q2:x≠g4:=fun e=>hx (e▸n4b)
     rw[hy,aG _ _ _ _ hn,aF,if_neg q1,aG _ _ _ _ q2,xx x q1]
    have yT':y gT'=_:=(yx _ (by rw[vM];simp) (Ne.symm nNT)).trans vM
    have yR':y gR'=_:=(yx _ (by rw[F3];simp) (Ne.symm nNR)).trans F3
    have yB':y gB'=_:=(yx _ (by rw[zK];simp) (Ne.symm nNB)).trans zK
    have Jt:Sub (rem (rem bx gw) gR') y:=by
     intro z v hz
     rw[hy]
     simp only[aA,aF] at hz ⊢
     by_cases e:gN=gw
     ·grind
     ·have:=hbN e
      grind
    rw[←hy]
    refine⟨Jt,Dq 15 false ?_⟩
    simp
    intro g6 hg6 hb6
    have n6:g6≠gT'∧g6≠gR'∧g6≠gB'∧g6≠gN:=⟨fun e=>(by rw[e,yT'] at hb6;cases hb6),fun e=>(by rw[e,yR'] at hb6;cases hb6),fun e=>(by rw[e,yB'] at hb6;cases hb6),fun e=>(by rw[e,yN] at hb6;cases hb6)⟩
    obtain⟨n6T,n6R,n6B,n6N⟩:=n6
    refine⟨fun z v hz=>(by rw[aG _ _ _ _ (fun e=>by rw[e] at hz;have:=Jt _ _ hz;rw[hb6] at this;cases this)];exact Jt z v hz),Dq 16 false ?_⟩
    have tk:(ids.map fun x=> [V.lsl x 3 0 j1]).take l=ids.map fun x=> [V.lsl x 3 0 j1]:=List.take_of_length_le (by simp[Dk])
    simp[n6R,Ne.symm n6R,appV,elsV,Int.not_lt.2 hg6,yR',tk,Dk]
    have hlr:l≤r:=by rw[←hl,←hL];exact Nat.le_trans (List.length_filter_le _ _) (by simp)
    have Cs: ∀x,y x=none→b' x=none:=fun x hx=>by
     cases hv:b' x with
     | none => rfl
     | some v =>
       by_cases e:x=gN
       ·rw[e,yN] at hx;cases hx
       ·rw[yx x (by rw[hv];simp) e,hv] at hx;cases hx
    refine⟨by omega,fun gQ hgQ hbQ=> ?_⟩
    have nQ:gQ≠gT'∧gQ≠gB'∧gQ≠gC'∧gQ≠gN∧gQ∉ids∧gQ≠g6∧(gQ=gR'∨b' gQ=none):=by
     by_cases e:gQ=gR'
     ·subst e
      exact⟨Ne.symm nTR,nRB,nRC,Ne.symm nNR,nRi,Ne.symm n6R,.inl rfl⟩
     ·obtain⟨q1,q2⟩:=hbQ e
      have q3:=Cs gQ q2
      have nx: ∀y,b' y≠none→gQ≠y:=fun y hy e=>hy (e▸q3)
      refine⟨nx _ (by rw[vM];simp),nx _ (by rw[zK];simp),nx _ (by rw[show b' gC'=_ from hS.cst];simp),fun e2=>(by rw[e2,yN] at q2;cases q2),fun e2=> ?_,q1,.inr q3⟩
      obtain⟨q,hq⟩:=List.mem_iff_getElem?.1 e2
      rw[hS.row q gQ hq] at q3;cases q3
    obtain⟨nQT,nQB,nQC,nQN,nQi,nQ6,nQb⟩:=nQ
    have Bj: ∀X Y,Sub (rem (rem bx gw) gR') (upd (rem (upd y g6 X) gR') gQ Y):=fun X Y z v hz=>by
     have h1:z≠gR':=fun e=>by rw[e,aF,if_pos rfl] at hz;cases hz
     have h2:=Jt z v hz
     have h3:z≠g6:=fun e=>by rw[e,hb6] at h2;cases h2
     have h4:z≠gQ:=fun e=>by
      rw[e] at h1 h2
      rw[(hbQ h1).2] at h2;cases h2
     rw[aG _ _ _ _ h4,aF,if_neg h1,aG _ _ _ _ h3];exact h2
    have Qt: ∀X Y Z,Sub (upd (upd (rem y gR') gQ Y) gT' Z) (upd (upd (rem (upd y g6 X) gR') gQ Y) gT' Z):=fun X Y Z z v hz=>by
     simp only[aA,aF] at hz ⊢
     grind
    refine⟨Bj _ _,Dq 17 false ?_⟩
    simp
    refine⟨Bj _ _,Dq 18 false ?_⟩
    simp
    refine⟨Bj _ _,Dq 19 true ?_⟩
    simp[Ne.symm nQT,nQT,Ne.symm n6T,nTR,yT']
    refine Dd ?_
    simp
    obtain⟨b3,hb3⟩: ∃b3,b3=upd (upd (rem y gR') gQ (some ⟨1,(ids++ [gN]).map fun x=> [.lsl x 3 0 j1]⟩)) gT' (some ⟨4,[[.int .i64 j,.lsl gQ 1 0 (l+1),.lsl gB' 1 0 l,.lsl gC' 3 0 j1]]⟩):=⟨_,rfl⟩
    refine dI [(1,.loc g.T 4 0 0),(2,.ptr p.v),(7,.loc gT' 4 0 0),(95,.lsl g.R 1 0 i),(96,.int .i64 i),(97,.int .i64 r),(9,.int .i64 r)] 179 b3 ⟨rfl,by simp[Pg.v,h.aY],by rw[hb3,List.map_append];exact Qt _ _ _⟩ ?_
    have b3Q:b3 gQ=some ⟨1,(ids++ [gN]).map fun x=> [.lsl x 3 0 j1]⟩:=by rw[hb3];simp[nQT]
    have b3T:b3 gT'=some ⟨4,[[.int .i64 j,.lsl gQ 1 0 (l+1),.lsl gB' 1 0 l,.lsl gC' 3 0 j1]]⟩:=by rw[hb3];simp
    have b3x: ∀x,x≠gT'→x≠gQ→x≠gR'→b3 x=y x:=fun x x1 x2 x3=>by rw[hb3,aG _ _ _ _ x1,aG _ _ _ _ x2,aF,if_neg x3]
    clear hb3 Qt Bj hbQ hsn tkC tk hbN hy Jt
    have nQo: ∀x v,b x=some v→x≠gQ:=fun x v hx e=>by
     rcases nQb with e2 | e2
     ·exact(old x v hx).2.1 (e.trans e2)
     ·have:=hsb x v hx;rw[e,e2] at this;cases this
    have nNo: ∀x v,b x=some v→x≠gN:=fun x v hx e=>by
     have:=hsb x v hx;rw[e,nNb] at this;cases this
    have b3o: ∀x v,b x=some v→b3 x=some v:=fun x v hx=>by
     rw[b3x x (old x v hx).1 (nQo x v hx) (old x v hx).2.1,yx x (by rw[hsb x v hx];simp) (nNo x v hx)];exact hsb x v hx
    have aMF:b3 g.T=_:=b3o _ _ bT0
    have aM0:b3 g.B=_:=b3o _ _ bB0
    have b3B:b3 gB'=_:=(b3x gB' (Ne.symm nTB) (Ne.symm nQB) (Ne.symm nRB)).trans yB'
    refine cQ aN (rem b3 gB') (dF b3 gB') [0,1,2,3,4,5,6,7,8,9,10,11] 5 16 (by kernel_rfl) ?_
    simp[nTB,b3T,oTB,oBB,aMF,aM0,him,S3,cZ him]
    refine Dq 12 false ?_
    simp
    intro g5 hg5 hb5
    have n5:g5≠gT'∧g5≠gQ∧g5≠gB':=⟨fun e=>(by rw[e,b3T] at hb5;cases hb5),fun e=>(by rw[e,b3Q] at hb5;cases hb5),fun e=>(by rw[e,b3B] at hb5;cases hb5)⟩
    obtain⟨n5T,n5Q,n5B⟩:=n5
    have Q5: ∀X,Sub (rem b3 gB') (upd b3 g5 X):=fun X z y hz=>by
     rw[aF] at hz
     rw[aA]
     grind
    refine⟨Q5 _,Dq 13 false ?_⟩
    have tkB:(iv (lb l fun z=>U.bs (atR L z))).take l=iv (lb l fun z=>U.bs (atR L z)):=List.take_of_length_le (by simp)
    simp[n5B,Ne.symm n5B,appV,elsV,Int.not_lt.2 hg5,b3B,tkB]
    have hlb:iv (lb l fun z=>U.bs (atR L z))++ [[.int .i64 (U.bs r)]]=iv (lb (l+1) fun z=>U.bs (atR (L++ [r]) z)):=by
     rw[F7,aT,tO r hl,Lr (f:=fun z=>U.bs (atR (L++ [r]) z)) (g:=fun z=>U.bs (atR L z)) fun z hz=>by rw[oJ r (by rw[hl];exact hz)]];rfl
    rw[hlb]
    refine⟨by omega,fun gM hgM hbM=> ?_⟩
    have nM:gM≠gT'∧gM≠gQ∧gM≠gC'∧gM≠gN∧gM∉ids∧gM≠g5∧(gM=gB'∨gM=gR'∨b' gM=none):=by
     by_cases e:gM=gB'
     ·subst e
      exact⟨Ne.symm nTB,Ne.symm nQB,nBC,Ne.symm nNB,nBi,Ne.symm n5B,.inl rfl⟩
     ·obtain⟨q1,q2⟩:=hbM e
      have q3:gM≠gT':=fun e2=>by rw[e2,b3T] at q2;cases q2
      have q4:gM≠gQ:=fun e2=>by rw[e2,b3Q] at q2;cases q2
      by_cases e3:gM=gR'
      ·subst e3
       exact⟨q3,q4,nRC,Ne.symm nNR,nRi,q1,.inr (.inl rfl)⟩
      ·rw[b3x gM q3 q4 e3] at q2
       have q5:=Cs gM q2
       have nx: ∀y,b' y≠none→gM≠y:=fun y hy e=>hy (e▸q5)
       refine⟨q3,q4,nx _ (by rw[show b' gC'=_ from hS.cst];simp),fun e2=>(by rw[e2,yN] at q2;cases q2),fun e2=> ?_,q1,.inr (.inr q5)⟩
       obtain⟨q,hq⟩:=List.mem_iff_getElem?.1 e2
       rw[hS.row q gM hq] at q5;cases q5
    obtain⟨nMT,nMQ,nMC,nMN,nMi,nM5,nMb⟩:=nM
    have kI: ∀X Y,Sub (rem b3 gB') (upd (rem (upd b3 g5 X) gB') gM Y):=fun X Y z y hz=>by
     rw[aF] at hz
     rw[aA,aF,aA]
     grind
    have jP: ∀X Y Z,Sub (upd (upd (rem b3 gB') gM Y) gT' Z) (upd (upd (rem (upd b3 g5 X) gB') gM Y) gT' Z):=fun X Y Z z y hz=>by
     simp only[aA,aF] at hz ⊢
     grind
    refine⟨kI _ _,Dq 14 false ?_⟩
    simp
    refine⟨kI _ _,Dq 15 false ?_⟩
    simp
    refine⟨kI _ _,Dq 16 true ?_⟩
    simp[Ne.symm nMT,nTB,n5T,Ne.symm n5T,b3T]
    refine Dd ?_
    simp
    refine aC ?_
    simp[wr,aB]
    obtain⟨b4,gV⟩: ∃b4,b4=upd (upd (rem b3 gB') gM (some ⟨1,iv (lb (l+1) fun z=>U.bs (atR (L++ [r]) z))⟩)) gT' (some ⟨4,[[.int .i64 j,.lsl gQ 1 0 (l+1),.lsl gM 1 0 (l+1),.lsl gC' 3 0 j1]]⟩):=⟨_,rfl⟩
    have b4T:b4 gT'=some ⟨4,[[.int .i64 j,.lsl gQ 1 0 (l+1),.lsl gM 1 0 (l+1),.lsl gC' 3 0 j1]]⟩:=by rw[gV];simp
    have b4M:b4 gM=some ⟨1,iv (lb (l+1) fun z=>U.bs (atR (L++ [r]) z))⟩:=by rw[gV];simp[nMT]
    have b4x: ∀x,x≠gT'→x≠gM→x≠gB'→b4 x=b3 x:=fun x x1 x2 x3=>by rw[gV,aG _ _ _ _ x1,aG _ _ _ _ x2,aF,if_neg x3]
    have b4o: ∀x,x≠gT'→x≠gM→x≠gB'→x≠gQ→x≠gR'→b4 x=y x:=fun x x1 x2 x3 x4 x5=>by rw[b4x x x1 x2 x3,b3x x x1 x4 x5]
    have fr: ∀x,b' x=none→b x=none:=fun x hx=>by
     cases hv:b x with
     | none => rfl
     | some v => have := hsb x v hv; rw [hx] at this; cases this
    have blT:b gT'=none:=hal gT' (by simp[SG.all])
    have blR:b gR'=none:=hal gR' (by simp[SG.all])
    have blB:b gB'=none:=hal gB' (by simp[SG.all])
    have blC:b gC'=none:=hal gC' (by simp[SG.all])
    have blN:b gN=none:=fr gN nNb
    have blQ:b gQ=none:=by
     rcases nQb with e | e
     ·rw[e];exact blR
     ·exact fr gQ e
    have blM:b gM=none:=by
     rcases nMb with e | e | e
     ·rw[e];exact blB
     ·rw[e];exact blR
     ·exact fr gM e
    have hyi: ∀x,x∈ids→y x=b' x:=fun x hx=>by
     obtain⟨q,hq⟩:=List.mem_iff_getElem?.1 hx
     exact yx x (by rw[hS.row q x hq];simp) (fun e=>nNi (e▸hx))
    have hS':SS b' ⟨gT',gR',gB',gC',ids⟩ ⟨l,j1,j,fun z c=>U.X (atR (L++ [r]) z) (ph c),fun c=>w (ph c),fun z=>U.bs (atR (L++ [r]) z)⟩:=
     hS.congr (fun z c hz _=>by rw[oJ r (by rw[hl];exact hz)]) (fun _ _=>rfl) (fun z hz=>by rw[oJ r (by rw[hl];exact hz)])
    have Hz:=hS'.snoc (b':=b4) gQ gM gN (by rw[b4x gQ nQT (Ne.symm nMQ) nQB,b3Q]) b4M b4T
     (by simp only;rw[b4o gC' (Ne.symm nTC) (Ne.symm nMC) (Ne.symm nBC) (Ne.symm nQC) (Ne.symm nRC),yx gC' (by rw[show b' gC'=_ from hS.cst];simp) (Ne.symm nNC)])
     (fun x hx=>by simp only at hx;rw[b4o x (fun e=>nTi (e▸hx)) (fun e=>nMi (e▸hx)) (fun e=>nBi (e▸hx)) (fun e=>nQi (e▸hx)) (fun e=>nRi (e▸hx)),hyi x hx])
     (by rw[b4o gN nNT (Ne.symm nMN) nNB (Ne.symm nQN) nNR,yN];show _=some (Blk.mk 3 (rqs j1 fun c=>U.X (atR (L++ [r]) l) (ph c)));rw[tO r hl]) hgN hgQ hgM (by
       simp only[SG.all,List.nodup_cons,List.mem_cons,not_or,List.mem_append,List.mem_singleton,List.nodup_append,List.not_mem_nil,or_false]
       refine⟨⟨Ne.symm nQT,Ne.symm nMT,nTC,nTi,Ne.symm nNT⟩,⟨Ne.symm nMQ,nQC,nQi,nQN⟩,⟨nMC,nMi,nMN⟩,⟨nCi,Ne.symm nNC⟩,nds,by simp,fun a ha c hc=> ?_⟩
       rw[hc];exact fun e=>nNi (e▸ha))
    have hLl:(L++ [r]).length=l+1:=by simp[hl]
    refine⟨⟨r+1,⟨gT',gQ,gM,gC',ids++ [gN]⟩,b4⟩,⟨by simp only;omega,by rw[hls,hLl];exact Hz,rfl,fun x hx=> ?_,fun x v hx=> ?_⟩,by simp only;omega,rfl,by simp[Pg.v,h.aY],by rw[gV];exact jP _ _ _⟩
    ·simp only[SG.all,List.mem_cons,List.mem_append,List.not_mem_nil,or_false] at hx
     rcases hx with rfl | rfl | rfl | rfl | hx | rfl
     ·exact blT
     ·exact blQ
     ·exact blM
     ·exact blC
     ·exact hal x (by simp[SG.all,hx])
     ·exact blN
    ·have nx: ∀z,b z=none→x≠z:=fun z hz e=>by rw[e,hz] at hx;cases hx
     simp only
     rw[b4o x (nx _ blT) (nx _ blM) (nx _ blB) (nx _ blQ) (nx _ blR),yx x (by rw[hsb x v hx];simp) (nx _ blN)]
     exact hsb x v hx
   ·rw[if_neg (by omega)] at hls
    refine aC ?_
    simp[wr,aB]
    exact⟨⟨r+1,⟨gT',gR',gB',gC',ids⟩,b'⟩,⟨by show r+1≤i;omega,by rw[hls];exact hS,rfl,hal,hsb⟩,by simp only;omega,rfl,by simp[Pg.v,h.aY],Sub.refl _⟩
  have aL4:r=i:=by omega
  subst aL4
  rw[kX] at hS
  rw[kX] at Q4
  clear wr him
  obtain⟨l,hl⟩: ∃l,rows.length=l:=⟨_,rfl⟩
  rw[hl] at hS
  have Dk:=hS.len
  have vM:b' gT'=_:=hS.hd
  have F3:b' gR'=_:=hS.top
  have zK:b' gB'=_:=hS.ba
  have aBT:b' gC'=_:=hS.cst
  simp only at Dk vM F3 zK aBT
  have hlr:l≤r:=by rw[←hl];exact Q4.len
  have nd:=hS.nd
  simp only[SG.all,List.nodup_cons,List.mem_cons,not_or] at nd
  obtain⟨⟨nTR,nTB,nTC,nTi⟩,⟨nRB,nRC,nRi⟩,⟨nBC,nBi⟩,nCi,nds⟩:=nd
  have hwW: ∀c,c<j+r+1→Lp.isInt (w c)∧ -((1000:Nat):Rat)≤w c∧w c≤((1000:Nat):Rat):=fun c _=>by
   have:=hpc c
   rw[hwi]
   refine⟨⟨_,rfl⟩,?_,?_⟩
   ·rw[show -((1000:Nat):Rat)=((-1000:Int):Rat) by decide+kernel];exact Rat.intCast_le_intCast.2 (by omega)
   ·rw[show((1000:Nat):Rat)=((1000:Int):Rat) by decide+kernel];exact Rat.intCast_le_intCast.2 (by omega)
  have Me: ∀q,q<l→atR rows q<r:=fun q hq=>Q4.lt (cH (by rw[hl];exact hq))
  have aE9: ∀c,ph c<j+r+1:=fun c=>by rw[hph];simp only;split<;>omega
  have htp: ∀q c,q≤l→mR (Lp.part w U (atR rows) q (ph c)):=fun q c hq=>Lp.jD (hKi.z.part hwW (aE9 c) (by decide) (by omega) fun z hz=>Me z (by omega)) (sD hml)
  have htX: ∀q c,q<l→mR (U.X (atR rows q) (ph c)):=fun q c hq=>Lp.jD (hKi.z.sm (Me q hq) (aE9 c)) (qT hml)
  refine aM ?_
  refine aC ?_
  simp[vM]
  refine aI (fun q:Nat=> [(7,.loc gT' 4 0 0),(157,.lsl gR' 1 0 l),(158,.int .i64 l),(159,.int .i64 q)]) (fun q=>upd b' gC' (some ⟨3,rqs j1 fun c=>Lp.part w U (atR rows) q (ph c)⟩)) (fun q=>q≤l) (fun q=>l - q) _ 0 (Nat.zero_le _) ⟨rfl,by simp,sub_eq (by
   funext x;simp only[aA];split
   ·rename_i e
    rw[e,aBT,bI (g:=fun c=>Lp.part w U (atR rows) 0 (ph c)) fun c _=>by unfold Lp.part;rw[Lp.S];grind]
   ·rfl)⟩ ?_
  intro q hq
  have wq:IntKind.i64.wrap ((q:Int)+1)=(q:Int)+1:=i64_in (by omega) (by omega)
  refine aD ?_
  simp
  refine aD ?_
  simp
  refine⟨fun hql=> ?_,fun hql=> ?_⟩
  ·have He:(q:Int)<l:=by omega
   obtain⟨gi,hgi⟩: ∃gi,ids[q]? =some gi:=⟨_,List.getElem?_eq_getElem (show q<ids.length by omega)⟩
   have hgj: ∀h,ids[q]'h=gi:=fun h=>by rw[List.getElem?_eq_getElem h] at hgi;exact Option.some.inj hgi
   have hgm:=List.mem_of_getElem? hgi
   have xJ:0≤gi:=hS.pos gi hgm
   have b'i:b' gi=_:=hS.row q gi hgi
   simp only at b'i
   have iC:gi≠gC':=fun e=>nCi (e▸hgm)
   obtain⟨bc,hbc⟩: ∃bc,bc=upd b' gC' (some ⟨3,rqs j1 fun c=>Lp.part w U (atR rows) q (ph c)⟩):=⟨_,rfl⟩
   have bcC:bc gC'=some ⟨3,rqs j1 fun c=>Lp.part w U (atR rows) q (ph c)⟩:=by rw[hbc];simp
   have bcx: ∀x,x≠gC'→bc x=b' x:=fun x hx=>by rw[hbc,aG _ _ _ _ hx]
   have bcT:=(bcx gT' nTC).trans vM
   have bcR:=(bcx gR' nRC).trans F3
   have bcB:=(bcx gB' nBC).trans zK
   have bci:=(bcx gi iC).trans b'i
   rw[←hbc]
   refine aM (aR ?_)
   refine aD ?_
   simp[bcR,hql,He,Dk,hgj]
   have hqm:=cH (rows:=rows) (show q<rows.length by rw[hl];exact hql)
   obtain⟨ri,hri⟩: ∃ri,atR rows q=ri:=⟨_,rfl⟩
   have hbl:U.bs ri<j:=by
    rw[hri,←kX] at hqm
    exact(Lp.lX.1 hqm).2
   have aLY:ri<r:=by rw[←hri];exact Me q hql
   have hkf:Lp.part w U (atR rows) q (ph (U.bs ri))=w (U.bs ri):=by
    rw[hpl _ hbl,←hri]
    exact Lp.X9 hKi.z.ti (by rw[hri];exact aLY) (fun z hz=>Me z (by omega)) fun z hz e=>by
     have:=Q4.inj (by omega) (by omega) e
     omega
   have N0: ∀c,Lp.part w U (atR rows) q (ph c) - Lp.part w U (atR rows) q (ph (U.bs ri))*U.X (atR rows q) (ph c)=Lp.part w U (atR rows) (q+1) (ph c):=fun c=>by
    rw[hkf,Lp.Df,hri]
   have hbi:(U.bs ri:Int)<j:=by omega
   refine bA aN (rem bc gC') (dF bc gC') [0,1,2,3,4,5,6,7,8,9,10,11] 1 (by kernel_rfl) ?_
   simp[nTC,nBC,bcT,bcB,hql,He,hri]
   refine Dz 12 ?_
   simp
   refine oD gC' gi j1 (U.bs ri) (fun c=>Lp.part w U (atR rows) q (ph c)) (fun c=>U.X (atR rows q) (ph c)) (by omega) (by omega) bcC bci (Ne.symm iC) hS.pC xJ (fun c _=>bU (htp q c hq)) (fun c _=>bU (htX q c hql)) (fun c _=>xY (htp q _ hq) (htX q c hql)) (fun c _=>by simp only[N0];exact bU (htp (q+1) c hql)) fun b2' hx hb'=> ?_
   simp
   refine⟨fun z y hz=> ?_,Dy ?_⟩
   ·rw[aF] at hz
    split at hz
    ·cases hz
    ·exact hx z y hz (by assumption)
   simp
   refine aC ?_
   simp[wq,aB]
   refine⟨q+1,by omega,by omega,rfl,by simp,fun z y hz=> ?_⟩
   show b2' z=some y
   by_cases e:z=gC'
   ·rw[e,aU] at hz
    rw[e,hb',←hz,bI fun c _=>N0 c]
   ·rw[aG _ _ _ _ e] at hz
    exact hx z y (by rw[bcx z e];exact hz) e
  ·have hqe:q=l:=by omega
   subst hqe
   refine aC ?_
   simp
   rw[dQ]
   have hS9:=hS.Uy fun c=>Lp.part w U (atR rows) q (ph c)
   refine⟨[.loc gT' 4 0 0],by simp,hK _ ⟨gT',gR',gB',gC',ids⟩ ?_ (fun x hx=>frB x (hal x hx)) fun x y hx hng=> ?_⟩
   ·unfold snV
    simp only[hl]
    subst hj1
    have hz0: ∀c,c<r→c∉rows→w (U.bs c)=0:=fun c hc hn=>by
     rw[←kX] at hn
     have hge: ¬ U.bs c<j:=fun e=>hn (Lp.lX.2 ⟨hc,e⟩)
     rw[hwi,show pC p (U.bs c)=0 by unfold pC;rw[List.getD_eq_getElem?_getD,List.getElem?_eq_none (by have:=h.cl;omega)];rfl];rfl
    refine hS9.congr (fun z c _ _=>by rw[hph]) (fun c _=> ?_) fun z _=>rfl
    rw[hph]
    unfold Lp.part Lp.rc
    simp only
    have:=Q4.sum (fun z=>U.X z (if c<j then c else j+r)*w (U.bs z)) fun z hz hn=>by rw[hz0 z hz hn];grind
    rw[hl] at this
    rw[this]
   ·have h1:=hfb x y hx hng
    have h2:=hsb x y h1
    show upd b' gC' _ x=some y
    rw[aG _ _ _ _ (fun e=>by have:=hal gC' (by simp[SG.all]);rw[←e,h1] at this;cases this)]
    exact h2

def okA (n:Nat):Nat→Bool:=fun c=>decide (c<n)
def oA (n m:Nat):Nat→Int:=fun c=>if n≤c∧c<n+m then -1 else 0
theorem Hg (n m:Nat):wO (oA n m)=Lp.aZ n m:=by
 funext c
 unfold wO oA Lp.aZ
 split<;>rfl
def tbA (p:Pg) (n m i:Nat) (fr:Nat→Bool):TN:=⟨i,n+m,eZ p n m,1,fun q=>n+q,fr⟩
theorem Fw (N:Nat):List.replicate N [V.bool false]=lv N fun _=>false:=by
 unfold lv
 rw[List.map_const',List.length_range]
theorem Ko (N:Nat):List.replicate N [V.int .i64 0]=iv (lz N fun _=>0):=by
 simp[iv,lz,List.map_const']
theorem Ua {N k:Nat} (f:Nat→Int) (v:Int) (h:k<N):(iv (lz N f)).set k [.int .i64 v]=iv (lz N fun c=>if c=k then v else f c):=by
 apply List.ext_getElem
 ·simp
 ·intro j h1 h2
  rw[List.getElem_set,mO,mO,I4,I4]
  by_cases e:k=j
  ·rw[if_pos e,if_pos e.symm]
  ·rw[if_neg e,if_neg (Ne.symm e)]
theorem xW {N:Nat} {f g:Nat→Int} (h: ∀c,c<N→f c=g c):lz N f=lz N g:=List.map_congr_left fun c hc=>by rw[h c (by simpa using hc)]
theorem oG {N:Nat} {f g:Nat→Bool} (h: ∀c,c<N→f c=g c):lv N f=lv N g:=List.map_congr_left fun c hc=>by rw[h c (by simpa using hc)]
theorem TT.first {b:Int→Option Blk} {g:TG} {p:Pg} {n m:Nat} {fr:Nat→Bool} (h:PgN p n m) (ht:TT b g (tbA p n m m fr)):TT b g (bV n m (eQ p n m) (List.range m) (Lp.jO n (eQ p n m)) fr):=by
 have hr:(List.range m).length=m:=by simp
 have hd:=dz0 h
 have hb:lb m (fun q=>(Lp.jO n (eQ p n m)).bs (atR (List.range m) q))=lb m fun q=>n+q:=List.map_congr_left fun q hq=>by
  have hq':q<m:=by simpa using hq
  simp only[cZ hq'];rfl
 refine⟨?_,?_,?_,ht.fre,ht.pT,?_,?_,ht.pF,ht.nd⟩
 ·have:=ht.fJ.congr (Z':=fun q c=>Lp.zt m (eQ p n m) (Lp.jO n (eQ p n m)) (atR (List.range m) q) c) fun q c hq _=>by
   simp only[tbA] at hq ⊢
   rw[cZ hq,zt0 h]
  simp only[bV]
  rw[hr];exact this
 ·have e:=ht.hd
  simp only[tbA] at e
  simp only[bV,hd,hr]
  exact e
 ·simp only[bV];rw[hr,hb];exact ht.ba
 ·simp only[bV];rw[hr];exact ht.pR
 ·simp only[bV];rw[hr];exact ht.pB
structure aGI where
 i:Nat
 g:TG
 b:Int→Option Blk
theorem Fu {bl:Int→Option Blk} {K:V→(Int→Option Blk)→Prop} (p:Pg) (n m:Nat) (h:PgN p n m)
  (hN: ∀b' t,Lp.mP n m (n+m+1) 1000 (eQ p n m) t→Lp.rc m (Lp.aZ n m) t (n+m)≠0→Sub bl b'→K (.tup [.nilp,.bool false]) b')
  (hS: ∀b' g t,Lp.mP n m (n+m+1) 1000 (eQ p n m) t→Lp.rc m (Lp.aZ n m) t (n+m)=0→TT b' g (bV n m (eQ p n m) (Lp.bH n (Lp.kicks n t m) m) (Lp.kicks n t m) (okA n))→(∀x,x∈g.all→bl x=none)→Sub bl b'→K (.tup [.loc g.T 6 0 0,.bool true]) b'):
  cO Tryz.prog 126 [.ptr p.v] bl K:=by
 have hml:=h.ml
 have hnl:=h.nl
 have wnm:IntKind.i64.wrap ((n:Int)+(m:Int))=((n+m:Nat):Int):=by rw[i64_in (by omega) (by omega)];simp
 have hint: ∀z:Int,z.natAbs≤1000→RO Tryz.prog 160 [.int .i64 z] (.agg (biC z)):=fun z hz=>yJ z (by omega)
 refine cV Tryz.func126 rfl rfl (by rw[Tryz.ntmps126];simp) ?_
 rw[Tryz.ntmps126,Tryz.results126]
 refine aC ?_
 simp
 refine cN aN (by kernel_rfl) ?_
 simp[Pg.v,h.rows,h.aY]
 rw[wnm]
 obtain⟨N,hN0⟩: ∃N,n+m=N:=⟨_,rfl⟩
 rw[hN0]
 refine aC ?_
 simp
 refine bA aN bl (Sub.refl _) [0,1,2] 4 (by kernel_rfl) ?_
 simp
 refine aP (hint 1 (by decide)) ?_
 simp
 refine Dz 3 ?_
 simp
 refine⟨by omega,by unfold maxLen;omega,fun gF hgF hbF=> ?_⟩
 have sF:Sub bl (upd bl gF (some ⟨1,List.replicate N [.bool false]⟩)):=by simp[hbF]
 refine⟨sF,Dz 4 ?_⟩
 simp
 refine⟨sF,Dz 5 ?_⟩
 simp
 intro gT hgT hTF hbT
 refine⟨by simp[hbF,hbT,hTF],Dz 6 ?_⟩
 simp
 refine⟨by simp[hbF,hbT,hTF],Dy ?_⟩
 simp
 obtain⟨b0,hb0⟩: ∃b0,b0=upd (upd bl gF (some ⟨1,List.replicate N [.bool false]⟩)) gT (some ⟨6,[[.nils,.bool false,.sl (iv (lim 1)),.nils,.int .i64 N,.lsl gF 1 0 N]]⟩):=⟨_,rfl⟩
 have b0T:b0 gT=some ⟨6,[[.nils,.bool false,.sl (iv (lim 1)),.nils,.int .i64 N,.lsl gF 1 0 N]]⟩:=by rw[hb0];simp[bS]
 have b0F:b0 gF=some ⟨1,lv N fun _=>false⟩:=by rw[hb0];simp[Ne.symm hTF,Fw]
 have s0:Sub bl b0:=by rw[hb0];simp[hbF,hbT,hTF]
 refine dI [(0,.ptr p.v),(4,.int .i64 N),(5,.loc gT 6 0 0),(34,.int .i64 m),(35,.int .i64 0)] 205 b0 ⟨rfl,by simp[Pg.v,h.rows,h.aY],by rw[hb0];exact sub_eq (by simp[bS])⟩ ?_
 clear hb0
 refine cM (g:=gT) (s:=6) 0 0 1 b0T rfl rfl fun gR hgR hRT=> ?_
 have hgR:b0 gR=none:=hgR
 have hRF:gR≠gF:=fun e=>by rw[e,b0F] at hgR;cases hgR
 have b0R:bl gR=none:=by
  cases hv:bl gR with
  | none => rfl
  | some y => have := s0 gR y hv; rw [hgR] at this; cases this
 refine cM (g:=gT) (s:=6) (els:= [[.lsl gR 1 0 0,.bool false,.sl (iv (lim 1)),.nils,.int .i64 N,.lsl gF 1 0 N]]) 0 3 1 (by simp[Ne.symm hRT]) rfl rfl fun gB hgB hBT=> ?_
 simp[hBT] at hgB
 obtain⟨hBR,hgB⟩:=hgB
 have hBF:gB≠gF:=fun e=>by rw[e,b0F] at hgB;cases hgB
 have b0B:bl gB=none:=by
  cases hv:bl gB with
  | none => rfl
  | some y => have := s0 gB y hv; rw [hgB] at this; cases this
 obtain⟨b1,hb1⟩: ∃b1,b1=upd (upd (upd (upd b0 gT (some ⟨6,[[.lsl gR 1 0 0,.bool false,.sl (iv (lim 1)),.nils,.int .i64 N,.lsl gF 1 0 N]]⟩)) gR (some ⟨1,[]⟩)) gT (some ⟨6,[[.lsl gR 1 0 0,.bool false,.sl (iv (lim 1)),.lsl gB 1 0 0,.int .i64 N,.lsl gF 1 0 N]]⟩)) gB (some ⟨1,[]⟩):=⟨_,rfl⟩
 have t1:TT b1 ⟨gT,gR,gB,gF,[]⟩ (tbA p n m 0 (fun _=>false)):=by
  refine TT.start rfl ?_ ?_ ?_ ?_ hgT hgF ?_
  ·rw[hb1];simp[hRT,Ne.symm hBR]
  ·rw[hb1];simp
  ·rw[hb1];simp[Ne.symm hBT,Ne.symm hRT,tbA,hN0]
  ·rw[hb1];simp[Ne.symm hBF,Ne.symm hRF,Ne.symm hTF,tbA,hN0,b0F]
  ·simp;grind
 refine dI [(0,.ptr p.v),(4,.int .i64 N),(5,.loc gT 6 0 0),(34,.int .i64 m),(35,.int .i64 0)] 205 b1 ⟨rfl,by simp,by rw[hb1];exact sub_eq (by simp)⟩ ?_
 have s1:Sub bl b1:=by
  intro x y hx
  have:=s0 x y hx
  have x1:x≠gT:=fun e=>by rw[e,hbT] at hx;cases hx
  have x2:x≠gR:=fun e=>by rw[e,b0R] at hx;cases hx
  have x3:x≠gB:=fun e=>by rw[e,b0B] at hx;cases hx
  rw[hb1]
  simp[x1,x2,x3,this]
 clear hb1
 refine aI (fun q:aGI=> [(0,.ptr p.v),(4,.int .i64 N),(5,.loc gT 6 0 0),(34,.int .i64 m),(35,.int .i64 q.i)]) (fun q=>q.b) (fun q=>q.i≤m∧TT q.b q.g (tbA p n m q.i (fun _=>false))∧q.g.T=gT∧q.g.F=gF∧(∀x,x∈q.g.all→bl x=none)∧Sub bl q.b) (fun q=>m - q.i) _ ⟨0,⟨gT,gR,gB,gF,[]⟩,b1⟩ ⟨Nat.zero_le _,t1,rfl,rfl,by simp[TG.all,hbT,b0R,b0B,hbF],s1⟩ ⟨rfl,by simp,Sub.refl _⟩ ?_
 clear s1 t1 hgB hgR s0 b0T b0F
 clear b0R b0B hBT hBF hBR hRT hRF
 rintro⟨i,⟨gT',gR,gB,gF',ids⟩,b⟩ ⟨him,hTb,e1,e2,hal,hsb⟩
 simp only at e1 e2 him hTb hsb
 subst e1 e2
 have bT:b gT'=_:=hTb.hd
 have bB:b gB=_:=hTb.ba
 have bG:b gR=_:=hTb.fJ.top
 have bF:b gF'=_:=hTb.fre
 have hil:=hTb.fJ.len
 simp only[tbA] at bT bB bG bF hil
 rw[hN0] at bT bF bG
 have wi:IntKind.i64.wrap ((i:Int)+1)=(i:Int)+1:=i64_in (by omega) (by omega)
 obtain⟨N1,hN1⟩: ∃x,N+1=x:=⟨_,rfl⟩
 rw[hN1] at bG
 have wN:IntKind.i64.wrap ((N:Int)+1)=(N1:Int):=by rw[i64_in (by omega) (by omega)];omega
 refine aD ?_
 simp
 refine aD ?_
 simp
 refine⟨fun hi=> ?_,fun hi=> ?_⟩
 ·refine aM (aR ?_)
  refine aD ?_
  simp
  refine aD ?_
  simp[wN]
  refine⟨by omega,by unfold maxLen;omega,fun gr hgr hbr=> ?_⟩
  refine aDR (g:=gr) (s:=2) (els:=List.replicate N1 [.bool false,.nils]) ?_ ?_
  ·simp
  rw[Mq]
  refine aD ?_
  simp
  have rT: ¬ gr=gT':=fun e=>by rw[e,bT] at hbr;cases hbr
  have rR: ¬ gr=gR:=fun e=>by rw[e,bG] at hbr;cases hbr
  have rB: ¬ gr=gB:=fun e=>by rw[e,bB] at hbr;cases hbr
  have rF: ¬ gr=gF':=fun e=>by rw[e,bF] at hbr;cases hbr
  have ri:gr∉ids:=fun hm2=>by
   obtain⟨q,hq⟩:=List.mem_iff_getElem?.1 hm2
   rw[hTb.fJ.row q gr hq] at hbr;cases hbr
  have rbl:bl gr=none:=by
   cases hv:bl gr with
   | none => rfl
   | some y => have := hsb gr y hv; rw [hbr] at this; cases this
  refine fH (fun _:Unit=> [(0,.ptr p.v),(4,.int .i64 N),(5,.loc gT' 6 0 0),(34,.int .i64 m),(35,.int .i64 i),(6,.int .i64 i),(7,.lsl gr 2 0 N1),(8,.int .i64 (sgB p i))]) (fun _=>upd b gr (some ⟨2,zv N1 fun _=>0⟩)) (fun _=>True) 205 ?_ ?_
  ·refine aC ?_
   simp[Pg.v,h.b,hi]
   refine⟨fun cL=> ?_,fun cL=> ?_⟩
   ·simp[aH]
    exact⟨rfl,by simp[Pg.v,h.b,sgB,cL],sub_eq (by simp)⟩
   ·simp[aH]
    exact⟨rfl,by simp[Pg.v,h.b,sgB,cL],sub_eq (by simp)⟩
  rintro⟨⟩ -
  obtain⟨sg,hsg⟩: ∃x,sgB p i=x:=⟨_,rfl⟩
  have sg1:sg.natAbs=1:=by rw[←hsg];unfold sgB;split<;>rfl
  rw[hsg]
  have hpA: ∀c,(sg*pA p n i c).natAbs≤1000:=fun c=>by rw[Int.natAbs_mul,sg1,Nat.one_mul];exact kZ h.am _
  have hpB:(sg*pB p i).natAbs≤1000:=by rw[Int.natAbs_mul,sg1,Nat.one_mul];exact kZ h.bm _
  refine fH (fun _:Unit=> [(0,.ptr p.v),(4,.int .i64 N),(5,.loc gT' 6 0 0),(34,.int .i64 m),(35,.int .i64 i),(6,.int .i64 i),(7,.lsl gr 2 0 N1),(8,.int .i64 sg)]) (fun _=>upd b gr (some ⟨2,zv N1 fun c=>if c<n then sg*pA p n i c else 0⟩)) (fun _=>True) 205 ?_ ?_
  ·refine aC ?_
   simp
   refine aE (Sn p n m i h hi) ?_
   simp
   refine aI (fun j:Nat=> [(0,.ptr p.v),(4,.int .i64 N),(5,.loc gT' 6 0 0),(34,.int .i64 m),(35,.int .i64 i),(6,.int .i64 i),(7,.lsl gr 2 0 N1),(8,.int .i64 sg),(51,.sl (iv (lz n (pA p n i)))),(52,.int .i64 n),(53,.int .i64 j)]) (fun j=>upd b gr (some ⟨2,zv N1 fun c=>if c<j then sg*pA p n i c else 0⟩)) (fun j=>j≤n) (fun j=>n - j) _ 0 (Nat.zero_le _) ⟨rfl,by simp,sub_eq (by simp)⟩ ?_
   intro j hj
   have wj:IntKind.i64.wrap ((j:Int)+1)=(j:Int)+1:=i64_in (by omega) (by omega)
   have wa: ∀c,IntKind.i64.wrap (sg*pA p n i c)=sg*pA p n i c:=fun c=>i64_in (by have:=hpA c;omega) (by have:=hpA c;omega)
   refine aC ?_
   simp
   refine⟨fun hjn=> ?_,fun hjn=> ?_⟩
   ·simp[hjn,wa]
    refine aE (hint _ (hpA j)) ?_
    simp[wj,aB,show j<N1 by omega,Hu]
    refine⟨j+1,by omega,by omega,rfl,by simp,?_⟩
    refine sub_eq ?_
    funext x
    simp only[aA]
    split
    ·congr 2
     exact sC fun c hc=>by
      by_cases e:c=j
      ·rw[if_pos e,if_pos (by omega),e]
      ·rw[if_neg e];grind
    ·rfl
   ·rw[show j=n by omega]
    simp[aH]
    exact⟨rfl,by simp,Sub.refl _⟩
  rintro⟨⟩ -
  refine aD ?_
  have wni:IntKind.i64.wrap ((n:Int)+(i:Int))=((n+i:Nat):Int):=by rw[i64_in (by omega) (by omega)];simp
  obtain⟨ni,hni⟩: ∃x,n+i=x:=⟨_,rfl⟩
  rw[hni] at wni
  refine eP aN [0,1,2,3,4,5,6,7,8] 1 9 (by kernel_rfl) ?_
  simp[Pg.v,h.aY,wni]
  refine aP (hint 1 (by decide)) ?_
  simp[show ni<N1 by omega,show(ni:Int)<N1 by omega]
  refine eV (i:=9) (by kernel_rfl) rfl rfl rfl ?_
  simp[show ni<N1 by omega,Hu]
  refine Dy ?_
  simp
  refine aD ?_
  have wB:IntKind.i64.wrap (sg*pB p i)=sg*pB p i:=i64_in (by omega) (by omega)
  have hNN:N<N1:=by omega
  have Wa:(N:Int)<N1:=by omega
  simp[Pg.v,h.b,hi,wB]
  refine aE (hint _ hpB) ?_
  simp[hNN,Wa,Hu]
  obtain⟨b2,hb2⟩: ∃b2,b2=upd b gr (some ⟨2,zv N1 (eZ p n m i)⟩):=⟨_,rfl⟩
  refine dI [(0,.ptr p.v),(4,.int .i64 N),(5,.loc gT' 6 0 0),(34,.int .i64 m),(35,.int .i64 i),(6,.int .i64 i),(7,.lsl gr 2 0 N1)] 205 b2 ⟨rfl,by simp[Pg.v,h.b,h.aY],?_⟩ ?_
  ·rw[hb2]
   refine sub_eq ?_
   funext x
   simp only[aA]
   split
   ·congr 2
    exact sC fun c hc=>by
     unfold eZ
     rw[hN0,hni,hsg]
     grind
   ·rfl
  have b2r:b2 gr=some ⟨2,zv N1 (eZ p n m i)⟩:=by rw[hb2];simp
  have b2x: ∀x,x≠gr→b2 x=b x:=fun x hx=>by rw[hb2,aG _ _ _ _ hx]
  have b2T:=b2x gT' (Ne.symm rT)
  have b2R:=b2x gR (Ne.symm rR)
  have b2B:=b2x gB (Ne.symm rB)
  have b2F:=b2x gF' (Ne.symm rF)
  have b2i: ∀x,x∈ids→b2 x=b x:=fun x hx=>b2x x fun e=>ri (e▸hx)
  rw[bT] at b2T
  rw[bG] at b2R
  rw[bB] at b2B
  rw[bF] at b2F
  clear hb2
  have nds:=hTb.nd
  simp only[List.nodup_cons,List.mem_cons,not_or] at nds
  obtain⟨⟨nTR,nTB,nTF,nTi⟩,⟨nRB,nRF,nRi⟩,⟨nBF,nBi⟩,nFi,Nn⟩:=nds
  have Ic: ∀x,b2 x=none→x≠gT'∧x≠gR∧x≠gB∧x≠gF'∧x≠gr∧x∉ids:=fun x hx=>by
   refine⟨fun e=> ?_,fun e=> ?_,fun e=> ?_,fun e=> ?_,fun e=> ?_,fun e=> ?_⟩
   ·rw[e,b2T] at hx;cases hx
   ·rw[e,b2R] at hx;cases hx
   ·rw[e,b2B] at hx;cases hx
   ·rw[e,b2F] at hx;cases hx
   ·rw[e,b2r] at hx;cases hx
   ·rw[b2i x e] at hx
    obtain⟨q,hq⟩:=List.mem_iff_getElem?.1 e
    rw[hTb.fJ.row q x hq] at hx;cases hx
  refine aD ?_
  simp[b2T,b2R,appV,elsV,hil]
  intro g4 hg4 hb4
  obtain⟨n4T,n4R,n4B,n4F,n4r,n4i⟩:=Ic g4 hb4
  have tk:(ids.map fun g=> [V.lsl g 2 0 N1]).take i=ids.map fun g=> [V.lsl g 2 0 N1]:=List.take_of_length_le (by simp[hil])
  simp[Ne.symm n4T,Ne.symm n4R,n4T,n4R,Int.not_lt.2 hg4,b2R,hil,tk]
  refine⟨by omega,fun gN hgN hbN=> ?_⟩
  have nN:gN≠gT'∧gN≠gB∧gN≠gF'∧gN≠gr∧gN∉ids∧gN≠g4:=by
   by_cases e:gN=gR
   ·subst e
    exact⟨Ne.symm nTR,nRB,nRF,Ne.symm rR,nRi,Ne.symm n4R⟩
   ·obtain⟨q1,q2⟩:=hbN e
    obtain⟨w1,w2,w3,w4,w5,w6⟩:=Ic gN q2
    exact⟨w1,w3,w4,w5,w6,q1⟩
  obtain⟨nNT,nNB,nNF,nNr,nNi,nN4⟩:=nN
  simp[Ne.symm nNT,nNT,Ne.symm n4T,nTR,b2T]
  obtain⟨b3,hb3⟩: ∃b3,b3=upd (upd (rem b2 gR) gN (some ⟨1,(ids++ [gr]).map fun g=> [.lsl g 2 0 N1]⟩)) gT' (some ⟨6,[[.lsl gN 1 0 (i+1),.bool false,.sl (iv (lim 1)),.lsl gB 1 0 i,.int .i64 N,.lsl gF' 1 0 N]]⟩):=⟨_,rfl⟩
  refine dI [(0,.ptr p.v),(4,.int .i64 N),(5,.loc gT' 6 0 0),(34,.int .i64 m),(35,.int .i64 i),(6,.int .i64 i)] 205 b3 ⟨rfl,by simp[Pg.v,h.b,h.aY],?_⟩ ?_
  ·rw[hb3]
   intro z y hz
   simp only[aA,aF] at hz ⊢
   grind
  have b3N:b3 gN=some ⟨1,(ids++ [gr]).map fun g=> [.lsl g 2 0 N1]⟩:=by rw[hb3];simp[nNT]
  have b3T:b3 gT'=some ⟨6,[[.lsl gN 1 0 (i+1),.bool false,.sl (iv (lim 1)),.lsl gB 1 0 i,.int .i64 N,.lsl gF' 1 0 N]]⟩:=by rw[hb3];simp
  have b3x: ∀x,x≠gT'→x≠gN→x≠gR→b3 x=b2 x:=fun x x1 x2 x3=>by rw[hb3,aG _ _ _ _ x1,aG _ _ _ _ x2,aF,if_neg x3]
  have b3B:=b3x gB (Ne.symm nTB) (Ne.symm nNB) (Ne.symm nRB)
  rw[b2B] at b3B
  clear hb3
  refine cQ aN (rem b3 gB) (dF b3 gB) [0,1,2,3,4,5,6,7,8,9,10] 5 15 (by kernel_rfl) ?_
  simp[nTB,b3T,Pg.v,h.aY,wni]
  refine Dq 11 false ?_
  simp
  intro g5 hg5 hb5
  have n5:g5≠gT'∧g5≠gN∧g5≠gB:=⟨fun e=>(by rw[e,b3T] at hb5;cases hb5),fun e=>(by rw[e,b3N] at hb5;cases hb5),fun e=>(by rw[e,b3B] at hb5;cases hb5)⟩
  obtain⟨n5T,n5N,n5B⟩:=n5
  have r5:rem b3 gB g5=none:=by rw[aF,if_neg n5B];exact hb5
  have Q5: ∀X,Sub (rem b3 gB) (upd b3 g5 X):=fun X z y hz=>by
   rw[aF] at hz
   rw[aA]
   grind
  refine⟨Q5 _,Dq 12 false ?_⟩
  have tkB:(iv (lb i fun q=>n+q)).take i=iv (lb i fun q=>n+q):=List.take_of_length_le (by simp)
  simp[n5B,Ne.symm n5B,appV,elsV,Int.not_lt.2 hg5,b3B,tkB]
  have hlb:iv (lb i fun q=>n+q)++ [[.int .i64 ni]]=iv (lb (i+1) fun q=>n+q):=by rw[F7,aT,hni];rfl
  rw[hlb]
  refine⟨by omega,fun gM hgM hbM=> ?_⟩
  have nM:gM≠gT'∧gM≠gN∧gM≠gF'∧gM≠gr∧gM∉ids∧gM≠g5:=by
   by_cases e:gM=gB
   ·subst e
    exact⟨Ne.symm nTB,Ne.symm nNB,nBF,Ne.symm rB,nBi,Ne.symm n5B⟩
   ·obtain⟨q1,q2⟩:=hbM e
    have q3:gM≠gT':=fun e2=>by rw[e2,b3T] at q2;cases q2
    have q4:gM≠gN:=fun e2=>by rw[e2,b3N] at q2;cases q2
    by_cases e3:gM=gR
    ·subst e3
     exact⟨q3,q4,nRF,Ne.symm rR,nRi,q1⟩
    ·rw[b3x gM q3 q4 e3] at q2
     obtain⟨w1,w2,w3,w4,w5,w6⟩:=Ic gM q2
     exact⟨q3,q4,w4,w5,w6,q1⟩
  obtain⟨nMT,nMN,nMF,nMr,nMi,nM5⟩:=nM
  have kI: ∀X Y,Sub (rem b3 gB) (upd (rem (upd b3 g5 X) gB) gM Y):=fun X Y z y hz=>by
   rw[aF] at hz
   rw[aA,aF,aA]
   grind
  have jP: ∀X Y Z,Sub (upd (upd (rem b3 gB) gM Y) gT' Z) (upd (upd (rem (upd b3 g5 X) gB) gM Y) gT' Z):=fun X Y Z z y hz=>by
   simp only[aA,aF] at hz ⊢
   grind
  refine⟨kI _ _,Dq 13 false ?_⟩
  simp
  refine⟨kI _ _,Dq 14 false ?_⟩
  simp
  refine⟨kI _ _,Dq 15 true ?_⟩
  simp[Ne.symm nMT,nTB,n5T,Ne.symm n5T,b3T]
  refine Dd ?_
  simp
  refine aC ?_
  simp[wi,aB]
  obtain⟨b4,gV⟩: ∃b4,b4=upd (upd (rem b3 gB) gM (some ⟨1,iv (lb (i+1) fun q=>n+q)⟩)) gT' (some ⟨6,[[.lsl gN 1 0 (i+1),.bool false,.sl (iv (lim 1)),.lsl gM 1 0 (i+1),.int .i64 N,.lsl gF' 1 0 N]]⟩):=⟨_,rfl⟩
  have b4T:b4 gT'=some ⟨6,[[.lsl gN 1 0 (i+1),.bool false,.sl (iv (lim 1)),.lsl gM 1 0 (i+1),.int .i64 N,.lsl gF' 1 0 N]]⟩:=by rw[gV];simp
  have b4M:b4 gM=some ⟨1,iv (lb (i+1) fun q=>n+q)⟩:=by rw[gV];simp[nMT]
  have b4x: ∀x,x≠gT'→x≠gM→x≠gB→b4 x=b3 x:=fun x x1 x2 x3=>by rw[gV,aG _ _ _ _ x1,aG _ _ _ _ x2,aF,if_neg x3]
  have b4o: ∀x,x≠gT'→x≠gM→x≠gB→x≠gN→x≠gR→x≠gr→b4 x=b x:=fun x x1 x2 x3 x4 x5 x6=>by rw[b4x x x1 x2 x3,b3x x x1 x4 x5,b2x x x6]
  have fr: ∀x,b x=none→bl x=none:=fun x hx=>by
   cases hv:bl x with
   | none => rfl
   | some y => have := hsb x y hv; rw [hx] at this; cases this
  have blR:bl gR=none:=hal gR (by simp[TG.all])
  have blB:bl gB=none:=hal gB (by simp[TG.all])
  have blN:bl gN=none:=by
   by_cases e:gN=gR
   ·rw[e];exact blR
   ·have:=(hbN e).2
    rw[b2x gN nNr] at this;exact fr gN this
  have blM:bl gM=none:=by
   by_cases e:gM=gB
   ·rw[e];exact blB
   ·by_cases e3:gM=gR
    ·rw[e3];exact blR
    ·have:=(hbM e).2
     rw[b3x gM nMT nMN e3,b2x gM nMr] at this;exact fr gM this
  have Q7:=hTb.snoc (b':=b4) gN gM gr (by simp only[tbA];rw[hN0,hN1,b4x gN nNT (Ne.symm nMN) nNB,b3N]) (by simp only[tbA];exact b4M) (by simp only[tbA];rw[hN0,b4T];rfl)
   (by simp only;exact b4o gF' (Ne.symm nTF) (Ne.symm nMF) (Ne.symm nBF) (Ne.symm nNF) (Ne.symm nRF) (Ne.symm rF))
   (fun x hx=>by simp only at hx;exact b4o x (fun e=>nTi (e▸hx)) (fun e=>nMi (e▸hx)) (fun e=>nBi (e▸hx)) (fun e=>nNi (e▸hx)) (fun e=>nRi (e▸hx)) (fun e=>ri (e▸hx)))
   (by simp only[tbA];rw[hN0,hN1,b4x gr rT (Ne.symm nMr) rB,b3x gr rT (Ne.symm nNr) rR,b2r]) hgr hgN hgM (by
     simp only[List.nodup_cons,List.mem_cons,not_or,List.mem_append,List.mem_singleton,List.nodup_append,List.not_mem_nil,or_false]
     refine⟨⟨Ne.symm nNT,Ne.symm nMT,nTF,nTi,Ne.symm rT⟩,⟨Ne.symm nMN,nNF,nNi,nNr⟩,⟨nMF,nMi,nMr⟩,⟨nFi,Ne.symm rF⟩,Nn,by simp,fun a ha c hc=> ?_⟩
     rw[hc];exact fun e=>ri (e▸ha))
  refine⟨⟨i+1,⟨gT',gN,gM,gF',ids++ [gr]⟩,b4⟩,⟨by simp only;omega,Q7,rfl,rfl,fun x hx=> ?_,fun x y hx=> ?_⟩,by simp only;omega,rfl,by simp[h.aY,h.b],by rw[gV];exact jP _ _ _⟩
  ·simp only[TG.all,List.mem_cons,List.mem_append,List.not_mem_nil,or_false] at hx
   rcases hx with rfl | rfl | rfl | rfl | hx | rfl
   ·exact hbT
   ·exact blN
   ·exact blM
   ·exact hbF
   ·exact hal x (by simp[TG.all,hx])
   ·exact rbl
  ·have nx: ∀z,bl z=none→x≠z:=fun z hz e=>by rw[e,hz] at hx;cases hx
   simp only
   rw[b4o x (nx _ hbT) (nx _ blM) (nx _ blB) (nx _ blN) (nx _ blR) (nx _ rbl)]
   exact hsb x y hx
 ·have hie:i=m:=by omega
  subst hie
  clear hi him
  refine⟨by omega,by unfold maxLen;omega,fun gO hgO hbO=> ?_⟩
  have oT: ¬ gO=gT':=fun e=>by rw[e,bT] at hbO;cases hbO
  have oR: ¬ gO=gR:=fun e=>by rw[e,bG] at hbO;cases hbO
  have oB: ¬ gO=gB:=fun e=>by rw[e,bB] at hbO;cases hbO
  have oF: ¬ gO=gF':=fun e=>by rw[e,bF] at hbO;cases hbO
  have oi:gO∉ids:=fun hm2=>by
   obtain⟨q,hq⟩:=List.mem_iff_getElem?.1 hm2
   rw[hTb.fJ.row q gO hq] at hbO;cases hbO
  have nds:=hTb.nd
  simp only[List.nodup_cons,List.mem_cons,not_or] at nds
  obtain⟨⟨nTR,nTB,nTF,nTi⟩,⟨nRB,nRF,nRi⟩,⟨nBF,nBi⟩,nFi,Nn⟩:=nds
  refine aI (fun k:Nat=> [(0,.ptr p.v),(4,.int .i64 N),(5,.loc gT' 6 0 0),(11,.lsl gO 1 0 N),(117,.int .i64 N),(118,.int .i64 k)]) (fun k=>upd (upd b gF' (some ⟨1,lv N fun c=>decide (c<k∧c<n)⟩)) gO (some ⟨1,iv (lz N fun c=>if c<k then oA n i c else 0)⟩)) (fun k=>k≤N) (fun k=>N - k) _ 0 (Nat.zero_le _) ⟨rfl,by simp[Pg.v,h.b,h.aY],?_⟩ ?_
  ·refine sub_eq ?_
   funext x
   simp only[aA]
   rw[Ko]
   split
   ·simp
   ·split
    ·rename_i e;rw[e,bF];simp
    ·rfl
  intro k hk
  have wk:IntKind.i64.wrap ((k:Int)+1)=(k:Int)+1:=i64_in (by omega) (by omega)
  refine aD ?_
  simp
  refine aD ?_
  simp
  refine⟨fun hkn=> ?_,fun hkn=> ?_⟩
  ·refine aM (aR ?_)
   refine aD ?_
   simp
   refine aM ?_
   refine eP aN [0,1,2,3,4,5,6,7,8,9,10,11] 1 12 (by kernel_rfl) ?_
   have nOT:=Ne.symm oT
   simp[Pg.v,h.aY,bT,nOT,nTF,hkn]
   refine eV (i:=12) (by kernel_rfl) rfl rfl rfl ?_
   simp[Ne.symm oF,hkn,As, -Bool.decide_and]
   refine Dy ?_
   simp
   refine aC ?_
   simp[Pg.v,h.aY,oF,hkn,wk,aB,Ua]
   refine⟨fun hnk=> ?_,fun hnk=> ?_⟩
   ·refine aC ?_
    simp[wk,aB]
    refine⟨k+1,by omega,by omega,rfl,by simp[h.aY],sub_eq ?_⟩
    have e1:(lv N fun c=>decide (c<k+1)&& decide (c<n))=lv N fun c=>if c=k then decide (k<n) else decide (c<k)&& decide (c<n):=oG fun c _=>by
     by_cases e:c=k
     ·subst e;simp
     ·rw[if_neg e,show decide (c<k+1)=decide (c<k) from by simp;omega]
    have e2:(lz N fun c=>if c<k+1 then oA n i c else 0)=lz N fun c=>if c=k then -1 else if c<k then oA n i c else 0:=xW fun c hc=>by
     by_cases e:c=k
     ·subst e;rw[if_pos (by omega),if_pos rfl];unfold oA;rw[if_pos ⟨hnk,by omega⟩]
     ·rw[if_neg e];grind
    funext x
    simp only[aA]
    rw[e1,e2]
    grind
   ·refine aC ?_
    simp[wk,aB]
    refine⟨k+1,by omega,by omega,rfl,by simp[h.aY],sub_eq ?_⟩
    have e1:(lv N fun c=>decide (c<k+1)&& decide (c<n))=lv N fun c=>if c=k then decide (k<n) else decide (c<k)&& decide (c<n):=oG fun c _=>by
     by_cases e:c=k
     ·subst e;simp
     ·rw[if_neg e,show decide (c<k+1)=decide (c<k) from by simp;omega]
    have e2:(lz N fun c=>if c<k+1 then oA n i c else 0)=lz N fun c=>if c<k then oA n i c else 0:=xW fun c hc=>by
     by_cases e:c=k
     ·subst e;rw[if_pos (by omega),if_neg (by omega)];unfold oA;rw[if_neg (by omega)]
     ·grind
    funext x
    simp only[aA]
    rw[e1,e2]
    grind
  ·have hke:k=N:=by omega
   subst hke
   clear hkn hk
   obtain⟨bM,hbM⟩: ∃bM,bM=upd (upd b gF' (some ⟨1,lv k fun c=>decide (c<k)&& decide (c<n)⟩)) gO (some ⟨1,iv (lz k fun c=>if c<k then oA n i c else 0)⟩):=⟨_,rfl⟩
   rw[←hbM]
   have bMF:bM gF'=some ⟨1,lv k (okA n)⟩:=by
    rw[hbM]
    simp[Ne.symm oF]
    exact oG fun c hc=>by unfold okA;simp[hc]
   have bMO:bM gO=some ⟨1,iv (lz k (oA n i))⟩:=by
    rw[hbM]
    simp
    rw[xW fun c hc=>by rw[if_pos hc]]
   have bMx: ∀x,x≠gF'→x≠gO→bM x=b x:=fun x x1 x2=>by rw[hbM,aG _ _ _ _ x2,aG _ _ _ _ x1]
   clear hbM
   have hTM:=(hTb.aDJ (b':=bM) (okA n) (by simp only[tbA];rw[hN0];exact bMF) (fun x y hx hx2 hy=>by
    rw[bMx x hx2 fun e=> ?_];exact hy
    have:=hal x hx
    rw[e] at hy;rw[hbO] at hy;cases hy)).first h
   obtain⟨e,h1,h2,h3,h4⟩:=Lp.qJ (F:=fO (n+i) (okA n)) (N':=n+i) h.init (fun c hc=>hc.1) (Nat.le_refl _) (fun c hc=>⟨by omega,by omega,by unfold okA;simpa using hc⟩)
   rw[←Hg] at h1 h2 h3
   have hnx:Lp.nx (n+i) (n+i) (List.range i) (Lp.okW i (wO (oA n i)) (fO (n+i) (okA n))) (Lp.orb (Lp.nx (n+i) (n+i) (List.range i) (Lp.okW i (wO (oA n i)) (fO (n+i) (okA n)))) (Lp.jO n (eQ p n i)) e)=none:=by
    unfold Lp.nx at h1 ⊢
    rw[h1]
   have hoA: ∀c,(oA n i c).natAbs≤1000:=fun c=>by unfold oA;split<;>decide
   have L5:=fun K'=>U6 (bl:=bM) (K:=K') n i (eQ p n i) (List.range i) ⟨gT',gR,gB,gF',ids⟩ (Lp.jO n (eQ p n i)) (okA n) (oA n i) gO e hml hnl (kD i) hoA (.inl fun q hq=>by simpa using hq) hnx h2 h3 hTM (by rw[hN0];exact bMO) hgO (by simp[TG.all,oT,oR,oB,oF,oi])
   rw[Hg] at h1
   simp only[Hg] at L5
   obtain⟨t,ht⟩: ∃t,Lp.orb (Lp.nx (n+i) (n+i) (List.range i) (Lp.okW i (Lp.aZ n i) (fO (n+i) (okA n)))) (Lp.jO n (eQ p n i)) e=t:=⟨_,rfl⟩
   rw[ht] at h1 h4
   simp only[ht] at L5
   simp only[hN0] at L5
   rw[hN0] at h1
   refine L5 _ (fun b' _ hT2 hx2=> ?_) (fun b' k' hk'=>absurd hk' (by rw[h1];simp))
   clear L5
   generalize frK i (oA n i) t (okA n) k=fr at hT2
   simp
   have Wa:k<N1:=by omega
   have aBA:(k:Int)<N1:=by omega
   have cT:b' gT'=_:=hT2.hd
   have cB:b' gB=_:=hT2.ba
   have cG:b' gR=_:=hT2.fJ.top
   have cF:b' gF'=_:=hT2.fre
   have hrl:(List.range i).length=i:=by simp
   simp only[bV,hrl,hN0,hN1] at cT cB cG cF
   have cB2:lb i (fun q=>t.bs (atR (List.range i) q))=lb i t.bs:=List.map_congr_left fun q hq=>by
    have hq':q<i:=by simpa using hq
    simp only[cZ hq']
   rw[cB2] at cB
   simp[cT]
   have cS:Sub bl b':=fun x y hx=>by
    have h9:=hsb x y hx
    have x1:x∉TG.all ⟨gT',gR,gB,gF',ids⟩:=fun hm2=>by have:=hal x hm2;rw[this] at hx;cases hx
    have x2:x≠gF':=fun e=>x1 (by rw[e];simp[TG.all])
    have x3:x≠gO:=fun e=>by rw[e,hbO] at h9;cases h9
    exact hx2 x y (by rw[bMx x x2 x3];exact h9) x1
   refine aI (fun j:Nat=> [(0,.ptr p.v),(4,.int .i64 k),(5,.loc gT' 6 0 0),(149,.lsl gB 1 0 i),(150,.int .i64 i),(151,.int .i64 j)]) (fun _=>b') (fun j=>j≤i∧ ∀q,q<j→ ¬ (n≤t.bs q∧0<t.X q (n+i))) (fun j=>i - j) _ 0 ⟨Nat.zero_le _,fun q hq=>by omega⟩ ⟨rfl,by simp[Pg.v,h.b,h.aY],Sub.refl _⟩ ?_
   rintro j ⟨hj,bO⟩
   have wj:IntKind.i64.wrap ((j:Int)+1)=(j:Int)+1:=i64_in (by omega) (by omega)
   refine aD ?_
   simp
   refine aD ?_
   simp
   refine⟨fun hji=> ?_,fun hji=> ?_⟩
   ·refine aM (aR ?_)
    refine aD ?_
    simp[cB,hji]
    obtain⟨gi,hgi,zA,xJ,nG⟩:=hT2.fJ.at j (by simp only[bV,hrl];exact hji)
    simp only[bV] at nG
    rw[hN0,hN1,cZ hji] at nG
    obtain⟨zx,hzx⟩: ∃zx,Lp.zt i (eQ p n i) t j k=zx:=⟨_,rfl⟩
    refine aD ?_
    simp
    refine bP [(0,.ptr p.v),(4,.int .i64 k),(5,.loc gT' 6 0 0),(149,.lsl gB 1 0 i),(150,.int .i64 i),(151,.int .i64 j),(13,.int .i64 j),(14,.int .i64 (t.bs j))] _ b' 175 (.bool (decide (n≤t.bs j∧0<zx))) ⟨rfl,by simp[Pg.v,h.b,h.aY],Sub.refl _⟩ rfl ?_ ?_
    ·simp[Pg.v,h.aY]
     by_cases hnb:n≤t.bs j
     ·have hgj: ∀h,ids[j]'h=gi:=fun h=>by rw[List.getElem?_eq_getElem h] at hgi;exact Option.some.inj hgi
      simp[hnb,Nat.not_lt.2 hnb,cT,cG,hji,hgj,nG,Wa,aBA,hil]
      refine aE (lF _) ?_
      rw[hzx]
      have hsp:0<zx.sign ↔ 0<zx:=by
       rcases Int.lt_trichotomy zx 0 with q | q | q
       ·rw[Int.sign_eq_neg_one_of_neg q];omega
       ·rw[q];decide
       ·rw[Int.sign_eq_one_of_pos q];omega
      simp[hsp]
     ·simp[hnb]
    have hzs:=Lp.oV h4.inv.z hji (show n+i<n+i+1 by omega)
    rw[hN0,hzx] at hzs
    have hzero:Lp.rc i (Lp.aZ n i) t (n+i)=0→t.bs j<n∨t.X j (n+i)=0:=fun h0=>by
     rcases Nat.lt_or_ge (t.bs j) n with g | g
     ·exact .inl g
     ·exact .inr (h4.zero h0 j hji (by omega))
    refine aC ?_
    simp
    refine⟨fun c1 c2=> ?_,fun hno=> ?_⟩
    ·rw[dQ]
     refine⟨[.nilp,.bool false],by simp,hN b' t h4 (fun h0=> ?_) cS⟩
     have:=hzs.1.1 c2
     rw[←hN0] at this
     rcases hzero h0 with g | g
     ·omega
     ·rw[g] at this;exact absurd this (by decide)
    ·refine aC ?_
     simp[wj,aB]
     refine⟨j+1,⟨by omega,fun q hq c1 c2=> ?_⟩,by omega,rfl,by simp[h.aY,h.b],Sub.refl _⟩
     by_cases e:q=j
     ·subst e
      rw[hN0] at c2
      have g1:=hno c1
      have g2:=hzs.1.2 c2
      omega
     ·exact bO q (by omega) ⟨c1,c2⟩
   ·have hje:j=i:=by omega
    subst hje
    have hp0:Lp.rc j (Lp.aZ n j) t (n+j)=0:=by
     rw[Lp.sK rfl]
     refine Lp.iD fun q hq=> ?_
     split
     ·rename_i hb
      have h8:=h4.inv.nn q hq
      have h9: ¬ 0<t.X q (n+j):=fun g=>bO q hq ⟨hb.1,g⟩
      grind
     ·rfl
    simp[cT]
    refine aI (fun c:Nat=> [(0,.ptr p.v),(4,.int .i64 k),(5,.loc gT' 6 0 0),(181,.int .i64 k),(182,.int .i64 c)]) (fun c=>upd b' gF' (some ⟨1,lv k fun x=>if x<c then okA n x else fr x⟩)) (fun c=>c≤k) (fun c=>k - c) _ 0 (Nat.zero_le _) ⟨rfl,by simp[Pg.v,h.b,h.aY],?_⟩ ?_
    ·refine sub_eq ?_
     funext x
     simp only[aA]
     split
     ·rename_i e;rw[e,cF];simp
     ·rfl
    intro c hc
    have wc:IntKind.i64.wrap ((c:Int)+1)=(c:Int)+1:=i64_in (by omega) (by omega)
    refine aD ?_
    simp
    refine aD ?_
    simp
    refine⟨fun hck=> ?_,fun hck=> ?_⟩
    ·refine aM (aR ?_)
     refine aD ?_
     simp
     refine eP aN [0,1,2,3,4,5,6,7,8,9,10,11] 1 12 (by kernel_rfl) ?_
     simp[Pg.v,h.aY,cT,nTF,hck]
     refine eV (i:=12) (by kernel_rfl) rfl rfl rfl ?_
     simp[hck,As]
     refine Dy ?_
     simp
     refine aC ?_
     simp[wc,aB]
     refine⟨c+1,by omega,by omega,rfl,by simp[h.aY],sub_eq ?_⟩
     funext x
     simp only[aA]
     split
     ·congr 2
      exact oG fun y hy=>by
       by_cases e:y=c
       ·subst e;simp[okA]
       ·rw[if_neg e];grind
     ·rfl
    ·have hce:c=k:=by omega
     subst hce
     obtain⟨bL,hbL⟩: ∃bL,bL=upd b' gF' (some ⟨1,lv c fun x=>if x<c then okA n x else fr x⟩):=⟨_,rfl⟩
     rw[←hbL]
     have bLF:bL gF'=some ⟨1,lv c (okA n)⟩:=by rw[hbL,aU,oG fun x hx=>by rw[if_pos hx]]
     have bLx: ∀x,x≠gF'→bL x=b' x:=fun x x1=>by rw[hbL,aG _ _ _ _ x1]
     clear hbL
     have hTL:=hT2.aDJ (b':=bL) (okA n) (by simp only[bV];rw[hN0];exact bLF) (fun x y hx hx2 hy=>by rw[bLx x hx2];exact hy)
     simp[Pg.v,h.aY]
     refine Kn n j (eQ p n j) ⟨gT',gR,gB,gF',ids⟩ t (okA n) hml hnl (h4.kB hp0) hTL fun b5 g5 e1 e2 hT5 aM5 hb5=> ?_
     simp
     rw[dQ]
     have n5: ∀x y,bl x=some y→x∉TG.all ⟨gT',gR,gB,gF',ids⟩:=fun x y hx hm2=>by have:=hal x hm2;rw[this] at hx;cases hx
     refine⟨[.loc g5.T 6 0 0,.bool true],by simp[e1],hS b5 g5 t h4 hp0 hT5 (fun x hx=> ?_) fun x y hx=> ?_⟩
     ·rcases aM5 x hx with g1 | g1
      ·exact hal x g1
      ·cases hv:bl x with
       | none => rfl
       | some y =>
         have g2:=n5 x y hv
         rw[bLx x fun e=>g2 (by rw[e];simp[TG.all]),cS x y hv] at g1
         cases g1
     ·have g2:=n5 x y hx
      exact hb5 x y (by rw[bLx x fun e=>g2 (by rw[e];simp[TG.all])];exact cS x y hx) g2

section
variable {P : Program}
def uns (cs:List V):List (List V):=cs.map fun x=> [x]
def TS (P:Program) (o:Oper) (K:St→Prop) (σ:St):Prop:= ∀(w0:World) (M F:Nat→Prop) (a:Act) (w:World) (Q:Exit→Act→World→Prop),Sim w0 M F σ a w→o.wp P a w (Nx w0 M F K) Q
end

structure Stg (n m : Nat) (E : Nat → Nat → Rat) (C : Nat → Rat) (rows : List Nat) (q : Nat) (fr : Nat → Bool) (t : Lp.Tab) : Prop where
 mid:Lp.Mid n m 1000 E rows (fO (n+m) fr) t
 sel:Lp.Sel n m (n+m) E C q (fO (n+m) fr)
def fxs (n:Nat) (x:Nat→Rat):List (List V):=(List.range n).map fun c=> [fv (some (x c))]
def aQU (n:Nat) (C:Nat→Rat):Option (Option (Nat→Rat))→V
 | none => .tup [.int .i64 2, .sl [], .nilp]
 | some none => .tup [.int .i64 3, .sl [], .nilp]
 | some (some x) => .tup [.int .i64 0, .sl (fxs n x), fv (some (Lp.dot n C x))]

structure aOM where
 q:Nat
 t:Lp.Tab
 fr:Nat→Bool
 ob:List Int
 b:Int→Option Blk
def aOF (q:Nat):Nat→Int:=fun c=>if c=q then -1 else 0
def fxp (n k:Nat):List (List V):=(List.range n).map fun c=>if c<k then [fv (some 0)] else [.nilp]
noncomputable def xUp (N : Nat) (rows : List Nat) (t : Lp.Tab) (i : Nat) : Nat → Rat := fun c => Lp.S i fun p => if t.bs (atR rows p) = c then t.X (atR rows p) N else 0
theorem Gz {m N:Nat} {E:Nat→Nat→Rat} {rows:List Nat} {t:Lp.Tab} (h:Lp.TI m E t) (hr:Rows m rows) {i:Nat} (hi:i<rows.length) (c:Nat):(if c=t.bs (atR rows i) then t.X (atR rows i) N else xUp N rows t i c)=xUp N rows t (i+1) c:=by
 show _=xUp N rows t i c+(if t.bs (atR rows i)=c then t.X (atR rows i) N else 0)
 by_cases e:c=t.bs (atR rows i)
 ·rw[if_pos e,if_pos e.symm]
  have:xUp N rows t i c=0:=Lp.iD fun p hp=>by
   refine if_neg fun e2=> ?_
   have h1:=h.inj (hr.lt (cH (show p<rows.length by omega))) (hr.lt (cH hi)) (e2.trans e)
   have:=hr.inj (show p<rows.length by omega) hi h1
   omega
  rw[this];grind
 ·rw[if_neg e,if_neg (Ne.symm e)];grind
theorem Nz {n m N:Nat} {rows:List Nat} {t:Lp.Tab} (hr:Rows m rows) (hd: ∀i,i<m→i∉rows→n≤t.bs i) {c:Nat} (hc:c<n):xUp N rows t rows.length c=Lp.xb m N t c:=by
 unfold xUp Lp.xb
 exact hr.sum (fun i=>if t.bs i=c then t.X i N else 0) fun i hi hn=>if_neg (by have:=hd i hi hn;omega)

noncomputable def Dt (n : Nat) (C : Nat → Rat) : Option (Option (Nat → Rat)) → V
 | none => .agg [.int .i64 2, .sl [], .bool false, .sl [], .sl []]
 | some none => .agg [.int .i64 3, .sl [], .bool false, .sl [], .sl []]
 | some (some x) => .agg (.int .i64 0 :: .sl (rqs n x) :: (rq (Lp.dot n C x)).c)
theorem Js {p:Pg} {n m:Nat} (h:PgN p n m) (c:Nat):Lp.isInt (wO (pC p) c)∧ -((1000:Nat):Rat)≤wO (pC p) c∧wO (pC p) c≤((1000:Nat):Rat):=by
 have:(pC p c).natAbs≤1000:=kZ h.cm c
 refine⟨⟨_,rfl⟩,?_,?_⟩
 ·rw[show -((1000:Nat):Rat)=((-1000:Int):Rat) by decide+kernel];exact Rat.intCast_le_intCast.2 (by omega)
 ·rw[show((1000:Nat):Rat)=((1000:Int):Rat) by decide+kernel];exact Rat.intCast_le_intCast.2 (by omega)
theorem Pk {p:Pg} {n m:Nat} (h:PgN p n m) {c:Nat} (hc:n≤c):wO (pC p) c=0:=by
 show((pC p c:Int):Rat)=0
 rw[show pC p c=0 by unfold pC;rw[List.getD_eq_getElem?_getD,List.getElem?_eq_none (by have:=h.cl;omega)];rfl];rfl
theorem Sv {n m b:Nat} {t:Lp.Tab} {w:Nat→Rat} (hz: ∀i,i<m→ ¬ t.bs i<n→t.X i b=0) (hw:w b=0): -Lp.rc m w t b=Lp.dot n w (Lp.xb m b t):=by
 have:Lp.dot n w (Lp.xb m b t)=Lp.S m fun i=>t.X i b*w (t.bs i):=by
  unfold Lp.dot Lp.xb
  exact Lp.vC t.bs (fun j=>t.X j b) w hz
 rw[this]
 unfold Lp.rc
 rw[hw];grind
theorem Ag {bl:Int→Option Blk} {K:V→(Int→Option Blk)→Prop} (p:Pg) (n m:Nat) (h:PgN p n m) (g:SG) (rows:List Nat) (U:Lp.Tab) (hr:Rows m rows) (hI:mJ n m (eQ p n m) rows U) (hlow: ∀i,i∈rows→U.bs i<n) (hS:SS bl g (snV rows n (n+m) m (wO (pC p)) U))
  (hT: ∀b' t,mJ n m (eQ p n m) rows t→(∀i,i∈rows→t.bs i<n)→Lp.rX n m (eQ p n m) (n+m) (wO (pC p)) (Lp.xb m (n+m) t)→SS b' g (snV rows n (n+m) m (wO (pC p)) t)→(∀x y,bl x=some y→x∉g.all→b' x=some y)→K (.bool true) b')
  (hF: ∀b',Lp.Unb n m (eQ p n m) (n+m) (wO (pC p))→(∃x,Lp.iV n m (eQ p n m) (n+m) x)→(∀x y,bl x=some y→x∉g.all→b' x=some y)→K (.bool false) b'):
  cO Tryz.prog 190 [.loc g.T 4 0 0,.bool true] bl K:=by
 have hml:=h.ml
 have hnl:=h.nl
 have R:Lp.rW n m (n+m) (n+1) n (n+m+1) (Lp.wl (wO (pC p))) (fun c=>c<n) rows (Lp.okL m n (wO (pC p))):=Lp.Ri (by omega) (by omega)
 obtain⟨e,h1,h2,h3⟩:=R.ends hI
 have hlw:=R.low (fun c hc=>hc) h3 hlow e (Nat.le_refl _)
 have hIe:=h3 e (Nat.le_refl _)
 have Cw:=Lp.yE hIe hlw h1
 have hR:Hn n m n (eQ p n m) rows true (wO (pC p)) (Lp.okL m n (wO (pC p))):=by
  refine⟨hml,hnl,by omega,hr,fun T hT i hi hn=>(hT.dead i hi hn).1,fun c _=>Js h c,fun T hT j hj hb hok=> ?_⟩
  obtain⟨q,hq,e1⟩:=hb
  obtain⟨z,_,g2,_⟩:=hok
  have e2:=Lp.kP hT.z.ti (Lp.wl (wO (pC p)) z) (hr.lt (cH hq))
  simp only at e1
  rw[e1] at e2
  simp only at g2
  rw[e2] at g2
  exact absurd g2 (by decide)
 refine l10Run_cp hR g U e (fun T hT j hj hnb=> ?_) h1 h2 h3 hS (fun b' hf hS' hx=> ?_) (fun b' k hk hl hx=> ?_)
 ·have hV:=hR.view hT
  have hco:(snV rows n (n+m) m (wO (pC p)) T).co j=Lp.rc m (wO (pC p)) T j:=by
   show Lp.rc m (wO (pC p)) T (if j<n then j else n+m)=_
   rw[if_pos hj]
  exact⟨_,Lp.Fi,G7 hV j hj hnb hco⟩
 ·rcases Cw with ⟨_,g2⟩| ⟨⟨k,g1,_⟩,_⟩
  ·exact hT b' _ hIe hlw g2 hS' hx
  ·rw[hf] at g1;cases g1
 ·rcases Cw with ⟨g1,_⟩| ⟨_,g2⟩
  ·rw[hk] at g1;cases g1
  ·exact hF b' g2 ⟨_,Lp.rN hIe.z.ti hIe.nn (hIe.zero hlw)⟩ hx
theorem Mh {bl:Int→Option Blk} {k:Int} {v x:V} {a:Bool} {b c:List (List V)} (hc:V.cl v=false) (h:frz bl 1 v=some x):frz bl 2 (.agg [.int .i64 k,v,.bool a,.sl b,.sl c])=some (.agg [.int .i64 k,x,.bool a,.sl b,.sl c]):=by
 rw[frz,if_neg (by simp only[List.all_cons,hc];simp)]
 simp[List.mapM_cons,h,frz]
structure aCG where
 j:Nat
 gX:Int
 b:Int→Option Blk
set_option maxHeartbeats 2000000 in
theorem U5 (p:Pg) (n m:Nat) (h:PgN p n m):RO Tryz.prog 123 [.agg p.v] (Dt n (wO (pC p)) (Lp.opt n m (eQ p n m) (n+m) (wO (pC p)))):=by
 have hml:=h.ml
 have hnl:=h.nl
 refine aJ Tryz.func123 rfl rfl (by rw[Tryz.ntmps123];simp) fun bl=> ?_
 rw[Tryz.ntmps123,Tryz.results123]
 refine aD ?_
 simp[Pg.v]
 intro g1 hg1 hb1
 intro g2 hg2 Ti hb2
 obtain⟨b0,hb0⟩: ∃b0,b0=upd bl g2 (some ⟨5,[[.int .i64 0,.nils,.bool false,.nils,.nils]]⟩):=⟨_,rfl⟩
 refine cE 1 1 (.ptr p.v) b0 (by rw[hb0];intro z b hz;simp only[aA] at hz ⊢;grind) (by simp[frz,dropB,hb0,hb1,Ti,Ne.symm Ti,V.cl,Pg.v]) ?_
 refine dI [(1,.ptr p.v),(2,.loc g2 5 0 0)] 87 b0 ⟨rfl,by simp[Pg.v],Sub.refl _⟩ ?_
 have s0:Sub bl b0:=fun x y hx=>by rw[hb0,aG _ _ _ _ (fun e=>by rw[e,hb2] at hx;cases hx)];exact hx
 have b02:b0 g2=some ⟨5,[[.int .i64 0,.nils,.bool false,.nils,.nils]]⟩:=by rw[hb0];simp
 clear hb0 hb1 hg1 Ti
 refine aD ?_
 simp[Pg.v]
 refine T6 p n m h fun b g hS hal hsb=> ?_
 simp
 refine aD ?_
 simp
 refine Eh p n m h g hS fun b' T r h4 hS' hx=> ?_
 have hV:mR ((snV (List.range m) (n+m) (n+m) m (Lp.aZ n m) T).co (n+m)):=by
  show mR (Lp.rc m (Lp.aZ n m) T (if n+m<n+m then n+m else n+m))
  exact Lp.jD (h4.inv.z.rc (fun c _=>qV n m c) (c:=if n+m<n+m then n+m else n+m) (by split<;>omega) (by decide)) (sD hml)
 have hco:(snV (List.range m) (n+m) (n+m) m (Lp.aZ n m) T).co (n+m)=Lp.rc m (Lp.aZ n m) T (n+m):=by
  show Lp.rc m (Lp.aZ n m) T (if n+m<n+m then n+m else n+m)=_
  rw[if_neg (by omega)]
 obtain⟨co,hcD⟩: ∃co,(snV (List.range m) (n+m) (n+m) m (Lp.aZ n m) T).co=co:=⟨_,rfl⟩
 rw[hcD] at hV hco
 obtain⟨N,hN⟩: ∃N,n+m=N:=⟨_,rfl⟩
 have bT:b' g.T=some ⟨4,[[.int .i64 N,.lsl g.R 1 0 m,.lsl g.B 1 0 m,.lsl g.C 3 0 (N+1)]]⟩:=by
  have:=hS'.hd
  simp only[snV,List.length_range] at this
  rw[←hN];exact this
 have bC:b' g.C=some ⟨3,rqs (N+1) co⟩:=by
  rw[←hN,←hcD];exact hS'.cst
 rw[hN] at hV hco
 have l3: ∀q:Rat,(rq q).c.length=3:=fun _=>rfl
 have t3: ∀q:Rat,(rq q).c.take 3=(rq q).c:=fun _=>rfl
 have hN1:(N:Int)<(N:Int)+1:=by omega
 have S2:Sub b0 b':=fun x y hx2=>hx x y (hsb x y hx2) fun hm2=>by have:=hal x hm2;rw[this] at hx2;cases hx2
 have jN:Sub bl b':=fun x y hx2=>S2 x y (s0 x y hx2)
 have b'2:=S2 _ _ b02
 simp
 refine dI [(1,.ptr p.v),(2,.loc g2 5 0 0),(3,.loc g.T 4 0 0)] 87 b' ⟨rfl,by simp[Pg.v],Sub.refl _⟩ ?_
 refine aM (aM ?_)
 refine cN aN (by kernel_rfl) ?_
 simp[bT,bC,hN1,l3,t3]
 refine aP (fQ (bU hV)) ?_
 simp
 refine aC ?_
 simp
 refine⟨fun hne=> ?_,fun heq=> ?_⟩
 ·have hno: ¬ Lp.rc m (Lp.aZ n m) T (n+m)=0:=fun e=>by
   rw[hN] at e
   rw[e] at hco
   exact hne hco
  rw[Lp.L3 (h4.no hno)]
  simp[b'2]
  exact aK [.agg [.int .i64 2,.nils,.bool false,.nils,.nils]] 1 (by simp) (by simp[frz,Dt,V.cl]) fun x y hx=>by
   show upd b' g2 _ x=some y
   rw[aG _ _ _ _ (fun e=>by rw[e,hb2] at hx;cases hx)]
   exact jN x y hx
 have hp0:Lp.rc m (Lp.aZ n m) T (n+m)=0:=by rw[hN,←hco];exact heq
 refine aD ?_
 simp
 have lv:5≤p.v.length:=Nat.le_refl 5
 have tv:p.v.take 5=p.v:=rfl
 rw[tv]
 refine⟨lv,H2 p n m h g T h4 hp0 hS' fun b1 g' hS1 aBM hx1=> ?_⟩
 have hI1:=(Lp.kE (h4.kB hp0) (show n≤n+m+1 by omega) m (Nat.le_refl _)).inv
 have hr1:=A5 n m (Lp.kicks n T m)
 have hw1: ∀i,i∈Lp.bH n (Lp.kicks n T m) m→(Lp.kicks n T m).bs i<n:=fun i hi=>(Lp.lX.1 hi).2
 obtain⟨U,hU⟩: ∃U,Lp.kicks n T m=U:=⟨_,rfl⟩
 rw[hU] at hI1 hr1 hw1 hS1
 obtain⟨rows,kX⟩: ∃rows,Lp.bH n U m=rows:=⟨_,rfl⟩
 rw[kX] at hI1 hr1 hw1 hS1
 have gb: ∀x,x∈g.all→b0 x=none:=hal
 have hg2:g2∉g.all:=fun hm2=>by rw[gb g2 hm2] at b02;cases b02
 have aHB:Sub b0 b1:=fun x y hx2=>hx1 x y (S2 x y hx2) fun hm2=>by rw[gb x hm2] at hx2;cases hx2
 have al1: ∀x,x∈g'.all→b0 x=none:=fun x hm2=>by
  cases hv:b0 x with
  | none => rfl
  | some y => have := aBM x hm2; rw [S2 x y hv] at this; cases this
 simp
 clear hU aBM hx1 hS' hx hS hal hsb hV hco hcD bT bC jN S2 b'2 heq h4 hp0 gb hg2
 refine aM ?_
 refine aC ?_
 simp
 refine Ag p n m h g' rows U hr1 hI1 hw1 hS1 (fun b2 t hI2 hw2 aFA hS2 hx2=> ?_) (fun b2 hU2 hF2 hx2=> ?_)
 rotate_left
 ·obtain⟨x,hx⟩:=hF2
  rw[Lp.T5 hU2 hx]
  have Eu:Sub b0 b2:=fun x y hx=>hx2 x y (aHB x y hx) fun hm2=>by rw[al1 x hm2] at hx;cases hx
  have b22:=Eu _ _ b02
  simp[b22]
  exact aK [.agg [.int .i64 3,.nils,.bool false,.nils,.nils]] 1 (by simp) (by simp[frz,Dt,V.cl]) fun x y hx=>by
   show upd b2 g2 _ x=some y
   rw[aG _ _ _ _ (fun e=>by rw[e,hb2] at hx;cases hx)]
   exact Eu x y (s0 x y hx)
 rw[Lp.xQ aFA]
 have Eu:Sub b0 b2:=fun x y hx=>hx2 x y (aHB x y hx) fun hm2=>by rw[al1 x hm2] at hx;cases hx
 simp
 have aNW:=hI2.z.ti
 have hz2:=hI2.zero hw2
 have Aa:=Sv (n:=n) (b:=n+m) hz2 (Pk h (show n≤n+m by omega))
 have hV:mR ((snV rows n (n+m) m (wO (pC p)) t).co n):=by
  show mR (Lp.rc m (wO (pC p)) t (if n<n then n else n+m))
  exact Lp.jD (hI2.z.rc (fun c _=>Js h c) (c:=if n<n then n else n+m) (by split<;>omega) (by decide)) (sD hml)
 have hco:(snV rows n (n+m) m (wO (pC p)) t).co n=Lp.rc m (wO (pC p)) t (n+m):=by
  show Lp.rc m (wO (pC p)) t (if n<n then n else n+m)=_
  rw[if_neg (by omega)]
 obtain⟨l,hl⟩: ∃l,rows.length=l:=⟨_,rfl⟩
 obtain⟨gT,gR,gB,gC,ids⟩:=g'
 obtain⟨Z,hZ⟩: ∃Z,(snV rows n (n+m) m (wO (pC p)) t).Z=Z:=⟨_,rfl⟩
 obtain⟨co,hcD⟩: ∃co,(snV rows n (n+m) m (wO (pC p)) t).co=co:=⟨_,rfl⟩
 rw[hcD] at hV hco
 obtain⟨n1,hn1⟩: ∃n1,n+1=n1:=⟨_,rfl⟩
 have bT:b2 gT=some ⟨4,[[.int .i64 n,.lsl gR 1 0 l,.lsl gB 1 0 l,.lsl gC 3 0 n1]]⟩:=by
  have:=hS2.hd
  simp only[snV,hl,hn1] at this
  exact this
 have bC:b2 gC=some ⟨3,rqs n1 co⟩:=by
  rw[←hn1,←hcD];exact hS2.cst
 have bB:b2 gB=some ⟨1,iv (lb l fun q=>t.bs (atR rows q))⟩:=by
  have:=hS2.ba
  simp only[snV,hl] at this
  exact this
 have bR:b2 gR=some ⟨1,ids.map fun x=> [.lsl x 3 0 n1]⟩:=by
  have:=hS2.top
  simp only[snV,hn1] at this
  exact this
 have hnn:(n:Int)<n1:=by omega
 have aCQ:n<n1:=by omega
 have b22:=Eu _ _ b02
 have hn4:=A7 (some (co n)) (okS (bU hV))
 refine dI [(1,.ptr p.v),(2,.loc g2 5 0 0),(4,.loc gT 4 0 0)] 87 b2 ⟨rfl,by simp[Pg.v],Sub.refl _⟩ ?_
 refine fH (fun g5:Int=> [(1,.ptr p.v),(2,.loc g2 5 0 0),(4,.loc gT 4 0 0),(5,.loc g5 5 0 0)]) (fun g5=>upd b2 g5 (some ⟨5,[.int .i64 0:: .nils::(rq (-co n)).c]⟩)) (fun g5=>0≤g5∧b2 g5=none) 87 ?_ ?_
 ·refine cQ aN b2 (Sub.refl _) [0,1,2,3,4,5,6,7,8,9,10] 3 13 (by kernel_rfl) ?_
  simp[bT,bC,hnn,aCQ,l3,t3]
  refine aP (v:= .agg (ro (some (-co n))).c) hn4 ?_
  simp[RT.c]
  refine Dw 11 12 false false ?_ ?_
  ·simp
   refine Dq 12 false ?_
   simp
   intro g5 hg5 hb5
   refine⟨fun x y hx=>(by rw[aG _ _ _ _ (fun e=>by rw[e,hb5] at hx;cases hx)];exact hx),Dq 13 true ?_⟩
   simp
   refine Dd ?_
   simp[aH]
   exact⟨g5,⟨hg5,hb5⟩,rfl,by simp,sub_eq (by simp[RT.c])⟩
  ·simp
   intro g5 hg5 hb5
   refine⟨fun x y hx=>(by rw[aG _ _ _ _ (fun e=>by rw[e,hb5] at hx;cases hx)];exact hx),Dq 11 false ?_⟩
   simp
   refine⟨fun x y hx=>(by rw[aG _ _ _ _ (fun e=>by rw[e,hb5] at hx;cases hx)];exact hx),Dq 13 true ?_⟩
   simp
   refine Dd ?_
   simp[aH]
   exact⟨g5,⟨hg5,hb5⟩,rfl,by simp,sub_eq (by simp[RT.c])⟩
 rintro g5 ⟨hg5,hb5⟩
 have hvq:(rq (-co n)).c=(rq (Lp.dot n (wO (pC p)) fun c=>if c<n then Lp.xb m (n+m) t c else 0)).c:=by
  rw[hco,Aa,Lp.C3 (x:=Lp.xb m (n+m) t) (y:=fun c=>if c<n then Lp.xb m (n+m) t c else 0) fun c hc=>by rw[if_pos hc]]
 obtain⟨vq,aD3⟩: ∃vq,Lp.dot n (wO (pC p)) (fun c=>if c<n then Lp.xb m (n+m) t c else 0)=vq:=⟨_,rfl⟩
 rw[aD3] at hvq
 rw[hvq]
 simp only[RT.c]
 refine cM (g:=g5) (s:=5) (els:= [[.int .i64 0,.nils,.bool (rq vq).neg,.sl (iv (rq vq).m),.sl (iv (rq vq).d)]]) 0 1 3 (by simp) rfl rfl fun gX hgX hX5=> ?_
 simp[hX5] at hgX
 obtain⟨b3,hb3⟩: ∃b3,b3=upd (upd b2 g5 (some ⟨5,[[.int .i64 0,.lsl gX 3 0 0,.bool (rq vq).neg,.sl (iv (rq vq).m),.sl (iv (rq vq).d)]]⟩)) gX (some ⟨3,[]⟩):=⟨_,rfl⟩
 have b35:b3 g5=some ⟨5,[[.int .i64 0,.lsl gX 3 0 0,.bool (rq vq).neg,.sl (iv (rq vq).m),.sl (iv (rq vq).d)]]⟩:=by rw[hb3];simp[Ne.symm hX5]
 have b3X:b3 gX=some ⟨3,rqs 0 fun _=>0⟩:=by rw[hb3];simp[rqs]
 have s3:Sub b2 b3:=fun x y hx=>by
  have x1:x≠g5:=fun e=>by rw[e,hb5] at hx;cases hx
  have x2:x≠gX:=fun e=>by rw[e,hgX] at hx;cases hx
  rw[hb3];simp[x1,x2,hx]
 refine dI [(1,.ptr p.v),(2,.loc g2 5 0 0),(4,.loc gT 4 0 0),(5,.loc g5 5 0 0)] 87 b3 ⟨rfl,by simp,by rw[hb3];exact sub_eq (by simp)⟩ ?_
 clear hb3
 refine aM ?_
 refine aC ?_
 simp
 refine aI (fun q:aCG=> [(1,.ptr p.v),(2,.loc g2 5 0 0),(4,.loc gT 4 0 0),(5,.loc g5 5 0 0),(6,.int .i64 q.j)]) (fun q=>q.b) (fun q=>q.j≤n∧q.b g5=some ⟨5,[[.int .i64 0,.lsl q.gX 3 0 q.j,.bool (rq vq).neg,.sl (iv (rq vq).m),.sl (iv (rq vq).d)]]⟩∧q.b q.gX=some ⟨3,rqs q.j fun _=>0⟩∧(q.gX≠g5∧b2 q.gX=none∧(0≤q.gX∨q.j=0))∧Sub b2 q.b) (fun q=>n - q.j) _ ⟨0,gX,b3⟩ ⟨Nat.zero_le _,b35,b3X,⟨hX5,hgX,.inr rfl⟩,s3⟩ ⟨rfl,by simp,Sub.refl _⟩ ?_
 clear s3 b35 b3X hgX hX5
 rintro⟨j,gX,b⟩ ⟨hj,bL5,bX,⟨nX5,Xbl,aF2⟩,hsb⟩
 simp only at hj bL5 bX nX5 Xbl aF2 hsb
 have wj:IntKind.i64.wrap ((j:Int)+1)=(j:Int)+1:=i64_in (by omega) (by omega)
 refine aM ?_
 refine aC ?_
 simp[Pg.v,h.aY]
 refine⟨fun hjn=> ?_,fun hjn=> ?_⟩
 ·refine aM (aR ?_)
  have hR0:=eG 0 (by decide)
  refine cQ aN (rem b gX) (dF b gX) [0,1,2] 4 6 (by kernel_rfl) ?_
  simp[Ne.symm nX5,bL5]
  refine aP hR0 ?_
  simp
  refine Dq 3 false ?_
  simp[RT.c]
  intro g4 hg4 hb4
  have n45:g4≠g5:=fun e=>by rw[e,bL5] at hb4;cases hb4
  have n4X:g4≠gX:=fun e=>by rw[e,bX] at hb4;cases hb4
  have pK: ∀X,Sub (rem b gX) (upd b g4 X):=fun X z y hz=>by
   rw[aF] at hz
   rw[aA]
   grind
  refine⟨pK _,Dq 4 false ?_⟩
  have tkC:(rqs j fun _=>(0:Rat)).take j=rqs j fun _=>0:=List.take_of_length_le (by simp)
  simp[n4X,Ne.symm n4X,appV,elsV,Int.not_lt.2 hg4,bX,tkC]
  have hsn:(rqs j fun _=>(0:Rat))++ [[V.bool (rq 0).neg,.sl (iv (rq 0).m),.sl (iv (rq 0).d)]]=rqs (j+1) fun _=>0:=by rw[jG];rfl
  rw[hsn]
  refine⟨by omega,fun gN hgN hbN=> ?_⟩
  have nN:gN≠g5∧gN≠g4:=by
   by_cases e:gN=gX
   ·subst e
    exact⟨nX5,Ne.symm n4X⟩
   ·obtain⟨q1,q2⟩:=hbN e
    exact⟨fun e=>(by rw[e,bL5] at q2;cases q2),q1⟩
  obtain⟨nN5,nN4⟩:=nN
  have blN:b2 gN=none:=by
   by_cases e:gN=gX
   ·rw[e];exact Xbl
   ·cases hv:b2 gN with
    | none => rfl
    | some y => have := hsb gN y hv; rw [(hbN e).2] at this; cases this
  have fW: ∀X Y,Sub (rem b gX) (upd (rem (upd b g4 X) gX) gN Y):=fun X Y z y hz=>by
   rw[aF] at hz
   rw[aA,aF,aA]
   grind
  have jP: ∀X Y Z,Sub (upd (upd (rem b gX) gN Y) g5 Z) (upd (upd (rem (upd b g4 X) gX) gN Y) g5 Z):=fun X Y Z z y hz=>by
   simp only[aA,aF] at hz ⊢
   grind
  refine⟨fW _ _,Dq 5 false ?_⟩
  simp
  refine⟨fW _ _,Dq 6 true ?_⟩
  simp[Ne.symm nN5,Ne.symm nX5,n45,Ne.symm n45,bL5]
  refine Dd ?_
  simp
  refine aC ?_
  simp[wj,aB]
  obtain⟨b4,gV⟩: ∃b4,b4=upd (upd (rem b gX) gN (some ⟨3,rqs (j+1) fun _=>0⟩)) g5 (some ⟨5,[[.int .i64 0,.lsl gN 3 0 (j+1),.bool (rq vq).neg,.sl (iv (rq vq).m),.sl (iv (rq vq).d)]]⟩):=⟨_,rfl⟩
  refine⟨⟨j+1,gN,b4⟩,⟨by simp only;omega,by rw[gV];simp,by rw[gV];simp[nN5],⟨nN5,blN,.inl hgN⟩,fun x y hx=> ?_⟩,by simp only;omega,rfl,by simp[Pg.v,h.aY],by rw[gV];exact jP _ _ _⟩
  have x1:x≠g5:=fun e=>by rw[e,hb5] at hx;cases hx
  have x2:x≠gN:=fun e=>by rw[e,blN] at hx;cases hx
  have x3:x≠gX:=fun e=>by rw[e,Xbl] at hx;cases hx
  simp only
  rw[gV];simp[x1,x2,x3];exact hsb x y hx
 have hje:j=n:=by omega
 subst hje
 simp
 have b5:b gT=_:=hsb _ _ bT
 have b5B:b gB=_:=hsb _ _ bB
 have b5R:b gR=_:=hsb _ _ bR
 have hil:ids.length=l:=by have:=hS2.len;simp only[snV,hl] at this;exact this
 have hll:l≤m:=by rw[←hl];exact hr1.len
 have oX: ∀x y,b2 x=some y→x≠gX:=fun x y hx e=>by rw[e,Xbl] at hx;cases hx
 have o5: ∀x y,b2 x=some y→x≠g5:=fun x y hx e=>by rw[e,hb5] at hx;cases hx
 have xT:=oX _ _ bT
 have xB:=oX _ _ bB
 have xR:=oX _ _ bR
 refine aM ?_
 refine aC ?_
 simp[b5]
 refine aI (fun q:Nat=> [(2,.loc g2 5 0 0),(4,.loc gT 4 0 0),(5,.loc g5 5 0 0),(60,.lsl gB 1 0 l),(61,.int .i64 l),(62,.int .i64 q)]) (fun q=>upd b gX (some ⟨3,rqs j (xUp (j+m) rows t q)⟩)) (fun q=>q≤l) (fun q=>l - q) _ 0 (Nat.zero_le _) ⟨rfl,by simp,sub_eq (by
  funext x;simp only[aA];split
  ·rename_i e
   rw[e,bX];rfl
  ·rfl)⟩ ?_
 intro q hq
 have wq:IntKind.i64.wrap ((q:Int)+1)=(q:Int)+1:=i64_in (by omega) (by omega)
 refine aD ?_
 simp
 refine aD ?_
 simp
 refine⟨fun hql=> ?_,fun hql=> ?_⟩
 ·have He:(q:Int)<l:=by omega
  obtain⟨gi,hgi⟩: ∃gi,ids[q]? =some gi:=⟨_,List.getElem?_eq_getElem (show q<ids.length by omega)⟩
  have hgj: ∀h,ids[q]'h=gi:=fun h=>by rw[List.getElem?_eq_getElem h] at hgi;exact Option.some.inj hgi
  have hgm:=List.mem_of_getElem? hgi
  have xJ:0≤gi:=hS2.pos gi hgm
  have b2i:b2 gi=some ⟨3,rqs n1 (Z q)⟩:=by
   have:=hS2.row q gi hgi
   rw[hZ] at this
   rw[←hn1];exact this
  have xi:=oX _ _ b2i
  have bi:b gi=_:=hsb _ _ b2i
  have hqm:=cH (rows:=rows) (show q<rows.length by rw[hl];exact hql)
  have hbl:t.bs (atR rows q)<j:=hw2 _ hqm
  have hZq:Z q j=t.X (atR rows q) (j+m):=by
   rw[←hZ]
   show t.X (atR rows q) (if j<j then j else j+m)=_
   rw[if_neg (by omega)]
  have htq:mR (Z q j):=by
   rw[hZq];exact Lp.jD (hI2.z.sm (hr1.lt hqm) (by omega)) (qT hml)
  refine aM (aR ?_)
  refine aD ?_
  simp[Ne.symm xB,xB,b5B,hql,He]
  obtain⟨bc,hbc⟩: ∃bc,bc=upd b gX (some ⟨3,rqs j (xUp (j+m) rows t q)⟩):=⟨_,rfl⟩
  have bcX:bc gX=some ⟨3,rqs j (xUp (j+m) rows t q)⟩:=by rw[hbc];simp
  have bcx: ∀x,x≠gX→bc x=b x:=fun x hx=>by rw[hbc,aG _ _ _ _ hx]
  have bc5:=(bcx g5 (Ne.symm nX5)).trans bL5
  have bcT:=(bcx gT xT).trans b5
  have bcR:=(bcx gR xR).trans b5R
  have bci:=(bcx gi xi).trans bi
  rw[←hbc]
  have htl:=bU htq
  have hcp:=W1 (rq (Z q j)) (Nat.le_trans htl.1 (by decide)) (Nat.le_trans htl.2 (by decide))
  obtain⟨kk,hkk⟩: ∃kk,t.bs (atR rows q)=kk:=⟨_,rfl⟩
  rw[hkk] at hbl
  have Nc:(kk:Int)<j:=by omega
  refine cQ aN (rem bc gX) (dF bc gX) [0,1,2,3,4,5,6,7,8,9,10,11,12,13,14,15,16,17] 1 18 (by kernel_rfl) ?_
  simp[nX5,Ne.symm nX5,xT,xR,xi,bc5,bcT,bcR,bci,hql,He,hil,hgj,hnn,aCQ,l3,t3,hkk,hbl,Nc]
  refine aP hcp ?_
  simp[hkk,hbl,Nc]
  refine Dq 18 true ?_
  simp[bcX,hbl,RT.c]
  refine Dd ?_
  simp
  refine aC ?_
  simp[wq,aB]
  have pG:(rqs j (xUp (j+m) rows t q)).set kk (ro (some (Z q j))).c=rqs j (xUp (j+m) rows t (q+1)):=by
   rw[uU _ _ hbl]
   refine bI fun c _=> ?_
   rw[←hkk,hZq]
   exact Gz aNW hr1 (by rw[hl];exact hql) c
  refine⟨q+1,by omega,by omega,rfl,by simp,?_⟩
  rw[←pG]
  intro z y hz
  by_cases e:z=gX
  ·subst e
   rw[aU] at hz
   simpa [RT.c,mI] using hz
  ·rw[aG _ _ _ _ e] at hz
   have:=bcx z e
   simp[e,this,hz]
 ·have hqe:q=l:=by omega
  subst hqe
  have hxa:rqs j (xUp (j+m) rows t q)=rqs j fun c=>if c<j then Lp.xb m (j+m) t c else 0:=bI fun c hc=>by
   rw[if_pos hc,←hl];exact Nz hr1 (fun i hi hn=>(hI2.dead i hi hn).1) hc
  rw[hxa]
  have b6:b g2=_:=hsb _ _ b22
  have x2:=oX _ _ b22
  have x25:=o5 _ _ b22
  refine aC ?_
  simp[nX5,Ne.symm nX5,x2,Ne.symm x2,x25,Ne.symm x25,bL5,b6]
  have blb:Sub bl b:=fun x y hx=>hsb x y (Eu x y (s0 x y hx))
  have blX:bl gX=none:=by
   cases hv:bl gX with
   | none => rfl
   | some y => have := Eu gX y (s0 gX y hv); rw [Xbl] at this; cases this
  refine aK [.agg [.int .i64 0,.lsl gX 3 0 j,.bool (rq vq).neg,.sl (iv (rq vq).m),.sl (iv (rq vq).d)]] 2 (by simp) ?_ fun x y hx=> ?_
  ·have hfX: ∀B:Int→Option Blk,B gX=some ⟨3,rqs j fun c=>if c<j then Lp.xb m (j+m) t c else 0⟩→frz (dropB B bl) 1 (.lsl gX 3 0 j)=some (.sl (rqs j fun c=>if c<j then Lp.xb m (j+m) t c else 0)):=fun B hB=>by
    by_cases e:gX<0
    ·rcases aF2 with g | g
     ·omega
     ·rw[g];unfold frz;rw[if_pos e];rfl
    ·exact dM (by omega) blX hB (by simp) (W0 _ _)
   rw[show Dt j (wO (pC p)) (some (some fun c=>if c<j then Lp.xb m (j+m) t c else 0))= .agg [.int .i64 0,.sl (rqs j fun c=>if c<j then Lp.xb m (j+m) t c else 0),.bool (rq vq).neg,.sl (iv (rq vq).m),.sl (iv (rq vq).d)] by rw[←aD3];rfl]
   exact Mh rfl (hfX _ (by
    show upd (upd b gX _) g2 _ gX=_
    rw[aG _ _ _ _ (Ne.symm x2),aU]))
  ·show upd (upd b gX _) g2 _ x=some y
   rw[aG _ _ _ _ (fun e=>by rw[e,hb2] at hx;cases hx),aG _ _ _ _ (fun e=>by rw[e,blX] at hx;cases hx)]
   exact blb x y hx

noncomputable def aLO (s : Str) (l : List Int) : Bool := zS (nC s) (nR s) (eQ (cK s l) (nC s) (nR s))
noncomputable def aQ8 (s : Str) (l : List Int) : Bool := lOk s l && aLO s l

def xl (n:Nat) (x:Nat→Rat):List (Option Rat):=(List.range n).map fun c=>some (x c)
def aO0 (s:Str) (n:Nat):Option (Option (Nat→Rat))→V
 | some (some x) => .tup [.sl (fvs (Td s.ms (xl (nC s) x) (nC s))), .sl ((fxs n x).drop (nC s)), .bool true]
 | _ => .tup [.sl [], .sl [], .bool false]
noncomputable def aMD (s : Str) : Option (Option (Nat → Rat)) → List (Option Rat)
 | some (some x) => Td s.ms (xl (nC s) x) (nC s)
 | _ => [none]
noncomputable def aQI (s : Str) (l : List Int) : List (Option Rat) :=
 if lOk s l=true then aMD s (Lp.opt (nC s) (nR s) (eQ (cK s l) (nC s) (nR s)) (nC s+nR s) (wO (pC (cK s l)))) else [none]

theorem M9 {n:Nat} {C x:Nat→Rat} (h: ∀c,c<n→C c=0):Lp.dot n C x=0:=by
 unfold Lp.dot
 exact Lp.iD fun c hc=>by rw[h c hc,Rat.zero_mul]
theorem Hw {p:Pg} {n m:Nat} (h:PgN p n m) (hc:p.c=List.replicate n 0):
  (Lp.opt n m (eQ p n m) (n+m) (wO (pC p))=none∧zS n m (eQ p n m)=false)∨ ∃x,Lp.opt n m (eQ p n m) (n+m) (wO (pC p))=some (some x)∧zS n m (eQ p n m)=true:=by
 have hz: ∀c,c<n→wO (pC p) c=0:=fun c hlt=>by
  show((pC p c:Int):Rat)=0
  rw[show pC p c=0 by unfold pC;rw[hc,List.getD_eq_getElem?_getD,List.getElem?_replicate,if_pos hlt];rfl];rfl
 rcases Lp.answers (wO (pC p)) h.init with ⟨e,hn⟩| ⟨e,hu,x,hx⟩| ⟨x,e,hb,_,_⟩
 ·refine .inl ⟨e,?_⟩
  rw[Bool.eq_false_iff]
  intro hq
  obtain⟨x,hx⟩:=vQ.1 hq
  exact hn x hx
 ·obtain⟨y,_,hy⟩:=hu x hx
  rw[M9 hz,M9 hz] at hy
  exact absurd hy (by decide)
 ·exact .inr ⟨x,e,vQ.2 ⟨x,hb.1⟩⟩

noncomputable def aLT (s : Str) : Bool := zS (nC s) (nR s) (eQ (nF s) (nC s) (nR s))
noncomputable def zR (s : Str) : Bool := sOk s && aLT s
theorem nH (s:Str) (hs:s.sz):RO Tryz.prog 53 [.agg s.c] (.bool (zR s)):=by
 refine aJ Tryz.func53 rfl rfl (by rw[Tryz.ntmps53];simp) fun bl=> ?_
 rw[Tryz.ntmps53,Tryz.results53]
 refine aD ?_
 simp[Str.c]
 intro g hg hbg
 refine cE 1 1 (.ptr s.c) bl (by intro z b hz;simp only[aA] at hz ⊢;grind) (by simp[frz,dropB,hbg,V.cl,Str.c]) ?_
 refine aD ?_
 simp[Str.c]
 refine aE (pI s hs.js hs.ms hs.nm) ?_
 cases h1:sOk s
 ·simp
  exact aS (by simp[zR,h1]) rfl rfl
 have hS:=Gn h1
 have hpg:=P2 hS
 have hT:=uM s hS
 have hq:zR s=zS (nC s) (nR s) (eQ (nF s) (nC s) (nR s)):=by unfold zR;rw[h1];rfl
 obtain⟨p,hp⟩: ∃p,nF s=p:=⟨_,rfl⟩
 rw[hp] at hpg hT hq
 rw[hq]
 simp
 refine aD ?_
 simp
 refine aE hT ?_
 simp[Pg.v]
 intro g3 hg3 hb3
 refine cE 1 3 (.ptr p.v) bl (by intro z b hz;simp only[aA] at hz ⊢;grind) (by simp[frz,dropB,hb3,V.cl,Pg.v]) ?_
 refine aC ?_
 simp
 refine Fu p (nC s) (nR s) hpg (fun b' t h4 h0 hb=> ?_) (fun b' g' t h4 h0 _ _ hb=> ?_)
 ·have hno:zS (nC s) (nR s) (eQ p (nC s) (nR s))=false:=by
   rw[Bool.eq_false_iff];exact fun e=>h0 ((mP.has h4).2 e)
  simp
  exact aK [.bool false] 0 (by simp) (by simp[frz,hno]) hb
 ·have aCH:=(mP.has h4).1 h0
  simp
  exact aK [.bool true] 0 (by simp) (by simp[frz,aCH]) hb
theorem nI (s:Str) (hs:s.sz):RO Tryz.prog 52 [.agg s.c] (.bool (zR s)):=by
 refine aJ Tryz.func52 rfl rfl (by rw[Tryz.ntmps52];simp) fun bl=> ?_
 rw[Tryz.ntmps52,Tryz.results52]
 refine aD ?_
 simp[Str.c]
 intro g hg hbg
 refine cE 1 1 (.ptr s.c) bl (by intro z b hz;simp only[aA] at hz ⊢;grind) (by simp[frz,dropB,hbg,V.cl,Str.c]) ?_
 refine aM ?_
 refine bP [(1,.ptr s.c)] _ bl 2 (.bool (zR s)) ⟨rfl,by simp[Str.c],Sub.refl _⟩ rfl ?_ ?_
 ·simp[Str.c]
  refine aE (pH s hs.js hs.ms hs.nm) ?_
  cases h1:sOk s
  ·simp[zR,h1]
  have hS:=Gn h1
  have hpg:=P2 hS
  have hq:zR s=zS (nC s) (nR s) (eQ (nF s) (nC s) (nR s)):=by unfold zR;rw[h1];rfl
  simp[Str.c]
  refine aE (zL s hS) ?_
  simp
  refine aE (U5 (nF s) (nC s) (nR s) hpg) ?_
  rw[hq]
  rcases Hw hpg (Ph s) with ⟨e1,e2⟩| ⟨x,e1,e2⟩
  ·rw[e1,e2]
   simp[Dt]
  ·rw[e1,e2]
   simp[Dt,RT.c]
 simp
 refine aC ?_
 simp
 exact aS (by simp) rfl rfl
end Go.Proofs.YticmgmemnpcbbaaGreat.Vm

namespace Go.Proofs.YticmgmemnpcbbaaGreat.Vm
open Go Go.Proofs
set_option linter.unusedSimpArgs false
set_option linter.unusedVariables false
theorem law_CanPretension_ro (s:Str) (hs:s.sz):RO Tryz.prog 9 [.agg s.c] (.bool true):=by
 refine aJ Tryz.func9 rfl rfl (by rw[Tryz.ntmps9];simp) fun bl=> ?_
 rw[Tryz.ntmps9,Tryz.results9]
 refine aC ?_
 simp[Str.c]
 intro gx0 aHO aFV
 have kp:=Qv (bl:=bl) aFV (some ⟨2,[[.sl (jv s.js),.sl (mv s.ms)]]⟩)
 have uO:upd bl gx0 (some ⟨2,[[.sl (jv s.js),.sl (mv s.ms)]]⟩) gx0=some ⟨2,[[.sl (jv s.js),.sl (mv s.ms)]]⟩:=by simp
 have sb1:Sub bl (upd bl gx0 (some ⟨2,[[.sl (jv s.js),.sl (mv s.ms)]]⟩)):=fun x y hx=>kp x y ((Sub.refl _) x y hx)
 generalize upd bl gx0 (some ⟨2,[[.sl (jv s.js),.sl (mv s.ms)]]⟩)=b1 at *
 clear kp
 refine aE (wQ s _ (by omega) hs.js hs.ms hs.nm) ?_
 try simp[uO]
 refine⟨fun h=> ?_,fun hzs=> ?_⟩
 ·exact aK [_] 0 rfl rfl sb1
 obtain⟨l1s,l2s,l3s⟩:=Lo (s:=s) (left:=1048576) (by omega) (by omega)
 have aP9: -1≤(rQ s 1048576)∧(rQ s 1048576)≤1048576:=by omega
 have jss:s.js.length≤1048576:=by omega
 have mss:s.ms.length≤1048576:=by omega
 have ts:=vK s jss mss
 have hS:=nI s ⟨hs.js,hs.ms,hs.nm⟩
 have hJ:=nH s ⟨hs.js,hs.ms,hs.nm⟩
 generalize zR s=w at hS hJ
 refine aE ts ?_
 try simp[uO]
 refine aE hS ?_
 try simp[uO]
 refine aE ts ?_
 simp[uO,Str.c]
 intro gx1 aQT Jd
 have zW:gx0≠gx1:=fun e=>by rw[←e,uO] at Jd;cases Jd
 try simp[zW,Ne.symm zW,uO]
 have kp:=Qv (bl:=b1) Jd (some ⟨2,[[.sl (jv s.js),.sl (mv s.ms)]]⟩)
 have Pa:upd b1 gx1 (some ⟨2,[[.sl (jv s.js),.sl (mv s.ms)]]⟩) gx1=some ⟨2,[[.sl (jv s.js),.sl (mv s.ms)]]⟩:=by simp
 have sb2:Sub bl (upd b1 gx1 (some ⟨2,[[.sl (jv s.js),.sl (mv s.ms)]]⟩)):=fun x y hx=>kp x y (sb1 x y hx)
 generalize upd b1 gx1 (some ⟨2,[[.sl (jv s.js),.sl (mv s.ms)]]⟩)=b2 at *
 have uO:=kp _ _ uO
 clear kp
 try simp[uO,Pa]
 refine aE hJ ?_
 try simp[uO,Pa]
 refine cN aN (by kernel_rfl) ?_
 simp[uO,Pa]
 refine aP ts ?_
 try simp
 refine aP (xA s s hs.js hs.ms) ?_
 try simp[uO,Pa]
 exact aK [_] 0 rfl rfl sb2
end Go.Proofs.YticmgmemnpcbbaaGreat.Vm
