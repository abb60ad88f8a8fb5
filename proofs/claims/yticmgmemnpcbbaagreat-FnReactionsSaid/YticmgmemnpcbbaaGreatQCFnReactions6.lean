import Derived.Test.YticmgmemnpcbbaaGreatQCFnReactions5

namespace Go.Proofs.YticmgmemnpcbbaaGreat.Vm
open Go Go.Proofs
set_option linter.unusedSimpArgs false
set_option linter.unusedVariables false
def Rk (bl:Int→Option Blk) (K:V→(Int→Option Blk)→Prop) (bs:List Int) (g:Int):Prop:=
 ∀(s:Str) (i' h':Int) bl',sOk s=true→3≤s.js.length→gQ bs i'→bl' g=some (cur bs i' h')→(∀x y,x≠g→bl x=some y→bl' x=some y)→K (.agg s.c) bl'
def nmA :ByteArray:= { data:= #[97] }
def nmB :ByteArray:= { data:= #[98] }
def nmC :ByteArray:= { data:= #[99] }
def nmD :ByteArray:= { data:= #[100] }
def js3 (x1 x2 x3 x4 x5 x6:Int):List J:= [⟨nmA, -1 - x1,x2,true⟩,⟨nmB,3+x3,x4,true⟩,⟨nmC,x5 - 1, -1 - x6,false⟩]
def ms2 (x7:Int):List Mb:= [⟨0,2,1⟩,⟨1,2,x7⟩]
theorem M4 {js:List J} {ms:List Mb} (hj:js.length≤6) (hm:ms.length≤8) (h1: ∀j,j∈js→j.ok=true) (h2:(js.map (·.name)).Nodup) (h3: ∀m,m∈ms→mOk js m=true):sOk ⟨js,ms⟩=true:=by
 unfold sOk
 simp only[Bool.and_eq_true,decide_eq_true_eq]
 refine⟨⟨⟨hj,hm⟩,fun i hi=>⟨h1 _ (List.getElem_mem hi),?_⟩⟩,List.all_eq_true.2 h3⟩
 refine lS hi (fun j hj hlt=> ?_) (by simp)
 have:=List.pairwise_iff_getElem.1 h2 j i (by simpa using hj) (by simpa using hi) hlt
 simpa using this
theorem nms :isName nmA=true∧isName nmB=true∧isName nmC=true∧isName nmD=true:=by decide
theorem Ma {x1 x2 x3 x4 x5 x6 x7:Int} (h1:0≤x1∧x1<4) (h2:0≤x2∧x2<3) (h3:0≤x3∧x3<4) (h4:0≤x4∧x4<3) (h5:0≤x5∧x5<4) (h6:0≤x6∧x6<4) (h7:1≤x7∧x7≤3):sOk ⟨js3 x1 x2 x3 x4 x5 x6,ms2 x7⟩=true:=by
 obtain⟨na,nb,nc,nd⟩:=nms
 refine M4 (by simp[js3]) (by simp[ms2]) (fun j hj=> ?_) (by show([nmA,nmB,nmC]:List ByteArray).Nodup;decide) (fun m hm=> ?_)
 ·simp only[js3,List.mem_cons,List.not_mem_nil,or_false] at hj
  rcases hj with rfl | rfl | rfl<;>simp[J.ok,na,nb,nc]<;>omega
 ·simp only[ms2,List.mem_cons,List.not_mem_nil,or_false] at hm
  rcases hm with rfl | rfl<;>simp[mOk,js3,jat]<;>omega
def js4 (x1 x2 x3 x4 x5 x6 x8:Int):List J:=js3 x1 x2 x3 x4 x5 x6++ [⟨nmD,x8 - 1, -7,true⟩]
def ms3 (x7 x9:Int):List Mb:=ms2 x7++ [⟨3,2,x9⟩]
theorem Hj {x1 x2 x3 x4 x5 x6 x7 x8 x9:Int} (h1:0≤x1∧x1<4) (h2:0≤x2∧x2<3) (h3:0≤x3∧x3<4) (h4:0≤x4∧x4<3) (h5:0≤x5∧x5<4) (h6:0≤x6∧x6<4) (h7:1≤x7∧x7≤3) (h8:0≤x8∧x8<5) (h9:1≤x9∧x9≤3):sOk ⟨js4 x1 x2 x3 x4 x5 x6 x8,ms3 x7 x9⟩=true:=by
 obtain⟨na,nb,nc,nd⟩:=nms
 refine M4 (by simp[js4,js3]) (by simp[ms3,ms2]) (fun j hj=> ?_) (by show([nmA,nmB,nmC,nmD]:List ByteArray).Nodup;decide) (fun m hm=> ?_)
 ·simp only[js4,js3,List.cons_append,List.nil_append,List.mem_cons,List.not_mem_nil,or_false] at hj
  rcases hj with rfl | rfl | rfl | rfl<;>simp[J.ok,na,nb,nc,nd]<;>omega
 ·simp only[ms3,ms2,List.cons_append,List.nil_append,List.mem_cons,List.not_mem_nil,or_false] at hm
  rcases hm with rfl | rfl | rfl<;>simp[mOk,js4,js3,jat]<;>omega
theorem Q8 {bl:Int→Option Blk} {K:V→(Int→Option Blk)→Prop} (bs:List Int) (i h g:Int) (hc:gQ bs i) (hb:bl g=some (cur bs i h)) (hK:Rk bl K bs g):
  bN Tryz.prog 220 [.loc g 3 0 0] bl K:=by
 refine bD Tryz.func220 rfl rfl (by rw[Tryz.ntmps220];simp) ?_
 rw[Tryz.ntmps220,Tryz.results220]
 refine aE ?_
 simp
 intro ga Mr hga
 have nag:ga≠g:=fun e=>by rw[e,hb] at hga;cases hga
 refine aE ?_
 simp
 intro gs aDM aO hgs
 have nsg:gs≠g:=fun e=>by rw[e,hb] at hgs;cases hgs
 refine aE ?_
 simp
 refine aS bs i h g 4 (by omega) hc (by simp[nag,nsg,Ne.symm nag,Ne.symm nsg,aO,Ne.symm aO,hb]) fun x1 i1 h1 hx1 hc1=> ?_
 have w1:IntKind.i64.wrap (-1 - x1)= -1 - x1:=i64_in (by omega) (by omega)
 simp[nag,nsg,Ne.symm nag,Ne.symm nsg,aO,Ne.symm aO,w1]
 refine aS bs i1 h1 g 3 (by omega) hc1 (by simp[nag,nsg,Ne.symm nag,Ne.symm nsg,aO,Ne.symm aO,hb]) fun x2 i2 h2 hx2 hc2=> ?_
 simp[nag,nsg,Ne.symm nag,Ne.symm nsg,aO,Ne.symm aO]
 refine aS bs i2 h2 g 4 (by omega) hc2 (by simp[nag,nsg,Ne.symm nag,Ne.symm nsg,aO,Ne.symm aO,hb]) fun x3 i3 h3 hx3 hc3=> ?_
 have w3:IntKind.i64.wrap (3+x3)=3+x3:=i64_in (by omega) (by omega)
 simp[nag,nsg,Ne.symm nag,Ne.symm nsg,aO,Ne.symm aO,w3]
 refine aS bs i3 h3 g 3 (by omega) hc3 (by simp[nag,nsg,Ne.symm nag,Ne.symm nsg,aO,Ne.symm aO,hb]) fun x4 i4 h4 hx4 hc4=> ?_
 simp[nag,nsg,Ne.symm nag,Ne.symm nsg,aO,Ne.symm aO]
 refine aS bs i4 h4 g 4 (by omega) hc4 (by simp[nag,nsg,Ne.symm nag,Ne.symm nsg,aO,Ne.symm aO,hb]) fun x5 i5 h5 hx5 hc5=> ?_
 have w5:IntKind.i64.wrap (x5 - 1)=x5 - 1:=i64_in (by omega) (by omega)
 simp[nag,nsg,Ne.symm nag,Ne.symm nsg,aO,Ne.symm aO,w5]
 refine aS bs i5 h5 g 4 (by omega) hc5 (by simp[nag,nsg,Ne.symm nag,Ne.symm nsg,aO,Ne.symm aO,hb]) fun x6 i6 h6 hx6 hc6=> ?_
 have w6:IntKind.i64.wrap (-1 - x6)= -1 - x6:=i64_in (by omega) (by omega)
 simp[nag,nsg,Ne.symm nag,Ne.symm nsg,aO,Ne.symm aO,w6]
 intro g5 hg5 n5g n5s n5a hb5
 simp[nag,nsg,Ne.symm nag,Ne.symm nsg,aO,Ne.symm aO,n5g,n5s,n5a,Ne.symm n5g,Ne.symm n5s,Ne.symm n5a,show List.range 3= [0,1,2] from rfl]
 refine aE ?_
 simp[nag,nsg,Ne.symm nag,Ne.symm nsg,aO,Ne.symm aO,n5g,n5s,n5a,Ne.symm n5g,Ne.symm n5s,Ne.symm n5a]
 intro g6 hg6 n6s n65 n6g _ n6a hb6
 refine pO bs i6 h6 g g6 [1,1,1,3] (by simp) hc6 (by simp[n6g,Ne.symm n6g,nag,nsg,Ne.symm nag,Ne.symm nsg,aO,Ne.symm aO,Ne.symm n5g]) (by simp[iv,show List.range 4= [0,1,2,3] from rfl]) n6g hg6 fun x7 i7 h7 hx7 hc7=> ?_
 simp[nag,nsg,Ne.symm nag,Ne.symm nsg,aO,Ne.symm aO,n5g,n5s,n5a,Ne.symm n5g,Ne.symm n5s,Ne.symm n5a,n6s,n65,n6g,n6a,Ne.symm n6s,Ne.symm n65,Ne.symm n6g,Ne.symm n6a]
 intro g7 hg7 n7g n76 n7s n75 _ _ n7a hb7
 simp[nag,nsg,Ne.symm nag,Ne.symm nsg,aO,Ne.symm aO,n5g,n5s,n5a,Ne.symm n5g,Ne.symm n5s,Ne.symm n5a,n6s,n65,n6g,n6a,Ne.symm n6s,Ne.symm n65,Ne.symm n6g,Ne.symm n6a,n7g,n76,n7s,n75,n7a,Ne.symm n7g,Ne.symm n76,Ne.symm n7s,Ne.symm n75,Ne.symm n7a,show List.range 2= [0,1] from rfl]
 have aAL:x7=1∨x7=3:=by simpa using hx7
 obtain⟨b0,hb0⟩: ∃b0,b0=upd bl g none:=⟨_,rfl⟩
 have b0g:b0 g=none:=by rw[hb0];simp
 have b0k: ∀x,x≠g→b0 x=bl x:=fun x hx=>by rw[hb0,aA,if_neg hx]
 have b0a:b0 ga=none:=by rw[b0k _ nag];exact hga
 have b0s:b0 gs=none:=by rw[b0k _ nsg];exact hgs
 have b05:b0 g5=none:=by rw[b0k _ n5g];exact hb5
 have b07:b0 g7=none:=by rw[b0k _ n7g];exact hb7
 clear hb0
 refine gG [(0,.loc g 3 0 0),(2,.loc ga 2 0 0),(3,.loc gs 2 0 0)] 54 (upd (upd (upd (upd (upd b0 ga (some ⟨2,[[.nils,.nils]]⟩)) g5 (some ⟨4,jv (js3 x1 x2 x3 x4 x5 x6)⟩)) g7 (some ⟨3,mv (ms2 x7)⟩)) gs (some ⟨2,[[.lsl g5 4 0 3,.lsl g7 3 0 2]]⟩)) g (some (cur bs i7 h7))) ⟨rfl,by simp,by
  simp only[jv,mv,js3,ms2,List.map,J.c,Mb.c,nmA,nmB,nmC,nmD]
  intro z b hz
  have:=b0k z
  simp only[aA] at hz ⊢
  grind⟩ ?_
 clear hb hga hgs hb5 hb6 hb7
 refine aE ?_
 simp
 refine oW bs i7 h7 g 2 (by omega) hc7 (by simp[n5g,n5s,n5a,Ne.symm n5g,Ne.symm n5s,Ne.symm n5a,n7g,n7s,n75,n7a,Ne.symm n7g,Ne.symm n7s,Ne.symm n75,Ne.symm n7a,nag,nsg,Ne.symm nag,Ne.symm nsg,aO,Ne.symm aO]) fun x8 i8 h8 hc8=> ?_
 cases x8
 ·simp
  refine dJ 2 3 (.ptr (Str.mk (js3 x1 x2 x3 x4 x5 x6) (ms2 x7)).c) (upd (upd b0 ga (some ⟨2,[[.nils,.nils]]⟩)) g (some (cur bs i8 h8))) (by intro z b hz;simp only[aA] at hz ⊢;grind) (by simp[frz,dropB,jv,mv,J.c,Mb.c,js3,ms2,V.cl,Int.not_lt.2 hg5,Int.not_lt.2 hg7,Str.c,b05,b07,b0s,n5g,n5s,n5a,Ne.symm n5g,Ne.symm n5s,Ne.symm n5a,n7g,n7s,n75,n7a,Ne.symm n7g,Ne.symm n7s,Ne.symm n75,Ne.symm n7a,nag,nsg,Ne.symm nag,Ne.symm nsg,aO,Ne.symm aO]) ?_
  refine aC ?_
  simp[Str.c,nag,Ne.symm nag]
  rw[aW]
  refine⟨[_],by simp[nag];rfl,?_⟩
  exact hK ⟨js3 x1 x2 x3 x4 x5 x6,ms2 x7⟩ i8 h8 _ (Ma (by omega) (by omega) (by omega) (by omega) (by omega) (by omega) (by omega)) (by simp[js3]) hc8 (by simp[nag,Ne.symm nag]) (fun x y hx hy=>by have:=b0k x hx;simp only[aA];grind)
 ·simp
  refine oU aN (upd (upd (upd b0 ga (some ⟨2,[[.nils,.nils]]⟩)) g7 (some ⟨3,mv (ms2 x7)⟩)) gs (some ⟨2,[[.lsl g5 4 0 3,.lsl g7 3 0 2]]⟩)) (by intro z b hz;simp only[aA] at hz ⊢;grind) [0,1,2] 7 9 (by kernel_rfl) ?_
  simp[n5g,n5s,n5a,Ne.symm n5g,Ne.symm n5s,Ne.symm n5a,n7g,n7s,n75,n7a,Ne.symm n7g,Ne.symm n7s,Ne.symm n75,Ne.symm n7a,nag,nsg,Ne.symm nag,Ne.symm nsg,aO,Ne.symm aO]
  refine Dz 3 ?_
  simp
  refine aS bs i8 h8 g 5 (by omega) hc8 (by simp[n5g,n5s,n5a,Ne.symm n5g,Ne.symm n5s,Ne.symm n5a,n7g,n7s,n75,n7a,Ne.symm n7g,Ne.symm n7s,Ne.symm n75,Ne.symm n7a,nag,nsg,Ne.symm nag,Ne.symm nsg,aO,Ne.symm aO]) fun x9 i9 h9 hx9 hc9=> ?_
  have w9:IntKind.i64.wrap (x9 - 1)=x9 - 1:=i64_in (by omega) (by omega)
  simp
  refine⟨by intro z b hz;simp only[aA] at hz ⊢;grind,Dz 4 ?_⟩
  simp[w9]
  refine⟨by intro z b hz;simp only[aA] at hz ⊢;grind,Dz 5 ?_⟩
  simp
  refine⟨by intro z b hz;simp only[aA] at hz ⊢;grind,Dz 6 ?_⟩
  simp[n5g,n5s,n5a,Ne.symm n5g,Ne.symm n5s,Ne.symm n5a,n7g,n7s,n75,n7a,Ne.symm n7g,Ne.symm n7s,Ne.symm n75,Ne.symm n7a,nag,nsg,Ne.symm nag,Ne.symm nsg,aO,Ne.symm aO]
  intro g9 hg9 n9g n9s n97 n95 n9a b09
  try simp[n5g,n5s,n5a,Ne.symm n5g,Ne.symm n5s,Ne.symm n5a,n7g,n7s,n75,n7a,Ne.symm n7g,Ne.symm n7s,Ne.symm n75,Ne.symm n7a,nag,nsg,Ne.symm nag,Ne.symm nsg,aO,Ne.symm aO,n9g,Ne.symm n9g,n9s,Ne.symm n9s,n97,Ne.symm n97,n95,Ne.symm n95,n9a,Ne.symm n9a]
  refine⟨by intro z b hz;simp only[aA,aJ] at hz ⊢;grind,Dz 7 ?_⟩
  simp[n5g,n5s,n5a,Ne.symm n5g,Ne.symm n5s,Ne.symm n5a,n7g,n7s,n75,n7a,Ne.symm n7g,Ne.symm n7s,Ne.symm n75,Ne.symm n7a,nag,nsg,Ne.symm nag,Ne.symm nsg,aO,Ne.symm aO,n9g,Ne.symm n9g,n9s,Ne.symm n9s,n97,Ne.symm n97,n95,Ne.symm n95,n9a,Ne.symm n9a,appV,elsV,Int.not_lt.2 hg5,Int.not_lt.2 hg9,js3]
  intro g0 hg0 hh
  obtain⟨n0g,n0s,n07,n0a,b00⟩: ¬ g0=g∧ ¬ g0=gs∧ ¬ g0=g7∧ ¬ g0=ga∧b0 g0=none:=by
   by_cases e:g0=g5
   ·rw[e];exact⟨n5g,n5s,Ne.symm n75,n5a,b05⟩
   ·obtain⟨_,q1,q2,q3,_,q4,q5⟩:=hh e;exact⟨q1,q2,q3,q4,q5⟩
  clear hh
  refine⟨by intro z b hz;simp only[aA,aJ] at hz ⊢;grind,Dz 8 ?_⟩
  simp[n5g,n5s,n5a,Ne.symm n5g,Ne.symm n5s,Ne.symm n5a,n7g,n7s,n75,n7a,Ne.symm n7g,Ne.symm n7s,Ne.symm n75,Ne.symm n7a,nag,nsg,Ne.symm nag,Ne.symm nsg,aO,Ne.symm aO,n9g,Ne.symm n9g,n9s,Ne.symm n9s,n97,Ne.symm n97,n95,Ne.symm n95,n9a,Ne.symm n9a,n0g,Ne.symm n0g,n0s,Ne.symm n0s,n07,Ne.symm n07,n0a,Ne.symm n0a]
  refine⟨by intro z b hz;simp only[aA,aJ] at hz ⊢;grind,bO (i:=9) (by kernel_rfl) rfl rfl rfl ?_⟩
  simp[n5g,n5s,n5a,Ne.symm n5g,Ne.symm n5s,Ne.symm n5a,n7g,n7s,n75,n7a,Ne.symm n7g,Ne.symm n7s,Ne.symm n75,Ne.symm n7a,nag,nsg,Ne.symm nag,Ne.symm nsg,aO,Ne.symm aO,n9g,Ne.symm n9g,n9s,Ne.symm n9s,n97,Ne.symm n97,n95,Ne.symm n95,n9a,Ne.symm n9a,n0g,Ne.symm n0g,n0s,Ne.symm n0s,n07,Ne.symm n07,n0a,Ne.symm n0a]
  refine Dy ?_
  try simp
  refine gG [(0,.loc g 3 0 0),(2,.loc ga 2 0 0),(3,.loc gs 2 0 0)] 54 (upd (upd (upd (upd (upd b0 ga (some ⟨2,[[.nils,.nils]]⟩)) g0 (some ⟨4,jv (js4 x1 x2 x3 x4 x5 x6 x9)⟩)) g7 (some ⟨3,mv (ms2 x7)⟩)) gs (some ⟨2,[[.lsl g0 4 0 4,.lsl g7 3 0 2]]⟩)) g (some (cur bs i9 h9))) ⟨rfl,by simp,by
   simp only[jv,mv,js4,js3,ms2,List.map,J.c,Mb.c,nmA,nmB,nmC,nmD,List.cons_append,List.nil_append]
   intro z b hz
   simp only[aA,aJ] at hz ⊢
   grind⟩ ?_
  refine oU aN (upd (upd (upd b0 ga (some ⟨2,[[.nils,.nils]]⟩)) g0 (some ⟨4,jv (js4 x1 x2 x3 x4 x5 x6 x9)⟩)) gs (some ⟨2,[[.lsl g0 4 0 4,.lsl g7 3 0 2]]⟩)) (by intro z b hz;simp only[aA,aJ] at hz ⊢;grind) [0,1,2] 7 9 (by kernel_rfl) ?_
  simp[n7g,n7s,n7a,Ne.symm n7g,Ne.symm n7s,Ne.symm n7a,nag,nsg,Ne.symm nag,Ne.symm nsg,aO,Ne.symm aO,n0g,Ne.symm n0g,n0s,Ne.symm n0s,n07,Ne.symm n07,n0a,Ne.symm n0a]
  refine Dz 3 ?_
  simp[n7g,n7s,n7a,Ne.symm n7g,Ne.symm n7s,Ne.symm n7a,nag,nsg,Ne.symm nag,Ne.symm nsg,aO,Ne.symm aO,n0g,Ne.symm n0g,n0s,Ne.symm n0s,n07,Ne.symm n07,n0a,Ne.symm n0a,show List.range 3= [0,1,2] from rfl]
  intro gb hgb nbg nbs nb7 nb0 nba b0b
  refine⟨by intro z b hz;simp only[aA,aJ] at hz ⊢;grind,Dz 4 ?_⟩
  simp[n7g,n7s,n7a,Ne.symm n7g,Ne.symm n7s,Ne.symm n7a,nag,nsg,Ne.symm nag,Ne.symm nsg,aO,Ne.symm aO,n0g,Ne.symm n0g,n0s,Ne.symm n0s,n07,Ne.symm n07,n0a,Ne.symm n0a,nbg,Ne.symm nbg,nbs,Ne.symm nbs,nb7,Ne.symm nb7,nb0,Ne.symm nb0,nba,Ne.symm nba]
  refine pO bs i9 h9 g gb [1,2,3] (by simp) hc9 (by simp[n7g,n7s,n7a,Ne.symm n7g,Ne.symm n7s,Ne.symm n7a,nag,nsg,Ne.symm nag,Ne.symm nsg,aO,Ne.symm aO,n0g,Ne.symm n0g,n0s,Ne.symm n0s,n07,Ne.symm n07,n0a,Ne.symm n0a,nbg,Ne.symm nbg,nbs,Ne.symm nbs,nb7,Ne.symm nb7,nb0,Ne.symm nb0,nba,Ne.symm nba]) (by simp[iv]) nbg hgb fun xb ib hb hxb hcb=> ?_
  have aKX:xb=1∨xb=2∨xb=3:=by simpa using hxb
  simp
  refine⟨by intro z b hz;simp only[aA,aJ] at hz ⊢;grind,Dz 5 ?_⟩
  simp
  refine⟨by intro z b hz;simp only[aA,aJ] at hz ⊢;grind,Dz 6 ?_⟩
  simp[n7g,n7s,n7a,Ne.symm n7g,Ne.symm n7s,Ne.symm n7a,nag,nsg,Ne.symm nag,Ne.symm nsg,aO,Ne.symm aO,n0g,Ne.symm n0g,n0s,Ne.symm n0s,n07,Ne.symm n07,n0a,Ne.symm n0a,nbg,Ne.symm nbg,nbs,Ne.symm nbs,nb7,Ne.symm nb7,nb0,Ne.symm nb0,nba,Ne.symm nba]
  intro gc hgc _ ncb ncg ncs nc7 nc0 nca b0c
  try simp[n7g,n7s,n7a,Ne.symm n7g,Ne.symm n7s,Ne.symm n7a,nag,nsg,Ne.symm nag,Ne.symm nsg,aO,Ne.symm aO,n0g,Ne.symm n0g,n0s,Ne.symm n0s,n07,Ne.symm n07,n0a,Ne.symm n0a,nbg,Ne.symm nbg,nbs,Ne.symm nbs,nb7,Ne.symm nb7,nb0,Ne.symm nb0,nba,Ne.symm nba,ncb,Ne.symm ncb,ncg,Ne.symm ncg,ncs,Ne.symm ncs,nc7,Ne.symm nc7,nc0,Ne.symm nc0,nca,Ne.symm nca]
  refine⟨by intro z b hz;simp only[aA,aJ] at hz ⊢;grind,Dz 7 ?_⟩
  simp[n7g,n7s,n7a,Ne.symm n7g,Ne.symm n7s,Ne.symm n7a,nag,nsg,Ne.symm nag,Ne.symm nsg,aO,Ne.symm aO,n0g,Ne.symm n0g,n0s,Ne.symm n0s,n07,Ne.symm n07,n0a,Ne.symm n0a,nbg,Ne.symm nbg,nbs,Ne.symm nbs,nb7,Ne.symm nb7,nb0,Ne.symm nb0,nba,Ne.symm nba,ncb,Ne.symm ncb,ncg,Ne.symm ncg,ncs,Ne.symm ncs,nc7,Ne.symm nc7,nc0,Ne.symm nc0,nca,Ne.symm nca,appV,elsV,Int.not_lt.2 hg7,Int.not_lt.2 hgc,ms2]
  intro gd hgd hh
  obtain⟨ndg,nds,nd0,nda,b0d⟩: ¬ gd=g∧ ¬ gd=gs∧ ¬ gd=g0∧ ¬ gd=ga∧b0 gd=none:=by
   by_cases e:gd=g7
   ·rw[e];exact⟨n7g,n7s,Ne.symm n07,n7a,b07⟩
   ·have:=hh e;grind
  clear hh
  refine⟨by intro z b hz;simp only[aA,aJ] at hz ⊢;grind,Dz 8 ?_⟩
  simp[n7g,n7s,n7a,Ne.symm n7g,Ne.symm n7s,Ne.symm n7a,nag,nsg,Ne.symm nag,Ne.symm nsg,aO,Ne.symm aO,n0g,Ne.symm n0g,n0s,Ne.symm n0s,n07,Ne.symm n07,n0a,Ne.symm n0a,nbg,Ne.symm nbg,nbs,Ne.symm nbs,nb7,Ne.symm nb7,nb0,Ne.symm nb0,nba,Ne.symm nba,ncb,Ne.symm ncb,ncg,Ne.symm ncg,ncs,Ne.symm ncs,nc7,Ne.symm nc7,nc0,Ne.symm nc0,nca,Ne.symm nca,ndg,Ne.symm ndg,nds,Ne.symm nds,nd0,Ne.symm nd0,nda,Ne.symm nda]
  refine⟨by intro z b hz;simp only[aA,aJ] at hz ⊢;grind,bO (i:=9) (by kernel_rfl) rfl rfl rfl ?_⟩
  simp[n7g,n7s,n7a,Ne.symm n7g,Ne.symm n7s,Ne.symm n7a,nag,nsg,Ne.symm nag,Ne.symm nsg,aO,Ne.symm aO,n0g,Ne.symm n0g,n0s,Ne.symm n0s,n07,Ne.symm n07,n0a,Ne.symm n0a,nbg,Ne.symm nbg,nbs,Ne.symm nbs,nb7,Ne.symm nb7,nb0,Ne.symm nb0,nba,Ne.symm nba,ncb,Ne.symm ncb,ncg,Ne.symm ncg,ncs,Ne.symm ncs,nc7,Ne.symm nc7,nc0,Ne.symm nc0,nca,Ne.symm nca,ndg,Ne.symm ndg,nds,Ne.symm nds,nd0,Ne.symm nd0,nda,Ne.symm nda]
  refine Dy ?_
  try simp
  refine gG [(0,.loc g 3 0 0),(2,.loc ga 2 0 0),(3,.loc gs 2 0 0)] 54 (upd (upd (upd (upd (upd b0 ga (some ⟨2,[[.nils,.nils]]⟩)) g0 (some ⟨4,jv (js4 x1 x2 x3 x4 x5 x6 x9)⟩)) gd (some ⟨3,mv (ms3 x7 xb)⟩)) gs (some ⟨2,[[.lsl g0 4 0 4,.lsl gd 3 0 3]]⟩)) g (some (cur bs ib hb))) ⟨rfl,by simp,by
   simp only[jv,mv,js4,js3,ms3,ms2,List.map,J.c,Mb.c,nmA,nmB,nmC,nmD,List.cons_append,List.nil_append]
   intro z b hz
   simp only[aA,aJ] at hz ⊢
   grind⟩ ?_
  refine dJ 2 3 (.ptr (Str.mk (js4 x1 x2 x3 x4 x5 x6 x9) (ms3 x7 xb)).c) (upd (upd b0 ga (some ⟨2,[[.nils,.nils]]⟩)) g (some (cur bs ib hb))) (by intro z b hz;simp only[aA,aJ] at hz ⊢;grind) (by simp[frz,dropB,jv,mv,J.c,Mb.c,js4,js3,ms3,ms2,V.cl,Int.not_lt.2 hg0,Int.not_lt.2 hgd,Str.c,b00,b0d,b0s,n7g,n7s,n7a,Ne.symm n7g,Ne.symm n7s,Ne.symm n7a,nag,nsg,Ne.symm nag,Ne.symm nsg,aO,Ne.symm aO,n0g,Ne.symm n0g,n0s,Ne.symm n0s,n07,Ne.symm n07,n0a,Ne.symm n0a,ndg,Ne.symm ndg,nds,Ne.symm nds,nd0,Ne.symm nd0,nda,Ne.symm nda]) ?_
  refine aC ?_
  simp[Str.c,nag,Ne.symm nag]
  rw[aW]
  refine⟨[_],by simp[nag];rfl,?_⟩
  have hok:=Hj hx1 hx2 hx3 hx4 hx5 hx6 (x7:=x7) (by rcases aAL with h | h<;>rw[h]<;>decide) hx9 (x9:=xb) (by rcases aKX with h | h | h<;>rw[h]<;>decide)
  exact hK ⟨js4 x1 x2 x3 x4 x5 x6 x9,ms3 x7 xb⟩ ib hb _ hok (by simp[js4,js3]) hcb (by simp[nag,Ne.symm nag]) (fun x y hx hy=>by have:=b0k x hx;simp only[aA];grind)

theorem Bo {P:Program} {ops:Array Oper} {blK:Int→Option Blk} {tl:Nat→Bool} {K:St→Prop} {l:Array Bool} {σ:St} (is:List Nat) (fuel:Nat) (hs:Sub blK σ.bl) (hn:(is.all (fun i=>decide (i<ops.size))&& hoistB ops is l && zB ops tl is)=true)
  (h:HoistF P (ops.toList.map (·.dst)) blK (is.filterMap fun i=>ops[i]?) (iM P ops blK tl K fuel (fQ is l)) σ):iM P ops blK tl K (fuel+is.length) l σ:=by
 simp only[Bool.and_eq_true] at hn
 exact lB fuel is l σ (jG hn.2) hn.1.2 hs (iL _ is σ (filter_some is hn.1.1) h)
def tj (x1 x2 x3 x4 x5 x6:Int):List J:= [⟨nmA, -2,x1,true⟩,⟨nmB,6,x2,true⟩,⟨nmC,x3, -1 - x4,false⟩,⟨nmD,3+x5, -1 - x6,false⟩]
structure TD where
 n:Nat
 ms:List Mb
 g:Int
 i:Int
 h:Int
def yK (m:Mb):Prop:=(m.a=0∨m.a=1∨m.a=2∨m.a=3)∧(m.b=1∨m.b=2∨m.b=3)∧(1≤m.kind∧m.kind≤3)∧((m.a≤1∧2≤m.b)∨(m.a=2∧m.b=3)∨(m.a=3∧m.b=1))
theorem Uq {x1 x2 x3 x4 x5 x6:Int} {ms:List Mb} (h1:0≤x1∧x1<3) (h2:0≤x2∧x2<3) (h3:0≤x3∧x3<2) (h4:0≤x4∧x4<3) (h5:0≤x5∧x5<2) (h6:0≤x6∧x6<3) (hl:ms.length≤5) (hm: ∀m,m∈ms→yK m):sOk ⟨tj x1 x2 x3 x4 x5 x6,ms⟩=true:=by
 obtain⟨na,nb,nc,nd⟩:=nms
 refine M4 (by simp[tj]) (by omega) (fun j hj=> ?_) (by show([nmA,nmB,nmC,nmD]:List ByteArray).Nodup;decide) (fun m hmm=> ?_)
 ·simp only[tj,List.mem_cons,List.not_mem_nil,or_false] at hj
  rcases hj with rfl | rfl | rfl | rfl<;>simp[J.ok,na,nb,nc,nd]<;>omega
 ·obtain⟨q1,q2,q3,q4⟩:=hm m hmm
  obtain⟨ma,mb,mk⟩:=m
  simp only at q1 q2 q3 q4
  rcases q1 with rfl | rfl | rfl | rfl<;>rcases q2 with rfl | rfl | rfl<;>simp[mOk,tj,jat] at q4 ⊢ <;>omega
theorem Hc {bl:Int→Option Blk} {gs g1 g2:Int} {js:List J} {ms:List Mb} (h0:0≤g1) (h0':0≤g2) (hs:bl gs=some ⟨2,[[.lsl g1 4 0 js.length,.lsl g2 3 0 ms.length]]⟩) (h1:bl g1=some ⟨4,jv js⟩) (h2:bl g2=some ⟨3,mv ms⟩):frz bl 2 (.loc gs 2 0 0)=some (.ptr (Str.mk js ms).c):=by
 have e1:=dU (bl:=bl) (bl0:=fun _=>none) (n:=js.length) h0 rfl h1 (by simp) (aCJ js)
 have e2:=dU (bl:=bl) (bl0:=fun _=>none) (n:=ms.length) h0' rfl h2 (by simp) (aDT ms)
 change frz bl 1 _=_ at e1
 change frz bl 1 _=_ at e2
 rw[kB hs]
 simp[e1,e2,Str.c]
theorem Aa {bl:Int→Option Blk} {K:V→(Int→Option Blk)→Prop} (bs:List Int) (i h g:Int) (hc:gQ bs i) (hb:bl g=some (cur bs i h)) (hK:Rk bl K bs g):
  bN Tryz.prog 219 [.loc g 3 0 0] bl K:=by
 refine bD Tryz.func219 rfl rfl (by rw[Tryz.ntmps219];simp) ?_
 rw[Tryz.ntmps219,Tryz.results219]
 refine aE ?_
 simp
 intro ga Mr hga
 have nag:ga≠g:=fun e=>by rw[e,hb] at hga;cases hga
 refine aE ?_
 simp
 intro gs aDM aO hgs
 have nsg:gs≠g:=fun e=>by rw[e,hb] at hgs;cases hgs
 refine aE ?_
 simp
 refine aS bs i h g 3 (by omega) hc (by simp[nag,nsg,Ne.symm nag,Ne.symm nsg,aO,Ne.symm aO,hb]) fun x1 i1 h1 hx1 hc1=> ?_
 simp[nag,nsg,Ne.symm nag,Ne.symm nsg,aO,Ne.symm aO]
 refine aS bs i1 h1 g 3 (by omega) hc1 (by simp[nag,nsg,Ne.symm nag,Ne.symm nsg,aO,Ne.symm aO,hb]) fun x2 i2 h2 hx2 hc2=> ?_
 simp[nag,nsg,Ne.symm nag,Ne.symm nsg,aO,Ne.symm aO]
 refine aS bs i2 h2 g 2 (by omega) hc2 (by simp[nag,nsg,Ne.symm nag,Ne.symm nsg,aO,Ne.symm aO,hb]) fun x3 i3 h3 hx3 hc3=> ?_
 simp[nag,nsg,Ne.symm nag,Ne.symm nsg,aO,Ne.symm aO]
 refine aS bs i3 h3 g 3 (by omega) hc3 (by simp[nag,nsg,Ne.symm nag,Ne.symm nsg,aO,Ne.symm aO,hb]) fun x4 i4 h4 hx4 hc4=> ?_
 have w4:IntKind.i64.wrap (-1 - x4)= -1 - x4:=i64_in (by omega) (by omega)
 simp[nag,nsg,Ne.symm nag,Ne.symm nsg,aO,Ne.symm aO,w4]
 refine aS bs i4 h4 g 2 (by omega) hc4 (by simp[nag,nsg,Ne.symm nag,Ne.symm nsg,aO,Ne.symm aO,hb]) fun x5 i5 h5 hx5 hc5=> ?_
 have w5:IntKind.i64.wrap (3+x5)=3+x5:=i64_in (by omega) (by omega)
 simp[nag,nsg,Ne.symm nag,Ne.symm nsg,aO,Ne.symm aO,w5]
 refine aS bs i5 h5 g 3 (by omega) hc5 (by simp[nag,nsg,Ne.symm nag,Ne.symm nsg,aO,Ne.symm aO,hb]) fun x6 i6 h6 hx6 hc6=> ?_
 have w6:IntKind.i64.wrap (-1 - x6)= -1 - x6:=i64_in (by omega) (by omega)
 simp[nag,nsg,Ne.symm nag,Ne.symm nsg,aO,Ne.symm aO,w6]
 intro g5 hg5 n5g n5s n5a hb5
 simp[nag,nsg,Ne.symm nag,Ne.symm nsg,aO,Ne.symm aO,n5g,Ne.symm n5g,n5s,Ne.symm n5s,n5a,Ne.symm n5a,show List.range 4= [0,1,2,3] from rfl]
 refine aE ?_
 simp[nag,nsg,Ne.symm nag,Ne.symm nsg,aO,Ne.symm aO,n5g,Ne.symm n5g,n5s,Ne.symm n5s,n5a,Ne.symm n5a]
 intro g6 hg6 n6s n65 n6g _ n6a hb6
 refine pO bs i6 h6 g g6 [1,2,3] (by simp) hc6 (by simp[nag,nsg,Ne.symm nag,Ne.symm nsg,aO,Ne.symm aO,n5g,Ne.symm n5g,n5s,Ne.symm n5s,n5a,Ne.symm n5a,n6g,Ne.symm n6g]) (by simp[iv,show List.range 3= [0,1,2] from rfl]) n6g hg6 fun x7 i7 h7 hx7 hc7=> ?_
 simp[nag,nsg,Ne.symm nag,Ne.symm nsg,aO,Ne.symm aO,n5g,Ne.symm n5g,n5s,Ne.symm n5s,n5a,Ne.symm n5a,n6s,Ne.symm n6s,n65,Ne.symm n65,n6g,Ne.symm n6g,n6a,Ne.symm n6a]
 intro g7 hg7 n7g n76 n7s n75 _ _ n7a hb7
 simp[nag,nsg,Ne.symm nag,Ne.symm nsg,aO,Ne.symm aO,n5g,Ne.symm n5g,n5s,Ne.symm n5s,n5a,Ne.symm n5a,n6s,Ne.symm n6s,n65,Ne.symm n65,n6g,Ne.symm n6g,n6a,Ne.symm n6a,n7g,Ne.symm n7g,n76,Ne.symm n76,n7s,Ne.symm n7s,n75,Ne.symm n75,n7a,Ne.symm n7a,show List.range 3= [0,1,2] from rfl]
 have aAL:x7=1∨x7=2∨x7=3:=by simpa using hx7
 obtain⟨b0,hb0⟩: ∃b0,b0=upd bl g none:=⟨_,rfl⟩
 have b0g:b0 g=none:=by rw[hb0];simp
 have b0k: ∀x,x≠g→b0 x=bl x:=fun x hx=>by rw[hb0,aA,if_neg hx]
 have b0a:b0 ga=none:=by rw[b0k _ nag];exact hga
 have b0s:b0 gs=none:=by rw[b0k _ nsg];exact hgs
 have b05:b0 g5=none:=by rw[b0k _ n5g];exact hb5
 have b07:b0 g7=none:=by rw[b0k _ n7g];exact hb7
 clear hb0
 refine gG [(0,.loc g 3 0 0),(2,.loc ga 2 0 0),(3,.loc gs 2 0 0)] 56 (upd (upd (upd (upd (upd b0 ga (some ⟨2,[[.nils,.nils]]⟩)) g5 (some ⟨4,jv (tj x1 x2 x3 x4 x5 x6)⟩)) g7 (some ⟨3,mv [⟨0,2,1⟩,⟨2,3,x7⟩,⟨3,1,1⟩]⟩)) gs (some ⟨2,[[.lsl g5 4 0 4,.lsl g7 3 0 3]]⟩)) g (some (cur bs i7 h7))) ⟨rfl,by simp,by
  simp only[jv,mv,tj,List.map,J.c,Mb.c,nmA,nmB,nmC,nmD]
  intro z b hz
  have:=b0k z
  simp only[aA] at hz ⊢
  grind⟩ ?_
 clear hb hga hgs hb5 hb6 hb7
 refine aE ?_
 simp
 refine aS bs i7 h7 g 3 (by omega) hc7 (by simp[nag,nsg,Ne.symm nag,Ne.symm nsg,aO,Ne.symm aO,n5g,Ne.symm n5g,n5s,Ne.symm n5s,n5a,Ne.symm n5a,n7g,n7s,n7a,Ne.symm n7g,Ne.symm n7s,Ne.symm n7a]) fun x8 i8 h8 hx8 hc8=> ?_
 simp
 refine aP (fun p:TD=> [(0,.loc g 3 0 0),(2,.loc ga 2 0 0),(3,.loc gs 2 0 0),(4,.int .i64 p.n)]) (fun p=>upd (upd (upd (upd (upd b0 ga (some ⟨2,[[.nils,.nils]]⟩)) g5 (some ⟨4,jv (tj x1 x2 x3 x4 x5 x6)⟩)) p.g (some ⟨3,mv p.ms⟩)) gs (some ⟨2,[[.lsl g5 4 0 4,.lsl p.g 3 0 p.ms.length]]⟩)) g (some (cur bs p.i p.h)))
  (fun p=>(p.n≤2∧p.ms.length+p.n≤5)∧(∀m,m∈p.ms→yK m)∧gQ bs p.i∧(0≤p.g∧ ¬ p.g=g∧ ¬ p.g=gs∧ ¬ p.g=g5∧ ¬ p.g=ga∧b0 p.g=none)) (fun p=>p.n) 56 ⟨x8.toNat,[⟨0,2,1⟩,⟨2,3,x7⟩,⟨3,1,1⟩],g7,i8,h8⟩
  ⟨⟨by simp only;omega,by simp;omega⟩,fun m hm=> ?_,hc8,hg7,n7g,n7s,n75,n7a,b07⟩ ⟨rfl,by simp;omega,by intro z b hz;simp only[aA] at hz ⊢;grind⟩ ?_
 ·simp only[List.mem_cons,List.not_mem_nil,or_false] at hm
  rcases hm with rfl | rfl | rfl
  ·unfold yK;simp
  ·unfold yK;simp;omega
  ·unfold yK;simp
 rintro⟨n,ms,gm,ic,hcu⟩ ⟨⟨hn,hml⟩,hms,hcc,hgm,nmg,lO,nm5,nma,b0m⟩
 simp only at hn hml hms hcc hgm nmg lO nm5 nma b0m
 refine aC ?_
 simp
 refine⟨fun hp=> ?_,fun hp=> ?_⟩
 ·refine oU aN (upd (upd (upd b0 ga (some ⟨2,[[.nils,.nils]]⟩)) g5 (some ⟨4,jv (tj x1 x2 x3 x4 x5 x6)⟩)) gs (some ⟨2,[[.lsl g5 4 0 4,.lsl gm 3 0 ms.length]]⟩)) (by intro z b hz;simp only[aA,aJ] at hz ⊢;grind) [0,1,2,4,7] 10 14 (by kernel_rfl) ?_
  simp[nag,nsg,Ne.symm nag,Ne.symm nsg,aO,Ne.symm aO,n5g,Ne.symm n5g,n5s,Ne.symm n5s,n5a,Ne.symm n5a,nmg,Ne.symm nmg,lO,Ne.symm lO,nm5,Ne.symm nm5,nma,Ne.symm nma]
  refine Dz 3 ?_
  simp
  refine aS bs ic hcu g 2 (by omega) hcc (by simp[nag,nsg,Ne.symm nag,Ne.symm nsg,aO,Ne.symm aO,n5g,Ne.symm n5g,n5s,Ne.symm n5s,n5a,Ne.symm n5a,nmg,Ne.symm nmg,lO,Ne.symm lO,nm5,Ne.symm nm5,nma,Ne.symm nma]) fun y1 j1 k1 hy1 hd1=> ?_
  simp
  refine⟨by intro z b hz;simp only[aA,aJ] at hz ⊢;grind,Dz 5 ?_⟩
  simp
  refine aS bs j1 k1 g 2 (by omega) hd1 (by simp) fun y2 j2 k2 hy2 hd2=> ?_
  have wy2:IntKind.i64.wrap (2+y2)=2+y2:=i64_in (by omega) (by omega)
  simp
  refine⟨by intro z b hz;simp only[aA,aJ] at hz ⊢;grind,Bo (fuel:=7) [6] (by intro z b hz;simp only[aA,aJ] at hz ⊢;grind) (by kernel_rfl) ?_⟩
  simp[wy2]
  refine Dz 8 ?_
  simp
  refine aS bs j2 k2 g 3 (by omega) hd2 (by simp) fun y3 j3 k3 hy3 hd3=> ?_
  have wy3:IntKind.i64.wrap (1+y3)=1+y3:=i64_in (by omega) (by omega)
  simp
  refine⟨by intro z b hz;simp only[aA,aJ] at hz ⊢;grind,Dz 9 ?_⟩
  simp[wy3]
  refine⟨by intro z b hz;simp only[aA,aJ] at hz ⊢;grind,Dz 10 ?_⟩
  simp
  refine⟨by intro z b hz;simp only[aA,aJ] at hz ⊢;grind,Dz 11 ?_⟩
  simp
  intro gc hgc ncg ncs ncm nc5 nca b0c
  refine⟨by intro z b hz;simp only[aA,aJ] at hz ⊢;grind,Dz 12 ?_⟩
  simp[nag,nsg,Ne.symm nag,Ne.symm nsg,aO,Ne.symm aO,n5g,Ne.symm n5g,n5s,Ne.symm n5s,n5a,Ne.symm n5a,nmg,Ne.symm nmg,lO,Ne.symm lO,nm5,Ne.symm nm5,nma,Ne.symm nma,ncg,Ne.symm ncg,ncs,Ne.symm ncs,ncm,Ne.symm ncm,nc5,Ne.symm nc5,nca,Ne.symm nca,appV,elsV,Int.not_lt.2 hgm,Int.not_lt.2 hgc]
  refine⟨by omega,fun gd hgd hh=> ?_⟩
  obtain⟨ndg,nds,nd5,nda,b0d⟩: ¬ gd=g∧ ¬ gd=gs∧ ¬ gd=g5∧ ¬ gd=ga∧b0 gd=none:=by
   by_cases e:gd=gm
   ·rw[e];exact⟨nmg,lO,nm5,nma,b0m⟩
   ·have:=hh e;grind
  clear hh
  refine⟨by intro z b hz;simp only[aA,aJ] at hz ⊢;grind,Dz 13 ?_⟩
  simp[nag,nsg,Ne.symm nag,Ne.symm nsg,aO,Ne.symm aO,n5g,Ne.symm n5g,n5s,Ne.symm n5s,n5a,Ne.symm n5a,nmg,Ne.symm nmg,lO,Ne.symm lO,nm5,Ne.symm nm5,nma,Ne.symm nma,ncg,Ne.symm ncg,ncs,Ne.symm ncs,ncm,Ne.symm ncm,nc5,Ne.symm nc5,nca,Ne.symm nca,ndg,Ne.symm ndg,nds,Ne.symm nds,nd5,Ne.symm nd5,nda,Ne.symm nda]
  refine⟨by intro z b hz;simp only[aA,aJ] at hz ⊢;grind,bO (i:=14) (by kernel_rfl) rfl rfl rfl ?_⟩
  simp[nag,nsg,Ne.symm nag,Ne.symm nsg,aO,Ne.symm aO,n5g,Ne.symm n5g,n5s,Ne.symm n5s,n5a,Ne.symm n5a,nmg,Ne.symm nmg,lO,Ne.symm lO,nm5,Ne.symm nm5,nma,Ne.symm nma,ncg,Ne.symm ncg,ncs,Ne.symm ncs,ncm,Ne.symm ncm,nc5,Ne.symm nc5,nca,Ne.symm nca,ndg,Ne.symm ndg,nds,Ne.symm nds,nd5,Ne.symm nd5,nda,Ne.symm nda]
  refine Dy ?_
  have wn:IntKind.i64.wrap ((n:Int) - 1)=((n - 1:Nat):Int):=by rw[i64_in (by omega) (by omega)];omega
  simp[wn,aB]
  have emv:List.take ms.length (mv ms)++ [[V.int IntKind.i64 y1,V.int IntKind.i64 (2+y2),V.int IntKind.i64 (1+y3)]]=mv (ms++ [⟨y1,2+y2,1+y3⟩]):=by
   rw[←Ai ms,List.take_length];simp[mv,Mb.c]
  refine⟨⟨n - 1,ms++ [⟨y1,2+y2,1+y3⟩],gd,j3,k3⟩,⟨⟨by simp only;omega,by simp;omega⟩,fun m hm=> ?_,hd3,hgd,ndg,nds,nd5,nda,b0d⟩,by simp only;omega,rfl,by simp,?_⟩
  ·rcases List.mem_append.1 hm with hm | hm
   ·exact hms m hm
   ·obtain rfl:m=_:=by simpa using hm
    unfold yK;simp only;omega
  ·rw[emv]
   intro z b hz
   simp only[aA,aJ,List.length_append,List.length_singleton] at hz ⊢
   grind
 ·refine dJ 2 3 (.ptr (Str.mk (tj x1 x2 x3 x4 x5 x6) ms).c) (upd (upd b0 ga (some ⟨2,[[.nils,.nils]]⟩)) g (some (cur bs ic hcu))) (by intro z b hz;simp only[aA,aJ] at hz ⊢;grind) (Hc (g1:=g5) (g2:=gm) hg5 hgm (by simp[dropB,tj,b0s,nag,nsg,Ne.symm nag,Ne.symm nsg,aO,Ne.symm aO,n5g,Ne.symm n5g,n5s,Ne.symm n5s,n5a,Ne.symm n5a,nmg,Ne.symm nmg,lO,Ne.symm lO,nm5,Ne.symm nm5,nma,Ne.symm nma]) (by simp[dropB,b05,nag,nsg,Ne.symm nag,Ne.symm nsg,aO,Ne.symm aO,n5g,Ne.symm n5g,n5s,Ne.symm n5s,n5a,Ne.symm n5a,nmg,Ne.symm nmg,lO,Ne.symm lO,nm5,Ne.symm nm5,nma,Ne.symm nma]) (by simp[dropB,b0m,nag,nsg,Ne.symm nag,Ne.symm nsg,aO,Ne.symm aO,n5g,Ne.symm n5g,n5s,Ne.symm n5s,n5a,Ne.symm n5a,nmg,Ne.symm nmg,lO,Ne.symm lO,nm5,Ne.symm nm5,nma,Ne.symm nma])) ?_
  refine aC ?_
  simp[Str.c,nag,Ne.symm nag]
  rw[aW]
  refine⟨[_],by simp[nag];rfl,?_⟩
  have hok:=Uq hx1 hx2 hx3 hx4 hx5 hx6 (ms:=ms) (by omega) hms
  exact hK ⟨tj x1 x2 x3 x4 x5 x6,ms⟩ ic hcu _ hok (by simp[tj]) hcc (by simp[nag,Ne.symm nag]) (fun x y hx hy=>by have:=b0k x hx;simp only[aA];grind)
theorem Q4 {bl:Int→Option Blk} {K:V→(Int→Option Blk)→Prop} (bs:List Int) (i h g:Int) (hc:gQ bs i) (hb:bl g=some (cur bs i h)) (hK:Rk bl K bs g):
  bN Tryz.prog 144 [.loc g 3 0 0] bl K:=by
 refine bD Tryz.func144 rfl rfl (by rw[Tryz.ntmps144];simp) ?_
 rw[Tryz.ntmps144,Tryz.results144]
 refine aC ?_
 simp
 intro ga Mr hga
 have nag:ga≠g:=fun e=>by rw[e,hb] at hga;cases hga
 refine oW bs i h g 3 (by omega) hc (by simp[nag,Ne.symm nag,hb]) fun x i1 h1 hc1=> ?_
 have hK2: ∀(s:Str) (i' h':Int) bl',sOk s=true→3≤s.js.length→gQ bs i'→bl' g=some (cur bs i' h')→(∀x y,x≠g→upd (upd bl ga (some ⟨2,[[.nils,.nils]]⟩)) g (some (cur bs i1 h1)) x=some y→bl' x=some y)→K (.agg s.c) (upd bl' ga (some ⟨2,[s.c]⟩)):=fun s i' h' bl' q1 q2 q3 q4 q5=>
  hK s i' h' _ q1 q2 q3 (by simp[Ne.symm nag,q4]) (fun x y hx hy=>by
   have e1:x≠ga:=fun e=>by rw[e,hga] at hy;cases hy
   rw[aA,if_neg e1]
   exact q5 x y hx (by rw[aA,if_neg hx,aA,if_neg e1];exact hy))
 have aEA: ∀bl':Int→Option Blk,(∀x y,x≠g→upd (upd bl ga (some ⟨2,[[.nils,.nils]]⟩)) g (some (cur bs i1 h1)) x=some y→bl' x=some y)→bl' ga=some ⟨2,[[.nils,.nils]]⟩:=fun bl' q=>q ga _ nag (by simp[nag])
 cases x
 ·simp
  refine Q8 bs i1 h1 g hc1 (by simp) fun s i' h' bl' q1 q2 q3 q4 q5=> ?_
  have e2:=aEA bl' q5
  simp[Str.c,e2]
  rw[aW]
  refine⟨[_],by simp;rfl,?_⟩
  exact hK2 s i' h' bl' q1 q2 q3 q4 q5
 ·simp
  refine Aa bs i1 h1 g hc1 (by simp) fun s i' h' bl' q1 q2 q3 q4 q5=> ?_
  have e2:=aEA bl' q5
  simp[Str.c,e2]
  rw[aW]
  refine⟨[_],by simp;rfl,?_⟩
  exact hK2 s i' h' bl' q1 q2 q3 q4 q5

theorem Dt {js:List J} {ns:List Int} (hl:ns.length=2*js.length) (h: ∀x,x∈ns→ -8≤x∧x≤8):gL js ns=true:=by
 unfold gL
 rw[Bool.and_eq_true]
 refine⟨by simpa using hl,List.all_eq_true.2 fun x hx=> ?_⟩
 have:=h x hx
 simp[gI];omega
theorem Ry {s:Str} (h:sOk s=true):s.js.length≤6:=by
 unfold sOk at h
 simp only[Bool.and_eq_true,decide_eq_true_eq] at h
 exact h.1.1.1
theorem R7 {bl:Int→Option Blk} {K:V→(Int→Option Blk)→Prop} (bs:List Int) (i h g:Int) (hc:gQ bs i) (hb:bl g=some (cur bs i h))
  (hK: ∀(s:Str) (ns:List Int) bl',lOk s ns=true→3≤s.js.length→(∀x,x∈ns→ -8≤x∧x≤8)→(∀x y,x≠g→bl x=some y→bl' x=some y)→K (.tup [.agg s.c,.sl (iv ns)]) bl'):
  bN Tryz.prog 69 [.loc g 3 0 0] bl K:=by
 refine bD Tryz.func69 rfl rfl (by rw[Tryz.ntmps69];simp) ?_
 rw[Tryz.ntmps69,Tryz.results69]
 refine aE ?_
 simp
 intro ga Mr hga
 have nag:ga≠g:=fun e=>by rw[e,hb] at hga;cases hga
 refine aE ?_
 simp
 refine Q4 bs i h g hc (by simp[Ne.symm nag,hb]) fun s i1 h1 b1 q1 q2 q3 q4 q5=> ?_
 have ea:b1 ga=some ⟨2,[[.nils,.nils]]⟩:=q5 ga _ nag (by simp)
 have q6: ∀x y,x≠g→bl x=some y→b1 x=some y:=fun x y hx hy=>q5 x y hx (by rw[aA,if_neg (fun e=>by rw[e,hga] at hy;cases hy)];exact hy)
 have hnj:=Ry q1
 simp[Str.c]
 intro g4 hg4 hb4
 have n4g:g4≠g:=fun e=>by rw[e,q4] at hb4;cases hb4
 have n4a:g4≠ga:=fun e=>by rw[e,ea] at hb4;cases hb4
 have b04:bl g4=none:=by
  rcases e:bl g4 with _ | y
  ·rfl
  ·rw[q6 g4 y n4g e] at hb4;cases hb4
 refine aE ?_
 refine bS aN (upd (upd bl g none) g4 (some ⟨2,[s.c]⟩)) (by
  intro z b hz
  have:=q6 z
  simp only[aA,Str.c] at hz ⊢
  grind) [0,1,2] 3 (by kernel_rfl) ?_
 simp[Str.c,n4g,n4a,Ne.symm n4g,Ne.symm n4a]
 refine Dz 3 ?_
 simp
 refine M6 bs i1 h1 g s ⟨by omega,hnj⟩ q3 (by simp[Ne.symm n4g,q4]) fun g2 ns i2 h2 b2 hg2 hb2 hl hr hc2 hbg aJB hk2=> ?_
 have n2g:g2≠g:=fun e=>by rw[e] at hb2;simp[Ne.symm n4g,q4] at hb2
 have n24:g2≠g4:=fun e=>by rw[e] at hb2;simp at hb2
 have n2a:g2≠ga:=fun e=>by rw[e] at hb2;simp[Ne.symm n4a,ea] at hb2
 have b12:b1 g2=none:=by simpa [n24] using hb2
 have b02:bl g2=none:=by
  rcases e:bl g2 with _ | y
  ·rfl
  ·rw[q6 g2 y n2g e] at b12;cases b12
 have ea2:b2 ga=some ⟨2,[[.nils,.nils]]⟩:=hk2 ga _ nag (by simp[Ne.symm n4a,ea])
 have e42:b2 g4=some ⟨2,[s.c]⟩:=hk2 g4 _ n4g (by simp[Str.c])
 have hs2: ∀x y,x≠g→bl x=some y→b2 x=some y:=fun x y hx hy=>hk2 x y hx (by rw[aA,if_neg (fun e=>by rw[e,b04] at hy;cases hy)];exact q6 x y hx hy)
 have kZ: ∀X:Option Blk,Sub (upd (upd bl g none) g4 (some ⟨2,[s.c]⟩)) (upd b2 ga X):=fun X z b hz=>by
  have:=hs2 z
  simp only[aA] at hz ⊢
  grind
 have Oo:Sub (upd (upd bl g none) g4 (some ⟨2,[s.c]⟩)) b2:=fun z b hz=>by
  have:=hs2 z
  simp only[aA] at hz ⊢
  grind
 simp only[Str.c] at kZ Oo
 simp
 refine⟨Oo,Dz 4 ?_⟩
 simp[ea2]
 refine⟨kZ _,Dz 5 ?_⟩
 simp
 refine⟨kZ _,Dy ?_⟩
 simp
 refine dJ 1 3 (.sl (iv ns)) (upd (upd bl g none) ga (some ⟨2,[s.c]⟩)) (fun z b hz=>by
  have:=hs2 z
  simp only[aA,Str.c] at hz ⊢
  grind) (by
   have e:=dU (bl:=upd b2 ga (some ⟨2,[s.c]⟩)) (bl0:=upd (upd bl g none) ga (some ⟨2,[s.c]⟩)) (sz:=1) (n:=2*s.js.length) hg2 (by simp[n2a,n2g,b02]) (els:=iv ns) (by simp[n2a,aJB]) (by simpa using hl) (lR ns)
   simpa [Str.c] using e) ?_
 refine aC ?_
 simp
 rw[aW]
 refine⟨[.agg s.c,.sl (iv ns)],by simp[Str.c],?_⟩
 refine hK s ns _ (by unfold lOk;rw[q1,Dt hl hr];rfl) q2 hr (fun x y hx hy=> ?_)
 have e1:x≠ga:=fun e=>by rw[e,hga] at hy;cases hy
 simp[aA,hx,e1,hy]
theorem J3 {bl:Int→Option Blk} {K:V→(Int→Option Blk)→Prop} (bs:List Int) (hn:bs.length≤1048576) (hbs: ∀x,x∈bs→0≤x∧x<256)
  (hK: ∀(s:Str) (ns:List Int) bl',lOk s ns=true→3≤s.js.length→(∀x,x∈ns→ -8≤x∧x≤8)→Sub bl bl'→K (.tup [.agg s.c,.sl (iv ns)]) bl'):
  bN Tryz.prog 15 [.sl (bv bs)] bl K:=by
 refine bD Tryz.func15 rfl rfl (by rw[Tryz.ntmps15];simp) ?_
 rw[Tryz.ntmps15,Tryz.results15]
 refine aC ?_
 simp
 intro ga Mr hga
 refine Br bs hn fun g h hg0 hg=> ?_
 have nga:g≠ga:=fun e=>by rw[e] at hg;simp at hg
 have bg:bl g=none:=by simpa [nga] using hg
 simp
 refine R7 bs 0 h g ⟨hn,hbs,by omega,by omega⟩ (by simp) fun s ns b1 q1 q1a q1b q2=> ?_
 have ea:b1 ga=some ⟨2,[[.nils,.nils]]⟩:=q2 ga _ (Ne.symm nga) (by simp[Ne.symm nga])
 simp[Str.c,ea]
 rw[aW]
 refine⟨[.agg s.c,.sl (iv ns)],by simp[Str.c],?_⟩
 refine hK s ns _ q1 q1a q1b (fun x y hy=> ?_)
 have e1:x≠ga:=fun e=>by rw[e,hga] at hy;cases hy
 have e2:x≠g:=fun e=>by rw[e,bg] at hy;cases hy
 show upd b1 ga (some ⟨2,[[.sl (jv s.js),.sl (mv s.ms)]]⟩) x=some y
 rw[aA,if_neg e1]
 exact q2 x y e2 (by simp[aA,e1,e2,hy])

structure MD where
 us:List Int
 g:Int
 i:Int
 h:Int
 b:Int→Option Blk
def rq6 (us:List Int):List RT:=us.map fun u=>ro (q6 u)

def MX.fit (m:MX):Prop:=xE m.cells 1048576∧aJ7 m.cells≤100000000
def aM1 (k:Nat) (m:MX):MX:=⟨m.r,m.c,mkQs k m.cells⟩

def aL3 (cells:List (List (Option Rat))) (v:List (Option Rat)):List (Option Rat):=cells.map fun row=>aAA row v row.length

def aFP (s:Str) (l:List Int) (j x y:Int):Bool:=lOk s l && (decide (0≤j)&& decide (j<s.js.length))&& (decide (-200≤x)&& decide (x≤200))&& (decide (-200≤y)&& decide (y≤200))&&
 gI (lat l (2*j.toNat)+x)&& gI (lat l (2*j.toNat+1)+y)
def aKA (l:List Int) (j x:Int):List Int:=l.set (2*j.toNat) (lat l (2*j.toNat)+x)
def aIN (l:List Int) (j x y:Int):List Int:=(aKA l j x).set (2*j.toNat+1) (lat l (2*j.toNat+1)+y)
def aNC (s:Str) (l:List Int) (j x y:Int):List Int:=if aFP s l j x y=true then aIN l j x y else []
def aMP (ns:List Int) (b:Bool):D:= .t [fl 1 (iv ns),.c (.bool b)]

end Go.Proofs.YticmgmemnpcbbaaGreat.Vm

namespace Go.Proofs.YticmgmemnpcbbaaGreat.Vm
open Go Go.Proofs
set_option linter.unusedSimpArgs false
set_option linter.unusedVariables false

def szW :List (List Int)→Int→Int
 | [], left => left
 | w :: ws, left => if less left w.length < 0 then -1 else szW ws (less left w.length)
def aNG (ws:List (List Int)) (left:Int):Int:=if less left ws.length<0 then -1 else szW ws (less left ws.length)
def aLV (ws:List (List Int)) (i:Nat):Nat:=(ws.take i).flatten.length
def aLY (bl:Int→Option Blk) (n:Nat) (v:V) (gs:List Int):Prop:= ∃rows els,rows.length=n∧((rows= []∧v= .nils∧gs= [])∨ ∃g gs',v= .lsl g 1 0 n∧gs=g::gs'∧g∉gs'∧bl g=some ⟨1,els⟩∧(g<0→els= [])∧OwnR bl 1 rows els gs')
structure St2 where
 i:Nat
 b:Int→Option Blk
structure aNB (ws : List (List Int)) : Prop where
 n:ws.length≤140737488351232
 w: ∀w,w∈ws→w.length≤140737488351232

def mixC (ws:List (List Int)) (wt:List Int) (i:Nat):Nat→Int
 | 0 => 0
 | c + 1 => mixC ws wt i c + lat wt c * lat (ws.getD c []) i
def aAR (m:Nat) (ws:List (List Int)) (wt:List Int) (c:Nat):List Int:=(List.range m).map fun i=>mixC ws wt i c
def cOk (s:Str) (ws:List (List Int)) (wt:List Int) (c:Nat):Bool:=gL s.js (ws.getD c [])&& (decide (0≤lat wt c)&& decide (lat wt c≤100))
def aB2 (s:Str) (ws:List (List Int)) (wt:List Int):Bool:=decide (ws.length=wt.length)&& decide (ws.length≤10)&& sOk s && decide (∀c,c<ws.length→cOk s ws wt c=true)&& gL s.js (aAR (2*s.js.length) ws wt ws.length)
def aMV (s:Str) (ws:List (List Int)) (wt:List Int):List Int:=if aB2 s ws wt=true then aAR (2*s.js.length) ws wt ws.length else []

end Go.Proofs.YticmgmemnpcbbaaGreat.Vm

namespace Go.Proofs.YticmgmemnpcbbaaGreat.Vm
open Go Go.Proofs
set_option linter.unusedSimpArgs false
set_option linter.unusedVariables false
theorem aBJ {s:Str} (h:sOk s=true):s.sz:=by
 have hs:=B4 h
 have h1:=hs.nj
 have h2:=hs.nm
 refine⟨by omega,by omega,fun j hj=> ?_⟩
 unfold sOk at h
 simp only[Bool.and_eq_true,decide_eq_true_eq] at h
 obtain⟨i,hi,rfl⟩:=List.getElem_of_mem hj
 have:=(h.1.2 i hi).1
 unfold J.ok isName at this
 simp only[Bool.and_eq_true,decide_eq_true_eq] at this
 omega
theorem Ef {cs:List V} (h:CO Tryz.prog 22 cs): ∃ns:List Int,cs= [.sl (bv ns)]∧ns.length≤140737488351232∧ ∀n,n∈ns→0≤n∧n<256:=by
 obtain⟨xs,rfl,hx,hl⟩:=Cg Tryz.underlying22 h
 rw[show Tryz.prog.bytesOf 5=1 by kernel_rfl] at hl
 have: ∃ns:List Int,xs=bv ns∧ ∀n,n∈ns→0≤n∧n<256:=by
  clear hl h
  induction xs with
  | nil => exact ⟨[], rfl, fun n hn => by cases hn⟩
  | cons x xs ih =>
    obtain⟨ns,rfl,hns⟩:=ih fun y hy=>hx y (List.mem_cons_of_mem _ hy)
    obtain⟨n,rfl,hn⟩:=Pa Tryz.underlying5 (hx x List.mem_cons_self)
    refine⟨n::ns,rfl,fun m hm=> ?_⟩
    rcases List.mem_cons.1 hm with rfl | hm
    ·have:=wf_u8 hn;omega
    ·exact hns m hm
 obtain⟨ns,rfl,hns⟩:=this
 exact⟨ns,rfl,by simp at hl;omega,hns⟩

def aKH (P:Program) (ops:Array Oper) (blK:Int→Option Blk) (last:List Nat) (K:St→Prop):List (List Nat×Nat)→St→Prop
 | [] => HoistF P (ops.toList.map (·.dst)) blK (last.filterMap fun i => ops[i]?) K
 | (is, i) :: r => HoistF P (ops.toList.map (·.dst)) blK (is.filterMap fun i => ops[i]?) (HStep P ops blK i (aKH P ops blK last K r))
def hIdx (last:List Nat):List (List Nat×Nat)→List Nat
 | [] => last
 | (is, i) :: r => is ++ i :: hIdx last r

def aNH (s:Str) (us:List Int):List Int:=(dK s).map fun w=>dotTo w us s.ms.length

def dMf (m:MX):List D:= [.c (.int .i64 m.r),.c (.int .i64 m.c),fl 3 (rv m.cells)]

structure MOk (m : MX) (r c : Nat) : Prop where
 hr:m.r=r
 hc:m.c=c
 r24:r≤24
 c24:c≤24
 len:m.cells.length=r*c
 ok:iN m.cells=true
 fq:xE m.cells 1048576
def trC (cells:List RT) (r c k:Nat) (i:Nat):List RT:=(List.range i).map fun i=>cells.getD (i*c+k) rz
def aJ6 (cells:List RT) (r c k i:Nat):List RT:=((List.range k).flatMap fun k=>trC cells r c k r)++trC cells r c k i
def trM (m:MX) (r c:Nat):MX:=⟨c,r,aJ6 m.cells r c c 0⟩

abbrev MF :=Nat→Nat→Option Rat
def aMA (M:MF) (i j:Nat) (v:Option Rat):MF:=fun a b=>if a=i∧b=j then v else M a b
def Ze (r c:Nat) (M:MF):List RT:=(List.range (r*c)).map fun t=>ro (M (t / c) (t % c))
def I6 (M:MF) (i n:Nat):MF:=fun a b=>if a=i then M n b else if a=n then M i b else M a b
def aIK (M:MF) (n:Nat) (p:Option Rat):MF:=fun a b=>if a=n then op2 (· / ·) (M a b) p else M a b
def aBK (M:MF) (n k:Nat):MF:=fun a b=>if a=n∨nm (M a k)=0 then M a b else op2 (· - ·) (M a b) (op2 (· * ·) (M a k) (M n b))
def Oi (M:MF) (n k i:Nat):MF:=aBK (aIK (I6 M i n) n (I6 M i n n k)) n k
def W0 (M:MF) (r k:Nat) (n:Nat):Nat:=if n<r then if nm (M n k)=0 then W0 M r k (n+1) else n else r
termination_by r - n
def okM (r c:Nat) (M:MF):Bool:=(List.range r).all fun i=>(List.range c).all fun j=>(M i j).isSome
structure RS where
 M:MF
 P:List Nat
def Kg (r c k:Nat) (s:RS):Option RS:=
 if s.P.length<r then
  if W0 s.M r k s.P.length=r then some s
  else if okM r c (Oi s.M s.P.length k (W0 s.M r k s.P.length))=true then some ⟨Oi s.M s.P.length k (W0 s.M r k s.P.length),s.P++ [k]⟩ else none
 else some s
def redTo (r c:Nat) (M:MF):Nat→Option RS
 | 0 => some ⟨M, []⟩
 | k + 1 => (redTo r c M k).bind (Kg r c k)
structure RI (r c k : Nat) (s : RS) : Prop where
 le:s.P.length≤r
 ok:okM r c s.M=true
 fit: ∀i j,okQ (s.M i j)
 zero: ∀i j,s.P.length≤i→i<r→j<k→j<c→s.M i j=some 0
 piv: ∀n (h:n<s.P.length),s.P[n]<k
 inc: ∀m n (hm:m<n) (hn:n<s.P.length),s.P[m]<s.P[n]
def Zs (r c n k:Nat) (M:MF):Prop:= ∀i j,n≤i→i<r→j<k→j<c→M i j=some 0
def aKD (M:MF) (n k:Nat) (p:Option Rat):MF:=fun a b=>if a=n∧k≤b then op2 (· / ·) (M a b) p else M a b
def Uc (M:MF) (n k:Nat):MF:=fun a b=>if a=n∨nm (M a k)=0∨b<k∨nm (M n b)=0 then M a b else op2 (· - ·) (M a b) (op2 (· * ·) (M a k) (M n b))
def aLL (M:MF) (n k i:Nat):MF:=Uc (aKD (I6 M i n) n k (I6 M i n n k)) n k

def aM7 (M:MF) (n k i:Nat):MF:=fun a b=>if a<i then Uc M n k a b else M a b
def aMU (M:MF) (n k i j:Nat):MF:=fun a b=>if a<i∨a=i∧b<j then Uc M n k a b else M a b

def pz (P:List Nat):List Int:=P.map fun(m:Nat)=>(m:Int)
def aMX (M:MF) (i n j:Nat):MF:=fun a b=>if b<j then I6 M i n a b else M a b
def aL7 (M:MF) (n k j:Nat) (p:Option Rat):MF:=fun a b=>if a=n∧k≤b∧b<j then op2 (· / ·) (M a b) p else M a b
inductive Ie (r c : Nat) (M : MF) : MF → List Nat → Prop
 | good (s : RS) (h : redTo r c M c = some s) (P : List Nat) (e : P = s.P) : Ie r c M s.M P
 | bad (X : MF) (P : List Nat) (h : redTo r c M c = none) (ho : okM r c X = false) : Ie r c M X P
structure LR where
 k:Nat
 s:RS
 gp:Int
 gf:Int
 fs:List RT

def aND (cells:List RT) (c:Nat):MF:=fun i j=>rd (cells.getD (i*c+j) rz)
def aMG (r c:Nat) (M:MF):V:=match redTo r c M c with
 | some s => .tup [.agg [.int .i64 r, .int .i64 c, .sl (rv (Ze r c s.M))], .sl (iv (pz s.P)), .bool true]
 | none => .tup [.agg [.int .i64 0, .int .i64 0, .sl []], .sl [], .bool false]

def ix :List Nat→Nat→Option Nat
 | [], _ => none
 | p :: ps, j => if p = j then some 0 else (ix ps j).map (· + 1)
def Rm (M:MF) (P:List Nat) (k j:Nat):Option Rat:=match ix P j with
 | some i => (M i k).map (- ·)
 | none => if j = k then some 1 else some 0
def aET (M:MF) (P:List Nat) (c k:Nat):List (Option Rat):=(List.range c).map (Rm M P k)
def Uo (P:List Nat) (n:Nat):List Nat:=(List.range n).filter fun k=>(ix P k).isNone
def Lq (M:MF) (P:List Nat) (c n:Nat):List (List (Option Rat)):=(Uo P n).map (aET M P c)

def rvv (ls:List (List RT)):List (List V):=ls.map fun w=> [.sl (rv w)]
def aMN (r c:Nat) (M:MF):List (List RT)×Bool:=match redTo r c M c with
 | some s => ((Lq s.M s.P c c).map cZ, true)
 | none => ([], false)
def aMB (x:List (List RT)×Bool):V:= .tup [.sl (rvv x.1),.bool x.2]
structure NG where
 k:Nat
 g:Int
end Go.Proofs.YticmgmemnpcbbaaGreat.Vm

namespace Go.Proofs.YticmgmemnpcbbaaGreat.Vm
open Go Go.RowKit Go.Proofs
set_option linter.unusedSimpArgs false
set_option linter.unusedVariables false
theorem jK {α:Type} {l:Array α} {i j:Nat} {x:α} (d:α) (h:i≠j):(l.setIfInBounds i x).getD j d=l.getD j d:=by simp[Array.getD_eq_getD_getElem?,Array.getElem?_setIfInBounds_ne h]
def pureOp :Op→Bool
 | .move _ | .nilCheck _ | .fieldAddr .. | .indexAddr .. => true
 | _ => false
theorem SV.pure {P:Program} {blK:Int→Option Blk} {o:Oper} {σ:St} {v:V} (hp:pureOp o.op=true) (h:SV P blK o σ v):SV P (fun _=>none) o σ v:=by
 rcases h with ⟨hq,hT⟩| ⟨c,f,p,n,ys,ho,hc,hp2,hro⟩
 ·refine .inl ⟨hq,?_⟩
  have fin: ∀ {v':V},(σ.fC blK).put o.dst v'=(σ.fC blK).put o.dst v→(σ.fC fun _=>none).put o.dst v'=(σ.fC fun _=>none).put o.dst v:=by
   intro v' h
   cases hd:o.dst with
   | none => rfl
   | some d =>
     rw[hd] at h
     have h2:upd σ.sl d v'=upd σ.sl d v:=congrArg St.sl h
     show({ n:=σ.n,sl:=upd σ.sl d v',bl:=fun _=>none } :St)= { n:=σ.n,sl:=upd σ.sl d v,bl:=fun _=>none }
     rw[h2]
  unfold Vm.T at hT ⊢
  cases ho:o.op<;>rw[ho] at hT hp<;>simp only[dZ] at hT ⊢ <;>try (simp[pureOp] at hp;done)
  case move x=>exact fin hT
  case nilCheck x=>obtain⟨u,h1,h2⟩:=hT;exact⟨u,h1,fin h2⟩
  case fieldAddr=>obtain⟨u,h1,h2⟩:=hT;exact⟨u,h1,fin h2⟩
  case indexAddr=>obtain⟨u,h1,h2⟩:=hT;exact⟨u,h1,fin h2⟩
 ·rw[ho] at hp;simp[pureOp] at hp
theorem DY.pure {P:Program} {ops:Array Oper} {blK:Int→Option Blk} {o:Oper} {σ:St} {v:V} (hp:pureOp o.op=true) (h:DY P ops blK o σ v):DY P ops (fun _=>none) o σ v:=by
 unfold DY at h ⊢
 split
 ·rename_i hg;simp only[hg] at h;exact h.pure hp
 ·rename_i j b hg
  simp only[hg] at h
  split
  ·rename_i d hd
   simp only[hd] at h
   rcases fG h with ⟨q,hq,h1,h2⟩| ⟨hq,h1⟩
   ·rw[hq];exact⟨fun hh=>(h1 hh).pure hp,h2⟩
   ·rw[hq];exact h1
  ·rename_i hd;simp only[hd] at h
section
variable {P : Program} {ops : Array Oper}
theorem Al {blK:Int→Option Blk} {tl:Nat→Bool} {K:St→Prop} {i:Nat} {oi:Oper} {v:V} (hi:ops[i]? =some oi) (hti:tl i=false): ∀(fuel:Nat) (l:Array Bool) (σ:St),
  (∀j oj,ops[j]? =some oj→j≠i→l.getD j true=false→(∀e∈oj.after,Region.binds .any e=true→e.on≠i)→oi.apart ops oj=true)→(late tl l i=false→Sub blK σ.bl)→
  i∈Region.ready .any ops l→DY P ops (fun _=>none) oi σ v→DL P ops blK tl K fuel (l.setIfInBounds i true) (σ.put oi.dst v)→DL P ops blK tl K (fuel+1) l σ:=by
 have hbl: ∀(σ:St),(σ.put oi.dst v).bl=σ.bl:=fun σ=>by cases oi.dst<;>rfl
 have zI: ∀(σ:St),Sub (fun _=>none) σ.bl:=fun σ g b h=>by cases h
 intro fuel
 induction fuel with
 | zero =>
   intro l σ _ hS hr hy H
   refine⟨fun h=>(by rw[h] at hr;cases hr),fun j hj=> ?_⟩
   by_cases hji:j=i
   ·subst hji;exact hy.step hi (zI σ) ⟨fun h=>by rw[hbl];exact hS h,H⟩
   ·have:=ready_mono hj hji
    rw[H.1] at this
    cases this
 | succ fuel ih =>
   intro l σ sS hS hr hy H
   refine⟨fun h=>(by rw[h] at hr;cases hr),fun j hj=> ?_⟩
   by_cases hji:j=i
   ·subst hji;exact hy.step hi (zI σ) ⟨fun h=>by rw[hbl];exact hS h,H⟩
   ·have h1:=H.2 j (ready_mono hj hji)
    obtain⟨C5,oj,hoj,dI⟩:=mem_ready.1 hj
    have S1: ∀e∈oj.after,Region.binds .any e=true→e.on≠i:=fun e he hb heq=>by
     have h1:=dI e he hb
     have h0:=(mem_ready.1 hr).1
     rw[heq] at h1
     rcases Nat.lt_or_ge i l.size with h' | h'
     ·simp[h'] at h0 h1;rw[h0] at h1;cases h1
     ·simp[Array.getElem?_eq_none h'] at h1
    have h2:=DY.put hoj (sS j oj hoj hji C5 S1) hy h1
    have vT: ∀k ok,ops[k]? =some ok→k≠i→(l.setIfInBounds j true).getD k true=false→
      (∀e∈ok.after,Region.binds .any e=true→e.on≠i)→oi.apart ops ok=true:=fun k ok hk hki hun hno=>by
     refine sS k ok hk hki ?_ hno
     by_cases hjk:j=k
     ·subst hjk;exact C5
     ·rw[jK true hjk] at hun;exact hun
    refine B9 h2 fun σ' ⟨h3,h4,h5⟩=> ?_
    have aJY:(σ'.put oi.dst v).bl=σ'.bl:=hbl σ'
    have hS':late tl (l.setIfInBounds j true) i=false→Sub blK σ'.bl:=fun hl=>by
     rw[←aJY]
     refine h4 ?_
     unfold late at hl ⊢
     rw[Bool.or_eq_false_iff,List.any_eq_false] at hl ⊢
     have hjs:j<l.size:=by
      rcases Nat.lt_or_ge j l.size with h' | h'
      ·exact h'
      ·simp[Array.getD_eq_getD_getElem?,Array.getElem?_eq_none h'] at C5
     have htj:tl j=false:=by
      have:=hl.2 j (by simp[hjs])
      rw[Array.getD_eq_getD_getElem?,Array.getElem?_setIfInBounds_self_of_lt hjs] at this
      simpa using this
     refine⟨htj,fun k hk hh=> ?_⟩
     simp only[Bool.and_eq_true] at hh
     have hkj:k≠j:=fun e=>by rw[e,htj] at hh;cases hh.1
     have hki:k≠i:=fun e=>by rw[e,hti] at hh;cases hh.1
     refine hl.2 k (by simpa using hk) ?_
     rw[jK false (Ne.symm hki)] at hh
     rw[jK false (Ne.symm hkj),hh.1,hh.2];rfl
    refine⟨fun h=>hS' ?_,ih (l.setIfInBounds j true) σ' vT hS' (ready_mono hr (Ne.symm hji)) h3 ?_⟩
    ·unfold late at h ⊢
     rw[Bool.or_eq_false_iff,List.any_eq_false] at h ⊢
     refine⟨hti,fun k hk hh=> ?_⟩
     simp only[Bool.and_eq_true] at hh
     by_cases hkj:k=j
     ·subst hkj;rw[h.1] at hh;cases hh.1
     ·rw[jK false (Ne.symm hkj)] at hh
      exact h.2 k (by simpa using hk) (by rw[hh.1,hh.2];rfl)
    ·rw[Array.setIfInBounds_comm _ _ hji]
     exact h5
theorem yU {blK:Int→Option Blk} {tl:Nat→Bool} {K:St→Prop} (fuel:Nat): ∀(is:List Nat) (l:Array Bool) (σ:St),(∀i,i∈is→tl i=false)→(∀k,tl k=true→l.getD k false=false)→(∀i,i∈is→(∃o,ops[i]? =some o∧pureOp o.op=true)∨ ∀j oj,tl j=true→ops[j]? =some oj→ ∃e∈oj.after,Region.binds .any e=true∧e.on=i)→hoistB ops is l=true→Sub blK σ.bl→
  Hoist P ops blK is (DL P ops blK tl K fuel (fQ is l)) σ→DL P ops blK tl K (fuel+is.length) l σ
 | [], l, σ, _, _, _, _, _, h => h
 | i :: is, l, σ, hI, hN, hT, hB, hs, h => by
   simp only[hoistB,Bool.and_eq_true] at hB
   obtain⟨⟨hr,hf⟩,hB'⟩:=hB
   unfold Hoist at h
   split at h
   ·rename_i o ho
    obtain⟨v,hy,hK⟩:=h
    have:fuel+(i::is).length=(fuel+is.length)+1:=by simp;omega
    rw[this]
    have hN': ∀k,tl k=true→(l.setIfInBounds i true).getD k false=false:=fun k hk=>by
     by_cases hki:i=k
     ·subst hki;rw[hI i List.mem_cons_self] at hk;cases hk
     ·rw[jK false hki];exact hN k hk
    have next:=yU fuel is (l.setIfInBounds i true) (σ.put o.dst v) (fun i hi=>hI i (List.mem_cons_of_mem _ hi)) hN' (fun i hi=>hT i (List.mem_cons_of_mem _ hi)) hB' (by cases o.dst<;>exact hs) hK
    rcases hT i List.mem_cons_self with ⟨o',ho',hp⟩| hT'
    ·rw[ho] at ho';cases ho'
     exact Al ho (hI i List.mem_cons_self) _ _ _ (Region.free_spec ho hf) (fun _=>hs) (by simpa using hr) (hy.pure hp) next
    ·exact E1 ho (hI i List.mem_cons_self) hT' _ _ _ (Region.free_spec ho hf) hN (by simpa using hr) hs hy next
   ·exact h.elim
def tailP (ops:Array Oper) (tl:Nat→Bool) (is:List Nat):Bool:=is.all fun i=>(match ops[i]? with | some o=>pureOp o.op | none=>false)|| zB ops tl [i]
theorem rV {id:Nat} {K:Ex→St→Prop} {σ:St} (hm:P.follows .mixedOrders=true) (blK:Int→Option Blk) (hs:Sub blK σ.bl) (is:List Nat) (fuel n:Nat) (hn:(ops.size==fuel+is.length && is.all (fun i=>decide (i<ops.size))&& hoistB ops is (Array.replicate ops.size false)&& tailP ops (fun j=>decide (n≤j)) is && is.all (fun i=>decide (i<n)))=true)
  (h:HoistF P (ops.toList.map (·.dst)) blK (is.filterMap fun i=>ops[i]?) (DL P ops blK (fun j=>decide (n≤j)) (K .normal) fuel (fQ is (Array.replicate ops.size false))) σ):AW P (.region id ops true) K σ:=by
 simp only[Bool.and_eq_true,beq_iff_eq] at hn
 refine H5 hm blK (tl:=fun j=>decide (n≤j)) ?_
 have:=yU (P:=P) (ops:=ops) (blK:=blK) (tl:=fun j=>decide (n≤j)) (K:=K .normal) fuel is (Array.replicate ops.size false) σ
  (fun i hi=>by have:=List.all_eq_true.1 hn.2 i hi;simp at this ⊢;exact this) (fun k _=>by
    rw[Array.getD_eq_getD_getElem?,Array.getElem?_replicate];split<;>rfl) (fun i hi=>by
    have h5:=List.all_eq_true.1 hn.1.2 i hi
    rw[Bool.or_eq_true] at h5
    rcases h5 with h5 | h5
    ·refine .inl ?_
     split at h5
     ·rename_i o ho;exact⟨o,ho,h5⟩
     ·cases h5
    ·exact .inr (jG h5 i (by simp))) hn.1.1.2 hs (iL _ is σ (filter_some is hn.1.1.1.2) h)
 rw[←hn.1.1.1.1] at this
 exact this
end
end Go.Proofs.YticmgmemnpcbbaaGreat.Vm

namespace Go.Proofs.YticmgmemnpcbbaaGreat.Vm
open Go Go.Proofs
set_option linter.unusedSimpArgs false
set_option linter.unusedVariables false
structure jS (b : Int → Option Blk) (g0 : Int) (ids : List Int) (r c : Nat) (M : MF) : Prop where
 len:ids.length=r
 top:b g0=some ⟨1,ids.map fun g=> [.lsl g 1 0 c]⟩
 row: ∀(i:Nat) (g:Int),ids[i]? =some g→b g=some ⟨1,fvs (rowOf c M i)⟩
 pos: ∀g,g∈ids→0≤g
 inj: ∀(i j:Nat) (g:Int),ids[i]? =some g→ids[j]? =some g→i=j
 no0:g0∉ids
theorem sT {c:Nat} {M M':MF} {i:Nat} (h: ∀j,j<c→M i j=M' i j):rowOf c M i=rowOf c M' i:=by
 unfold rowOf
 exact List.map_congr_left fun j hj=>h j (by simpa using hj)
theorem jS.congr {b:Int→Option Blk} {g0:Int} {ids:List Int} {r c:Nat} {M M':MF} (h:jS b g0 ids r c M) (hM: ∀i j,i<r→j<c→M i j=M' i j):jS b g0 ids r c M':=
 ⟨h.len,h.top,fun i g hi=>by
   rw[h.row i g hi,sT fun j hj=>hM i j (by rw[←h.len];exact(List.getElem?_eq_some_iff.1 hi).1) hj],h.pos,h.inj,h.no0⟩
theorem jS.put {b:Int→Option Blk} {g0 g:Int} {ids:List Int} {r c i:Nat} {M M':MF} (h:jS b g0 ids r c M) (hi:ids[i]? =some g) (hM: ∀a j,a≠i→j<c→M a j=M' a j):jS (upd b g (some ⟨1,fvs (rowOf c M' i)⟩)) g0 ids r c M':=by
 have hm:=List.mem_of_getElem? hi
 refine⟨h.len,?_,fun k g' hk=> ?_,h.pos,h.inj,h.no0⟩
 ·rw[aL _ _ _ _ (fun e=>h.no0 (by rw[e];exact hm))];exact h.top
 ·by_cases e:k=i
  ·subst e
   rw[hi] at hk;cases hk
   rw[bP]
  ·have hne:g'≠g:=fun e2=>e (h.inj k i g (by rw[hk,e2]) hi)
   rw[aL _ _ _ _ hne,h.row k g' hk,sT fun j hj=>hM k j e hj]
theorem jS.fU {b b':Int→Option Blk} {g0:Int} {ids:List Int} {r c:Nat} {M:MF} (h:jS b g0 ids r c M) (hk: ∀x y,x=g0∨x∈ids→b x=some y→b' x=some y):jS b' g0 ids r c M:=
 ⟨h.len,hk _ _ (.inl rfl) h.top,fun i g hi=>hk _ _ (.inr (List.mem_of_getElem? hi)) (h.row i g hi),h.pos,h.inj,h.no0⟩
def aLT (ids:List Int) (i n:Nat) (gi gn:Int):List Int:=(ids.set i gn).set n gi
structure aLF (b : Int → Option Blk) (gr g0 gp : Int) (ids : List Int) (r c : Nat) (s : RS) (d : Option Rat) : Prop where
 dH:jS b g0 ids r c s.M
 hd:b gr=some ⟨5,[[.int .i64 r,.int .i64 c,.lsl g0 1 0 r,.lsl gp 1 0 s.P.length,fv d]]⟩
 pv:b gp=some ⟨1,iv (pz s.P)⟩
 pn:gp<0→s.P= []
 dq:okQ d
 g00:0≤g0
 d1:gr≠g0
 d2:gr∉ids
 d3:gp≠gr
 d4:gp≠g0
 d5:gp∉ids
def Fr (bl b:Int→Option Blk) (gr g0:Int) (ids:List Int):Prop:= ∀x y,bl x=some y→x≠gr→x≠g0→x∉ids→b x=some y
def aMR (M:MF) (n k i j:Nat):MF:=fun a b=>if a<i∨a=i∧b<j then aBK M n k a b else M a b
end Go.Proofs.YticmgmemnpcbbaaGreat.Vm

namespace Go.Proofs.YticmgmemnpcbbaaGreat.Lp
set_option linter.unusedSimpArgs false
set_option linter.unusedVariables false
def S :Nat→(Nat→Rat)→Rat
 | 0, _ => 0
 | n + 1, f => S n f + f n
theorem aM {f g:Nat→Rat} : ∀ {n:Nat},(∀i,i<n→f i=g i)→S n f=S n g
 | 0, _ => rfl
 | n + 1, h => by rw [S, S, aM (n := n) fun i hi => h i (by omega), h n (by omega)]
theorem eN {f:Nat→Rat} : ∀ {n:Nat},(∀i,i<n→f i=0)→S n f=0
 | 0, _ => rfl
 | n + 1, h => by rw [S, eN (n := n) fun i hi => h i (by omega), h n (by omega)]; grind
theorem sW (f g:Nat→Rat): ∀n,S n (fun i=>f i+g i)=S n f+S n g
 | 0 => by simp [S]; grind
 | n + 1 => by rw [S, S, S, sW f g n]; grind
theorem qE (f g:Nat→Rat): ∀n,S n (fun i=>f i - g i)=S n f - S n g
 | 0 => by simp [S]; grind
 | n + 1 => by rw [S, S, S, qE f g n]; grind
theorem eI (a:Rat) (f:Nat→Rat): ∀n,S n (fun i=>a*f i)=a*S n f
 | 0 => by simp [S]
 | n + 1 => by rw [S, S, eI a f n]; grind
theorem kK (a:Rat) (f:Nat→Rat) (n:Nat):S n (fun i=>f i*a)=S n f*a:=by
 rw[show(fun i=>f i*a)=fun i=>a*f i from funext fun i=>Rat.mul_comm _ _,eI,Rat.mul_comm]
theorem lD (f:Nat→Nat→Rat) (m:Nat): ∀n,S n (fun i=>S m fun j=>f i j)=S m fun j=>S n fun i=>f i j
 | 0 => by
   rw[S];symm;exact eN fun i _=>rfl
 | n + 1 => by
   rw[S,lD f m n,←sW]
   rfl
theorem cK {f:Nat→Rat} {k:Nat} : ∀ {n:Nat},k<n→(∀i,i<n→i≠k→f i=0)→S n f=f k
 | n + 1, hk, h => by
   rw[S]
   by_cases e:k=n
   ·subst e
    rw[eN fun i hi=>h i (by omega) (by omega)]
    grind
   ·rw[cK (n:=n) (by omega) fun i hi hik=>h i (by omega) hik,h n (by omega) (by omega)]
    grind
theorem gE {f:Nat→Rat} : ∀ {n:Nat},(∀i,i<n→0≤f i)→0≤S n f
 | 0, _ => Rat.le_refl
 | n + 1, h => by
   have h1:=gE (n:=n) fun i hi=>h i (by omega)
   have h2:=h n (by omega)
   rw[S];grind
theorem Eh {f:Nat→Rat} {k:Nat} : ∀ {n:Nat},(∀i,i<n→0≤f i)→k<n→0<f k→0<S n f
 | n + 1, h, hk, hp => by
   have h1:=gE (n:=n) fun i hi=>h i (by omega)
   have h2:=h n (by omega)
   rw[S]
   by_cases e:k=n
   ·subst e;grind
   ·have:=Eh (n:=n) (fun i hi=>h i (by omega)) (by omega) hp
    grind
def skip (v:Nat→Nat→Rat) (j:Nat):Nat→Nat→Rat:=fun c i=>v (if c<j then c else c+1) (i+1)
def sg (j:Nat):Rat:=if j % 2=0 then 1 else -1
theorem Jv (j:Nat):sg (j+1)= - sg j:=by
 unfold sg
 by_cases h:j % 2=0
 ·rw[if_pos h,if_neg (by omega)]
 ·rw[if_neg h,if_pos (by omega)];grind
def det :Nat→(Nat→Nat→Rat)→Rat
 | 0, _ => 1
 | m + 1, v => S (m + 1) fun j => sg j * v j 0 * det m (skip v j)
theorem mV : ∀ {m:Nat} {v w:Nat→Nat→Rat},(∀j i,j<m→i<m→v j i=w j i)→det m v=det m w
 | 0, _, _, _ => rfl
 | m + 1, v, w, h => by
   rw[det,det]
   refine aM fun j hj=> ?_
   rw[h j 0 hj (by omega),mV (m:=m) (v:=skip v j) (w:=skip w j) fun c i hc hi=> ?_]
   unfold skip
   split
   ·exact h c (i+1) (by omega) (by omega)
   ·exact h (c+1) (i+1) (by omega) (by omega)
def put (v:Nat→Nat→Rat) (p:Nat) (x:Nat→Rat):Nat→Nat→Rat:=fun j=>if j=p then x else v j
theorem F8 (v:Nat→Nat→Rat) (p:Nat) (x:Nat→Rat):skip (put v p x) p=skip v p:=by
 funext c i
 unfold skip put
 split<;>(rw[if_neg (by omega)])
theorem lQ (v:Nat→Nat→Rat) (p j:Nat) (x:Nat→Rat) (h:p≠j):skip (put v p x) j=put (skip v j) (if p<j then p else p - 1) fun i=>x (i+1):=by
 funext c i
 unfold skip put
 by_cases h1:c<j
 ·by_cases h2:p<j
  ·simp only[h1,h2,if_true]
   split<;>rfl
  ·simp only[h1,h2,if_true,if_false]
   rw[if_neg (by omega),if_neg (by omega)]
 ·by_cases h2:p<j
  ·simp only[h1,h2,if_true,if_false]
   rw[if_neg (by omega),if_neg (by omega)]
  ·simp only[h1,h2,if_false]
   by_cases h3:c+1=p
   ·rw[if_pos h3,if_pos (by omega)]
   ·rw[if_neg h3,if_neg (by omega)]
theorem nT (a b:Rat) (x y:Nat→Rat): ∀ {m:Nat} {p:Nat} (v:Nat→Nat→Rat),p<m→det m (put v p fun i=>a*x i+b*y i)=a*det m (put v p x)+b*det m (put v p y)
 | 0, p, v, hp => by omega
 | m + 1, p, v, hp => by
   rw[det,det,det,←eI,←eI,←sW]
   refine aM fun j hj=> ?_
   by_cases h:p=j
   ·subst h
    simp only[F8]
    simp only[put,if_true]
    grind
   ·rw[lQ _ _ _ _ h,lQ _ _ _ _ h,lQ _ _ _ _ h]
    have ih:=nT a b (fun i=>x (i+1)) (fun i=>y (i+1)) (m:=m) (p:=if p<j then p else p - 1) (skip v j) (by split<;>omega)
    rw[ih]
    have e: ∀z:Nat→Rat,put v p z j 0=v j 0:=fun z=>by simp[put,Ne.symm h]
    simp only[e]
    grind
theorem nG : ∀ {m:Nat} {p:Nat} (v:Nat→Nat→Rat),p+1<m→(∀i,i<m→v p i=v (p+1) i)→det m v=0
 | 0, p, v, hp, h => by omega
 | m + 1, p, v, hp, h => by
   rw[det]
   have hz: ∀j,j<m+1→j≠p→j≠p+1→sg j*v j 0*det m (skip v j)=0:=fun j hj h1 h2=>by
    have:det m (skip v j)=0:=by
     by_cases h3:j<p
     ·refine nG (p:=p - 1) _ (by omega) fun i hi=> ?_
      unfold skip
      rw[if_neg (by omega),if_neg (by omega),show p - 1+1=p by omega]
      exact h (i+1) (by omega)
     ·refine nG (p:=p) _ (by omega) fun i hi=> ?_
      unfold skip
      rw[if_pos (by omega),if_pos (by omega)]
      exact h (i+1) (by omega)
    rw[this];grind
   have he:det m (skip v p)=det m (skip v (p+1)):=mV fun c i hc hi=>by
    unfold skip
    by_cases h1:c<p
    ·rw[if_pos h1,if_pos (by omega)]
    ·by_cases h2:c=p
     ·subst h2
      rw[if_neg (by omega),if_pos (by omega)]
      exact(h (i+1) (by omega)).symm
     ·rw[if_neg (by omega),if_neg (by omega)]
   have h0:=h 0 (by omega)
   have key: ∀n,n≤m+1→S n (fun j=>sg j*v j 0*det m (skip v j))=if n=p+1 then sg p*v p 0*det m (skip v p) else 0:=by
    intro n
    induction n with
    | zero => intro _; rw [if_neg (by omega)]; rfl
    | succ n ih =>
      intro hn
      rw[S,ih (by omega)]
      by_cases e1:n=p
      ·subst e1
       rw[if_neg (by omega),if_pos rfl];grind
      ·by_cases e2:n=p+1
       ·subst e2
        rw[if_pos rfl,if_neg (by omega),Jv,he,h0];grind
       ·rw[if_neg (by omega),if_neg (by omega),hz n (by omega) e1 e2];grind
   rw[key (m+1) (Nat.le_refl _),if_neg (by omega)]
theorem wQ (v:Nat→Nat→Rat) (p:Nat):put v p (v p)=v:=by
 funext j;unfold put;split
 ·rename_i h;rw[h]
 ·rfl
theorem put_comm (v:Nat→Nat→Rat) {p q:Nat} (h:p≠q) (x y:Nat→Rat):put (put v p x) q y=put (put v q y) p x:=by
 funext j;unfold put
 by_cases h1:j=q
 ·rw[if_pos h1,if_neg (by omega),if_pos h1]
 ·rw[if_neg h1]
  by_cases h2:j=p
  ·rw[if_pos h2];rw[if_pos h2]
  ·rw[if_neg h2,if_neg h2];rw[if_neg h1]
theorem Ci {m p:Nat} (v:Nat→Nat→Rat) (hp:p+1<m) (x y:Nat→Rat):det m (put (put v p x) (p+1) y)= - det m (put (put v p y) (p+1) x):=by
 have hz:det m (put (put v p fun i=>1*x i+1*y i) (p+1) fun i=>1*x i+1*y i)=0:=nG (p:=p) _ hp fun i hi=>by
  simp[put]
 rw[nT 1 1 x y (p:=p+1) _ hp,put_comm v (show p≠p+1 by omega) _ x,put_comm v (show p≠p+1 by omega) _ y,nT 1 1 x y (p:=p) _ (by omega),nT 1 1 x y (p:=p) _ (by omega)] at hz
 have z1:det m (put (put v (p+1) x) p x)=0:=nG (p:=p) _ hp fun i hi=>by simp[put]
 have z2:det m (put (put v (p+1) y) p y)=0:=nG (p:=p) _ hp fun i hi=>by simp[put]
 rw[put_comm v (show p≠p+1 by omega) x y,put_comm v (show p≠p+1 by omega) y x]
 rw[z1,z2] at hz
 grind
theorem zU {m:Nat} : ∀(d p:Nat) (v:Nat→Nat→Rat),p+1+d<m→(∀i,i<m→v p i=v (p+1+d) i)→det m v=0
 | 0, p, v, hp, h => nG v hp h
 | d + 1, p, v, hp, h => by
   have e:v=put (put v (p+1+d) (v (p+1+d))) (p+1+d+1) (v (p+1+d+1)):=by rw[wQ,wQ]
   rw[e,Ci v (by omega)]
   have:det m (put (put v (p+1+d) (v (p+1+d+1))) (p+1+d+1) (v (p+1+d)))=0:=by
    refine zU d p _ (by omega) fun i hi=> ?_
    unfold put
    rw[if_neg (show ¬ p=p+1+d+1 by omega),if_neg (show ¬ p=p+1+d by omega),if_neg (show ¬ p+1+d=p+1+d+1 by omega),if_pos rfl]
    exact h i hi
   rw[this];grind
theorem Hn {m p q:Nat} (v:Nat→Nat→Rat) (hp:p<m) (hq:q<m) (hn:p≠q) (h: ∀i,i<m→v p i=v q i):det m v=0:=by
 rcases Nat.lt_or_gt_of_ne hn with h1 | h1
 ·exact zU (q - p - 1) p v (by omega) (by rw[show p+1+(q - p - 1)=q by omega];exact h)
 ·exact zU (p - q - 1) q v (by omega) (by rw[show q+1+(p - q - 1)=p by omega];exact fun i hi=>(h i hi).symm)
theorem Ir {m p:Nat} (v:Nat→Nat→Rat) (hp:p<m):det m (put v p fun _=>0)=0:=by
 have:=nT 0 0 (fun _=>0) (fun _=>0) v hp
 simp only[Rat.zero_mul,Rat.zero_add] at this
 exact this
theorem V6 {m p:Nat} (v:Nat→Nat→Rat) (hp:p<m) (x:Nat→Rat) (u:Nat→Nat→Rat): ∀n,det m (put v p fun i=>S n fun j=>x j*u j i)=S n fun j=>x j*det m (put v p (u j))
 | 0 => by simp only [S]; exact Ir v hp
 | n + 1 => by
   have:=nT 1 (x n) (fun i=>S n fun j=>x j*u j i) (u n) v hp
   simp only[S]
   rw[←V6 v hp x u n]
   simp only[Rat.one_mul] at this
   exact this
theorem Rb {m p:Nat} (v:Nat→Nat→Rat) (hp:p<m) (x y:Nat→Rat) (h: ∀i,i<m→y i=S m fun j=>x j*v j i):det m (put v p y)=x p*det m v:=by
 have e:det m (put v p y)=det m (put v p fun i=>S m fun j=>x j*v j i):=mV fun j i hj hi=>by
  unfold put;split
  ·exact h i hi
  ·rfl
 rw[e,V6 v hp,cK hp,wQ]
 intro j hj hjp
 rw[Hn (p:=p) (q:=j) _ hp hj (Ne.symm hjp) (fun i hi=>by simp[put,hjp])]
 grind
def isInt (q:Rat):Prop:= ∃z:Int,q=z
theorem yL {a b:Rat} :isInt a→isInt b→isInt (a+b):=fun⟨x,hx⟩ ⟨y,hy⟩=>⟨x+y,by rw[hx,hy,Rat.intCast_add]⟩
theorem nW {a b:Rat} :isInt a→isInt b→isInt (a*b):=fun⟨x,hx⟩ ⟨y,hy⟩=>⟨x*y,by rw[hx,hy,Rat.intCast_mul]⟩
theorem zL {f:Nat→Rat} : ∀ {n:Nat},(∀i,i<n→isInt (f i))→isInt (S n f)
 | 0, _ => ⟨0, rfl⟩
 | n + 1, h => yL (zL fun i hi => h i (by omega)) (h n (by omega))
theorem Fe (j:Nat):isInt (sg j):=by
 unfold sg;split
 ·exact⟨1,rfl⟩
 ·exact⟨-1,rfl⟩
theorem zN : ∀ {m:Nat} {v:Nat→Nat→Rat},(∀j i,j<m→i<m→isInt (v j i))→isInt (det m v)
 | 0, _, _ => ⟨1, rfl⟩
 | m + 1, v, h => by
   rw[det]
   refine zL fun j hj=>nW (nW (Fe j) (h j 0 hj (by omega))) (zN fun c i hc hi=> ?_)
   unfold skip
   split
   ·exact h c (i+1) (by omega) (by omega)
   ·exact h (c+1) (i+1) (by omega) (by omega)
def lid (K:Nat):Nat→Nat
 | 0 => 1
 | m + 1 => (m + 1) * (K * lid K m)
theorem Ff {f:Nat→Rat} {B:Rat} : ∀ {n:Nat},(∀i,i<n→ -B≤f i∧f i≤B)→ -((n:Rat)*B)≤S n f∧S n f≤(n:Rat)*B
 | 0, _ => by simp [S]
 | n + 1, h => by
   have h1:=Ff (n:=n) fun i hi=>h i (by omega)
   have h2:=h n (by omega)
   rw[S,show((n+1:Nat):Rat)=(n:Rat)+1 by simp[Rat.natCast_add]]
   grind
theorem zK {a b A B:Rat} (ha: -A≤a∧a≤A) (hb: -B≤b∧b≤B): -(A*B)≤a*b∧a*b≤A*B:=by
 have h1:0≤(A - a)*(B+b):=Rat.mul_nonneg (by grind) (by grind)
 have h2:0≤(A+a)*(B - b):=Rat.mul_nonneg (by grind) (by grind)
 have h3:0≤(A - a)*(B - b):=Rat.mul_nonneg (by grind) (by grind)
 have h4:0≤(A+a)*(B+b):=Rat.mul_nonneg (by grind) (by grind)
 constructor<;>grind
theorem T3 {K:Nat} : ∀ {m:Nat} {v:Nat→Nat→Rat},(∀j i,j<m→i<m→ -(K:Rat)≤v j i∧v j i≤K)→ -(lid K m:Rat)≤det m v∧det m v≤lid K m
 | 0, _, _ => by simp [det, lid]; decide
 | m + 1, v, h => by
   rw[det,lid,Rat.natCast_mul,Rat.natCast_mul]
   refine Ff fun j hj=> ?_
   have h1:=h j 0 hj (by omega)
   have h2: -(lid K m:Rat)≤det m (skip v j)∧det m (skip v j)≤lid K m:=T3 fun c i hc hi=>by
    unfold skip
    split
    ·exact h c (i+1) (by omega) (by omega)
    ·exact h (c+1) (i+1) (by omega) (by omega)
   refine zK ?_ h2
   unfold sg
   split<;>grind
theorem R9 : ∀(m:Nat) (v:Nat→Nat→Rat),(∀j i,j<m→i<m→v j i=if j=i then 1 else 0)→det m v=1
 | 0, _, _ => rfl
 | m + 1, v, h => by
   rw[det,cK (k:=0) (by omega)]
   ·rw[h 0 0 (by omega) (by omega),if_pos rfl,R9 m (skip v 0) fun c i hc hi=> ?_]
    ·simp[sg]
    ·unfold skip
     rw[if_neg (by omega),h (c+1) (i+1) (by omega) (by omega)]
     by_cases e:c=i
     ·rw[if_pos e,if_pos (by omega)]
     ·rw[if_neg e,if_neg (by omega)]
   ·intro j hj h0
    rw[h j 0 hj (by omega),if_neg h0]
    grind

structure Tab where
 X:Nat→Nat→Rat
 bs:Nat→Nat
def piv (t:Tab) (r k:Nat):Tab:=⟨fun i c=>if i=r then t.X r c / t.X r k else t.X i c - t.X i k*(t.X r c / t.X r k),fun i=>if i=r then k else t.bs i⟩
structure TI (m : Nat) (E : Nat → Nat → Rat) (t : Tab) : Prop where
 row: ∀i,i<m→ ∃U:Nat→Rat,∀c,t.X i c=S m fun l=>U l*E l c
 col: ∀l,l<m→ ∀c,E l c=S m fun i=>t.X i c*E l (t.bs i)
 unit: ∀i j,i<m→j<m→t.X i (t.bs j)=if i=j then 1 else 0
theorem qS (t:Tab) (r k c:Nat):(piv t r k).X r c=t.X r c / t.X r k:=by simp[piv]
theorem lL (t:Tab) {r i:Nat} (k c:Nat) (h:i≠r):(piv t r k).X i c=t.X i c - t.X i k*(t.X r c / t.X r k):=by simp[piv,h]
theorem cX (t:Tab) (r k:Nat):(piv t r k).bs r=k:=by simp[piv]
theorem cA (t:Tab) {r i:Nat} (k:Nat) (h:i≠r):(piv t r k).bs i=t.bs i:=by simp[piv,h]
theorem V3 {m:Nat} (t:Tab) {r k:Nat} (hr:r<m) (hp:t.X r k≠0) (g:Nat→Rat) (c:Nat):
  S m (fun i=>(piv t r k).X i c*g ((piv t r k).bs i))=S m (fun i=>t.X i c*g (t.bs i)) - (t.X r c / t.X r k)*(S m (fun i=>t.X i k*g (t.bs i)) - g k):=by
 have e:S m (fun i=>(piv t r k).X i c*g ((piv t r k).bs i))=S m (fun i=>(t.X i c*g (t.bs i) - (t.X r c / t.X r k)*(t.X i k*g (t.bs i)))+if i=r then(t.X r c / t.X r k)*g k else 0):=aM fun i hi=>by
  by_cases h:i=r
  ·subst h
   rw[qS,cX,if_pos rfl]
   grind
  ·rw[lL t k c h,cA t k h,if_neg h]
   grind
 rw[e,sW,qE,eI,cK (f:=fun i=>if i=r then(t.X r c / t.X r k)*g k else 0) hr (fun i _ h=>if_neg h),if_pos rfl]
 grind
theorem TI.piv {m:Nat} {E:Nat→Nat→Rat} {t:Tab} (h:TI m E t) {r k:Nat} (hr:r<m) (hp:t.X r k≠0):TI m E (piv t r k):=by
 refine⟨fun i hi=> ?_,fun l hl c=> ?_,fun i j hi hj=> ?_⟩
 ·obtain⟨V,hV⟩:=h.row r hr
  by_cases e:i=r
  ·subst e
   refine⟨fun l=>V l / t.X i k,fun c=> ?_⟩
   rw[qS,hV c]
   rw[show(fun l=>V l / t.X i k*E l c)=fun l=>(t.X i k)⁻¹*(V l*E l c) from funext fun l=>by grind,eI]
   grind
  ·obtain⟨U,hU⟩:=h.row i hi
   refine⟨fun l=>U l - t.X i k / t.X r k*V l,fun c=> ?_⟩
   rw[lL t k c e,hU c,hV c]
   rw[show(fun l=>(U l - t.X i k / t.X r k*V l)*E l c)=fun l=>U l*E l c - (t.X i k / t.X r k)*(V l*E l c) from funext fun l=>by grind,qE,eI]
   grind
 ·rw[V3 t hr hp (fun x=>E l x) c,←h.col l hl c,←h.col l hl k]
  grind
 ·by_cases ej:j=r
  ·subst ej
   rw[cX]
   by_cases ei:i=j
   ·subst ei;rw[qS,if_pos rfl];grind
   ·rw[lL t k k ei,if_neg ei];grind
  ·rw[cA t k ej]
   have hrj:=h.unit r j hr hj
   rw[if_neg (Ne.symm ej)] at hrj
   by_cases ei:i=r
   ·subst ei;rw[qS,if_neg (Ne.symm ej),hrj];grind
   ·rw[lL t k _ ei,h.unit i j hi hj,hrj];grind
theorem TI.Nf {m:Nat} {E:Nat→Nat→Rat} {t t':Tab} (h:TI m E t) (h':TI m E t') {i:Nat} (hi:i<m) (c:Nat):t'.X i c=S m fun j=>t.X j c*t'.X i (t.bs j):=by
 obtain⟨U,hU⟩:=h'.row i hi
 rw[hU c]
 have e1:S m (fun l=>U l*E l c)=S m fun l=>S m fun j=>t.X j c*(U l*E l (t.bs j)):=aM fun l hl=>by
  rw[h.col l hl c,←eI]
  exact aM fun j _=>by grind
 rw[e1,lD]
 refine aM fun j hj=> ?_
 rw[eI,hU (t.bs j)]
theorem TI.uniq {m:Nat} {E:Nat→Nat→Rat} {t t':Tab} (h:TI m E t) (h':TI m E t') (hb: ∀i,i<m→t.bs i=t'.bs i) {i:Nat} (hi:i<m) (c:Nat):t'.X i c=t.X i c:=by
 rw[h.Nf h' hi c,cK hi]
 ·rw[hb i hi,h'.unit i i hi hi,if_pos rfl];grind
 ·intro j hj hne
  rw[hb j hj,h'.unit i j hi hj,if_neg (Ne.symm hne)];grind
theorem TI.inj {m:Nat} {E:Nat→Nat→Rat} {t:Tab} (h:TI m E t) {i j:Nat} (hi:i<m) (hj:j<m) (e:t.bs i=t.bs j):i=j:=by
 have h1:=h.unit i i hi hi
 have h2:=h.unit i j hi hj
 rw[←e,h1] at h2
 by_cases hij:i=j
 ·exact hij
 ·rw[if_pos rfl,if_neg hij] at h2;exact absurd h2 (by decide)
def rc (m:Nat) (w:Nat→Rat) (t:Tab) (c:Nat):Rat:=w c - S m fun i=>t.X i c*w (t.bs i)
theorem mC {m:Nat} {E:Nat→Nat→Rat} {t:Tab} (h:TI m E t) (w:Nat→Rat) {j:Nat} (hj:j<m):rc m w t (t.bs j)=0:=by
 unfold rc
 rw[cK hj,h.unit j j hj hj,if_pos rfl]
 ·grind
 ·intro i hi hne
  rw[h.unit i j hi hj,if_neg hne];grind
theorem Ra {m:Nat} (w:Nat→Rat) (t:Tab) {r k:Nat} (hr:r<m) (hp:t.X r k≠0) (c:Nat):rc m w (piv t r k) c=rc m w t c - rc m w t k*(t.X r c / t.X r k):=by
 unfold rc
 rw[V3 t hr hp w c]
 grind
theorem Cx {m:Nat} {E:Nat→Nat→Rat} {t t':Tab} (h:TI m E t) (h':TI m E t') (w:Nat→Rat) (c:Nat):rc m w t' c=rc m w t c+S m fun i=>t.X i c*rc m w t' (t.bs i):=by
 unfold rc
 have e1:S m (fun i=>t.X i c*(w (t.bs i) - S m fun j=>t'.X j (t.bs i)*w (t'.bs j)))=S m (fun i=>t.X i c*w (t.bs i)) - S m fun j=>t'.X j c*w (t'.bs j):=by
  rw[show(fun i=>t.X i c*(w (t.bs i) - S m fun j=>t'.X j (t.bs i)*w (t'.bs j)))=fun i=>t.X i c*w (t.bs i) - S m fun j=>t.X i c*t'.X j (t.bs i)*w (t'.bs j) from funext fun i=>by
   rw[←show t.X i c*(S m fun j=>t'.X j (t.bs i)*w (t'.bs j))=S m fun j=>t.X i c*t'.X j (t.bs i)*w (t'.bs j) from by
    rw[←eI];exact aM fun j _=>by grind]
   grind,qE,lD]
  congr 1
  refine aM fun j hj=> ?_
  rw[h.Nf h' hj c,←kK]
 rw[e1]
 grind
def Sol (m N:Nat) (X:Nat→Nat→Rat) (b:Nat) (x:Nat→Rat):Prop:= ∀i,i<m→S N (fun c=>X i c*x c)=X i b
theorem lG {m:Nat} {E:Nat→Nat→Rat} {t:Tab} (h:TI m E t) (N b:Nat) (x:Nat→Rat):Sol m N E b x ↔ Sol m N t.X b x:=by
 constructor
 ·intro hE i hi
  obtain⟨U,hU⟩:=h.row i hi
  have e:S N (fun c=>t.X i c*x c)=S m fun l=>U l*S N fun c=>E l c*x c:=by
   rw[show(fun c=>t.X i c*x c)=fun c=>S m fun l=>U l*E l c*x c from funext fun c=>by rw[hU c,←kK],lD]
   refine aM fun l _=> ?_
   rw[←eI]
   exact aM fun c _=>by grind
  rw[e,hU b]
  exact aM fun l hl=>by rw[hE l hl]
 ·intro hX l hl
  have e:S N (fun c=>E l c*x c)=S m fun i=>(S N fun c=>t.X i c*x c)*E l (t.bs i):=by
   rw[show(fun c=>E l c*x c)=fun c=>S m fun i=>t.X i c*E l (t.bs i)*x c from funext fun c=>by rw[h.col l hl c,←kK],lD]
   refine aM fun i _=> ?_
   rw[←kK]
   exact aM fun c _=>by grind
  rw[e,h.col l hl b]
  exact aM fun i hi=>by rw[hX i hi]
def fM (Q:Nat) (v:Nat→Rat):Prop:= ∃q,q<Q∧0<v q∧ ∀j,j<q→v j=0
def uH (Q:Nat) (v:Nat→Rat):Prop:= ∀q,q<Q→v q=0
theorem Mp : ∀(Q:Nat) (v:Nat→Rat),fM Q v∨uH Q v∨fM Q fun q=> - v q
 | 0, v => .inr (.inl fun q hq => by omega)
 | Q + 1, v => by
   rcases Mp Q v with ⟨q,h1,h2,h3⟩| h | ⟨q,h1,h2,h3⟩
   ·exact .inl ⟨q,by omega,h2,h3⟩
   ·by_cases h0:0<v Q
    ·exact .inl ⟨Q,by omega,h0,fun j hj=>h j hj⟩
    ·by_cases h1:v Q=0
     ·refine .inr (.inl fun q hq=> ?_)
      by_cases e:q=Q
      ·rw[e];exact h1
      ·exact h q (by omega)
     ·exact .inr (.inr ⟨Q,by omega,by grind,fun j hj=>by have:=h j hj;grind⟩)
   ·exact .inr (.inr ⟨q,by omega,h2,h3⟩)
theorem fE {Q:Nat} {v:Nat→Rat} (h:fM Q v) (h0:uH Q v):False:=by
 obtain⟨q,h1,h2,_⟩:=h
 rw[h0 q h1] at h2
 exact absurd h2 (by decide)
theorem zT {Q:Nat} {v:Nat→Rat} (h:fM Q v) (h':fM Q fun q=> - v q):False:=by
 obtain⟨q,h1,h2,h3⟩:=h
 obtain⟨q',h1',h2',h3'⟩:=h'
 rcases Nat.lt_trichotomy q q' with h | h | h
 ·have:=h3' q h;grind
 ·subst h;grind
 ·have:=h3 q' h;grind
theorem E8 {Q:Nat} {u v:Nat→Rat} (h:fM Q u) (h':fM Q v):fM Q fun q=>u q+v q:=by
 obtain⟨q,h1,h2,h3⟩:=h
 obtain⟨q',h1',h2',h3'⟩:=h'
 rcases Nat.lt_trichotomy q q' with h | h | h
 ·exact⟨q,h1,by have:=h3' q h;grind,fun j hj=>by have:=h3 j hj;have:=h3' j (by omega);grind⟩
 ·subst h;exact⟨q,h1,by grind,fun j hj=>by have:=h3 j hj;have:=h3' j hj;grind⟩
 ·exact⟨q',h1',by have:=h3 q' h;grind,fun j hj=>by have:=h3 j (by omega);have:=h3' j hj;grind⟩
theorem zF {Q:Nat} {u v:Nat→Rat} (h:fM Q u) (h':uH Q v):fM Q fun q=>u q+v q:=by
 obtain⟨q,h1,h2,h3⟩:=h
 exact⟨q,h1,by have:=h' q h1;grind,fun j hj=>by have:=h3 j hj;have:=h' j (by omega);grind⟩
theorem qQ {Q:Nat} {v:Nat→Rat} {a:Rat} (ha:0<a) (h:fM Q v):fM Q fun q=>a*v q:=by
 obtain⟨q,h1,h2,h3⟩:=h
 exact⟨q,h1,Rat.mul_pos ha h2,fun j hj=>by have:=h3 j hj;grind⟩
theorem cP {Q:Nat} {u v:Nat→Rat} (h:fM Q u) (e: ∀q,q<Q→u q=v q):fM Q v:=by
 obtain⟨q,h1,h2,h3⟩:=h
 exact⟨q,h1,by rw[←e q h1];exact h2,fun j hj=>by rw[←e j (by omega)];exact h3 j hj⟩
theorem wK {Q:Nat} {f:Nat→Nat→Rat} : ∀ {n:Nat} {u:Nat→Rat},fM Q u→(∀i,i<n→fM Q (f i)∨uH Q (f i))→fM Q fun q=>u q+S n fun i=>f i q
 | 0, u, h, _ => cP h fun q _ => by rw [S]; grind
 | n + 1, u, h, hf => by
   have ih:=wK (n:=n) h fun i hi=>hf i (by omega)
   rcases hf n (by omega) with h1 | h1
   ·exact cP (E8 ih h1) fun q _=>by rw[S];grind
   ·exact cP (zF ih h1) fun q _=>by rw[S];grind

structure Step (m b Q : Nat) (w : Nat → Nat → Rat) (F : Nat → Prop) (t : Tab) (r k : Nat) : Prop where
 hF:F k
 pos:fM Q fun q=>rc m (w q) t k
 first: ∀j,F j→j<k→ ¬ fM Q fun q=>rc m (w q) t j
 hr:r<m
 prk:0<t.X r k
 min: ∀i,i<m→0<t.X i k→t.X r b*t.X i k≤t.X i b*t.X r k
 tie: ∀i,i<m→0<t.X i k→t.X i b*t.X r k=t.X r b*t.X i k→t.bs r≤t.bs i
theorem eD (a b:Rat):a≤b∨b<a:=by grind
theorem Qp {a b:Rat} (ha:0≤a) (hb:0<b):0≤a / b:=by
 rcases eD 0 (a / b) with h | h
 ·exact h
 ·have h1:0<(- (a / b))*b:=Rat.mul_pos (by grind) hb
  have h2:a / b*b=a:=by grind
  grind
theorem No {a b:Rat} (ha:0<a) (hb:0<b):0<a / b:=by
 rcases eD (a / b) 0 with h | h
 ·have h1:0≤(- (a / b))*b:=Rat.mul_nonneg (by grind) (by grind)
  have h2:a / b*b=a:=by grind
  grind
 ·exact h
theorem Step.rhs {m b Q:Nat} {w:Nat→Nat→Rat} {F:Nat→Prop} {t:Tab} {r k:Nat} (h:Step m b Q w F t r k) (hb: ∀i,i<m→0≤t.X i b): ∀i,i<m→0≤(piv t r k).X i b:=by
 intro i hi
 have hr:=hb r h.hr
 have hth:=Qp hr h.prk
 by_cases e:i=r
 ·subst e;rw[qS];exact hth
 ·rw[lL t k b e]
  have hpk:=h.prk
  have h2:t.X r b / t.X r k*t.X r k=t.X r b:=by grind
  generalize t.X r b / t.X r k=θ at *
  by_cases hp:0<t.X i k
  ·have h1:=h.min i hi hp
   rw[←h2] at h1
   rcases eD 0 (t.X i b - t.X i k*θ) with h4 | h4
   ·exact h4
   ·have:=Rat.mul_pos (show 0< -(t.X i b - t.X i k*θ) by grind) hpk
    grind
  ·have h1:=hb i hi
   have h2:0≤(- t.X i k)*θ:=Rat.mul_nonneg (by grind) hth
   grind
theorem max_lt (f:Nat→Nat): ∀n,0<n→ ∃i,i<n∧ ∀j,j<n→f j≤f i
 | 1, _ => ⟨0, by omega, fun j hj => by rw [show j = 0 by omega]; exact Nat.le_refl _⟩
 | n + 2, _ => by
   obtain⟨i,h1,h2⟩:=max_lt f (n+1) (by omega)
   rcases Nat.lt_or_ge (f i) (f (n+1)) with h | h
   ·exact⟨n+1,by omega,fun j hj=>by
     by_cases e:j=n+1
     ·rw[e];exact Nat.le_refl _
     ·have:=h2 j (by omega);omega⟩
   ·exact⟨i,by omega,fun j hj=>by
     by_cases e:j=n+1
     ·rw[e];exact h
     ·exact h2 j (by omega)⟩
theorem Sq {P:Nat→Prop} {a c:Nat} (hac:a≤c) (ha:P a) (hc: ¬ P c): ∃n,a≤n∧n<c∧P n∧ ¬ P (n+1):=by
 induction c with
 | zero => exact absurd (by rw [show (0 : Nat) = a by omega]; exact ha) hc
 | succ c ih =>
   by_cases h:P c
   ·exact⟨c,by
     by_cases e:a=c+1
     ·exact absurd (e▸ha) hc
     ·omega,by omega,h,hc⟩
   ·have aJZ:a≤c:=by
     by_cases e:a=c+1
     ·exact absurd (e▸ha) hc
     ·omega
    obtain⟨n,h1,h2,h3,h4⟩:=ih aJZ h
    exact⟨n,h1,by omega,h3,h4⟩
section
variable {m b Q L : Nat} {E : Nat → Nat → Rat} {w : Nat → Nat → Rat} {F : Nat → Prop} {t : Nat → Tab} {r k : Nat → Nat}
theorem aC2 (hT: ∀n,n≤L→TI m E (t n)) (hb: ∀n,n≤L→ ∀i,i<m→0≤(t n).X i b) (hs: ∀n,n<L→Step m b Q w F (t n) (r n) (k n)) (hn: ∀n,n<L→t (n+1)=piv (t n) (r n) (k n))
  (hL:0<L) (he: ∀i,i<m→(t 0).bs i=(t L).bs i):False:=by
 have hne: ∀n,n<L→(t n).X (r n) (k n)≠0:=fun n h=>by have:=(hs n h).prk;grind
 have huq: ∀i,i<m→ ∀c,(t L).X i c=(t 0).X i c:=fun i hi c=>(hT 0 (by omega)).uniq (hT L (Nat.le_refl _)) he hi c
 have hzL: ∀q,rc m (w q) (t L) b=rc m (w q) (t 0) b:=fun q=>by
  unfold rc
  congr 1
  exact aM fun i hi=>by rw[huq i hi,he i hi]
 have aJL: ∀n,n≤L→(fM Q (fun q=>rc m (w q) (t 0) b - rc m (w q) (t n) b)∨(uH Q fun q=>rc m (w q) (t 0) b - rc m (w q) (t n) b)∧ ∀n',n'<n→(t n').X (r n') b=0):=by
  intro n
  induction n with
  | zero => exact fun _ => .inr ⟨fun q _ => by grind, fun n' h => by omega⟩
  | succ n ih =>
    intro hnl
    have hst:=hs n (by omega)
    have hr0:=hb n (by omega) (r n) hst.hr
    have Et: ∀q,rc m (w q) (t (n+1)) b=rc m (w q) (t n) b - rc m (w q) (t n) (k n)*((t n).X (r n) b / (t n).X (r n) (k n)):=fun q=>by
     rw[hn n (by omega),Ra _ _ hst.hr (hne n (by omega))]
    by_cases hz:(t n).X (r n) b=0
    ·have e: ∀q,rc m (w q) (t (n+1)) b=rc m (w q) (t n) b:=fun q=>by rw[Et q,hz];grind
     rcases ih (by omega) with h | ⟨h1,h2⟩
     ·exact .inl (cP h fun q _=>by rw[e q])
     ·exact .inr ⟨fun q hq=>by have:=h1 q hq;simp only at this ⊢;rw[e q];exact this,fun n' h=>by
       by_cases en:n'=n
       ·rw[en];exact hz
       ·exact h2 n' (by omega)⟩
    ·have hth:=No (show 0<(t n).X (r n) b by grind) hst.prk
     have hp:=qQ hth hst.pos
     refine .inl ?_
     rcases ih (by omega) with h | ⟨h1,h2⟩
     ·exact cP (E8 h hp) fun q _=>by rw[Et q];grind
     ·exact cP (zF hp h1) fun q _=>by rw[Et q];grind
 have hz: ∀n,n<L→(t n).X (r n) b=0:=by
  rcases aJL L (Nat.le_refl _) with h | ⟨_,h⟩
  ·exact absurd (fun q _=>by have:=hzL q;grind) fun h0=>fE h h0
  ·exact h
 have hconst: ∀n,n<L→ ∀i,i<m→(t (n+1)).X i b=(t n).X i b:=fun n h i hi=>by
  rw[hn n h]
  by_cases e:i=r n
  ·subst e;rw[qS,hz n h];grind
  ·rw[lL _ _ _ e,hz n h];grind
 have Cf: ∀n,n≤L→ ∀c,(∃i,i<m∧(t n).bs i=c)→ ¬ fM Q fun q=>rc m (w q) (t n) c:=fun n h c ⟨i,hi,hc⟩ hp=>
  fE hp fun q _=>by rw[←hc];exact mC (hT n h) _ hi
 have Gy: ∀n,n<L→ ∀c,(∃i,i<m∧(t n).bs i=c)→ ¬ (∃i,i<m∧(t (n+1)).bs i=c)→(t n).bs (r n)=c:=fun n h c ⟨i,hi,hc⟩ hno=>by
  by_cases e:i=r n
  ·rw[←e];exact hc
  ·exact absurd ⟨i,hi,by rw[hn n h,cA _ _ e];exact hc⟩ hno
 have Ud: ∀n,n<L→ ∀c, ¬ (∃i,i<m∧(t n).bs i=c)→(∃i,i<m∧(t (n+1)).bs i=c)→k n=c:=fun n h c hno ⟨i,hi,hc⟩=>by
  rw[hn n h] at hc
  by_cases e:i=r n
  ·rw[e,cX] at hc;exact hc
  ·rw[cA _ _ e] at hc;exact absurd ⟨i,hi,hc⟩ hno
 have aB0: ∀c,(∃i,i<m∧(t 0).bs i=c) ↔ (∃i,i<m∧(t L).bs i=c):=fun c=>by
  constructor
  ·rintro⟨i,hi,h⟩;exact⟨i,hi,by rw[←he i hi];exact h⟩
  ·rintro⟨i,hi,h⟩;exact⟨i,hi,by rw[he i hi];exact h⟩
 obtain⟨n1,hn1,Zc⟩:=max_lt k L hL
 have aJ4: ¬ (∃i,i<m∧(t n1).bs i=k n1):=fun h=>Cf n1 (by omega) _ h (hs n1 hn1).pos
 have aK1: ∃i,i<m∧(t (n1+1)).bs i=k n1:=⟨r n1,(hs n1 hn1).hr,by rw[hn n1 hn1,cX]⟩
 obtain⟨n0,hn0,hl0⟩: ∃n0,n0<L∧(t n0).bs (r n0)=k n1:=by
  by_cases h0: ∃i,i<m∧(t 0).bs i=k n1
  ·obtain⟨n,_,h2,h3,h4⟩:=Sq (P:=fun n=> ∃i,i<m∧(t n).bs i=k n1) (Nat.zero_le n1) h0 aJ4
   exact⟨n,by omega,Gy n (by omega) _ h3 h4⟩
  ·have hL0: ¬ ∃i,i<m∧(t L).bs i=k n1:=fun h=>h0 ((aB0 _).2 h)
   obtain⟨n,_,h2,h3,h4⟩:=Sq (P:=fun n=> ∃i,i<m∧(t n).bs i=k n1) (show n1+1≤L by omega) aK1 hL0
   exact⟨n,by omega,Gy n (by omega) _ h3 h4⟩
 have O8:=hs n0 hn0
 have Tk:=hs n1 hn1
 have hT0:=hT n0 (by omega)
 have hT1:=hT n1 (by omega)
 have hs1:k n0<k n1:=by
  rcases Nat.lt_or_ge (k n0) (k n1) with h | h
  ·exact h
  ·have e:k n0=k n1:=by have:=Zc n0 hn0;omega
   exact absurd O8.pos (Cf n0 (by omega) _ ⟨r n0,O8.hr,by rw[hl0,e]⟩)
 have hnp:=Tk.first (k n0) O8.hF hs1
 have hex: ∃i,i<m∧fM Q fun q=> - ((t n0).X i (k n0)*rc m (w q) (t n1) ((t n0).bs i)):=by
  rcases Classical.em (∃i,i<m∧fM Q fun q=> - ((t n0).X i (k n0)*rc m (w q) (t n1) ((t n0).bs i))) with h | h
  ·exact h
  ·refine absurd ?_ hnp
   have:=wK (n:=m) (f:=fun i q=>(t n0).X i (k n0)*rc m (w q) (t n1) ((t n0).bs i)) O8.pos fun i hi=>by
    rcases Mp Q fun q=>(t n0).X i (k n0)*rc m (w q) (t n1) ((t n0).bs i) with h1 | h1 | h1
    ·exact .inl h1
    ·exact .inr h1
    ·exact absurd ⟨i,hi,h1⟩ h
   exact cP this fun q _=>(Cx hT0 hT1 (w q) (k n0)).symm
 obtain⟨i,hi,cM⟩:=hex
 obtain⟨c,hc⟩: ∃c,(t n0).bs i=c:=⟨_,rfl⟩
 rw[hc] at cM
 have hnb: ¬ (∃j,j<m∧(t n1).bs j=c):=fun⟨j,hj,h⟩=>by
  refine fE cM fun q _=> ?_
  rw[←h,mC hT1 _ hj];grind
 have aD5: ∃n,n<L∧k n=c:=by
  have hin: ∃j,j<m∧(t n0).bs j=c:=⟨i,hi,hc⟩
  have go: ∀a e,a≤e→e≤L→ ¬ (∃j,j<m∧(t a).bs j=c)→(∃j,j<m∧(t e).bs j=c)→ ∃n,n<L∧k n=c:=fun a e h1 h2 h3 h4=>by
   obtain⟨n,_,g2,g3,g4⟩:=Sq (P:=fun n=> ¬ ∃j,j<m∧(t n).bs j=c) h1 h3 (fun h=>h h4)
   exact⟨n,by omega,Ud n (by omega) c g3 (Classical.not_not.1 g4)⟩
  rcases Nat.lt_or_ge n1 n0 with h | h
  ·exact go n1 n0 (by omega) (by omega) hnb hin
  ·by_cases h0: ∃j,j<m∧(t 0).bs j=c
   ·exact go n1 L (by omega) (Nat.le_refl _) hnb ((aB0 c).1 h0)
   ·exact go 0 n0 (by omega) (by omega) h0 hin
 obtain⟨nc,hnc,hkc⟩:=aD5
 have aMS:c≤k n1:=by rw[←hkc];exact Zc nc hnc
 have Ii: ∀n,n≤L→ ∀j,j<m→(t n).bs j=c→(t n).X j b=0:=by
  have fwd: ∀n,n<L→(∀j,j<m→(t n).bs j=c→(t n).X j b=0)→ ∀j,j<m→(t (n+1)).bs j=c→(t (n+1)).X j b=0:=fun n h ih j hj hbj=>by
   rw[hconst n h j hj]
   by_cases e:j=r n
   ·rw[e];exact hz n h
   ·rw[hn n h,cA _ _ e] at hbj;exact ih j hj hbj
  have bwd: ∀n,n<L→(∀j,j<m→(t (n+1)).bs j=c→(t (n+1)).X j b=0)→ ∀j,j<m→(t n).bs j=c→(t n).X j b=0:=fun n h ih j hj hbj=>by
   by_cases e:j=r n
   ·rw[e];exact hz n h
   ·rw[←hconst n h j hj]
    exact ih j hj (by rw[hn n h,cA _ _ e];exact hbj)
  have h1: ∀j,j<m→(t n1).bs j=c→(t n1).X j b=0:=fun j hj h=>absurd ⟨j,hj,h⟩ hnb
  intro n hnL
  rcases Nat.le_total n n1 with h | h
  ·have: ∀d,d≤n1→ ∀j,j<m→(t (n1 - d)).bs j=c→(t (n1 - d)).X j b=0:=by
    intro d
    induction d with
    | zero => exact fun _ => h1
    | succ d ih =>
      intro hd
      refine bwd (n1 - (d+1)) (by omega) ?_
      rw[show n1 - (d+1)+1=n1 - d by omega]
      exact ih (by omega)
   have:=this (n1 - n) (by omega)
   rwa [show n1 - (n1 - n)=n by omega] at this
  ·have: ∀d,n1+d≤L→ ∀j,j<m→(t (n1+d)).bs j=c→(t (n1+d)).X j b=0:=by
    intro d
    induction d with
    | zero => exact fun _ => h1
    | succ d ih => exact fun hd => fwd (n1 + d) (by omega) (ih (by omega))
   have:=this (n - n1) (by omega)
   rwa [show n1+(n - n1)=n by omega] at this
 have hxi:(t n0).X i b=0:=Ii n0 (by omega) i hi hc
 have hFc:F c:=by rw[←hkc];exact(hs nc hnc).hF
 have hx0:(t n0).X i (k n0)≠0:=fun h=>fE cM fun q _=>by rw[h];grind
 have aI8:(0<(t n0).X i (k n0))∧c≠k n1:=by
  rcases eD ((t n0).X i (k n0)) 0 with h | h
  ·
   have hp:fM Q fun q=>rc m (w q) (t n1) c:=by
    have:=qQ (No (show(0:Rat)<1 by decide) (show 0< - (t n0).X i (k n0) by grind)) cM
    exact cP this fun q _=>by grind
   have hge: ¬ c<k n1:=fun hl=>Tk.first c hFc hl hp
   have e:c=k n1:=by omega
   have:i=r n0:=hT0.inj hi O8.hr (by rw[hc,hl0,e])
   rw[this] at h
   have:=O8.prk
   grind
  ·refine⟨h,fun e=> ?_⟩
   have hp:=qQ h Tk.pos
   rw[e] at cM
   exact zT hp cM
 have aIZ:=O8.tie i hi aI8.1 (by rw[hxi,hz n0 hn0];grind)
 rw[hl0,hc] at aIZ
 omega
end
theorem O5 {α:Type} [DecidableEq α]: ∀(l:List α) (f:Nat→α),(∀n,n≤l.length→f n∈l)→ ∃a b,a<b∧b≤l.length∧f a=f b
 | [], f, h => absurd (h 0 (Nat.le_refl _)) (by simp)
 | x :: l, f, h => by
   rcases Classical.em (∃n0,n0≤l.length+1∧f n0=x) with ⟨n0,h0,hx⟩| hno
   ·rcases Classical.em (∃n1,n1≤l.length+1∧n1≠n0∧f n1=x) with ⟨n1,h1,hne,hx1⟩| hno
    ·rcases Nat.lt_or_gt_of_ne hne with h | h
     ·exact⟨n1,n0,h,by simpa using h0,by rw[hx,hx1]⟩
     ·exact⟨n0,n1,h,by simpa using h1,by rw[hx,hx1]⟩
    ·obtain⟨a,b,h1,h2,h3⟩:=O5 l (fun n=>if n<n0 then f n else f (n+1)) fun n hn=>by
      have hm: ∀k,k≤l.length+1→k≠n0→f k∈l:=fun k hk hkn=>by
       have:=h k (by simpa using hk)
       rcases List.mem_cons.1 this with e | e
       ·exact absurd ⟨k,hk,hkn,e⟩ hno
       ·exact e
      split
      ·exact hm n (by omega) (by omega)
      ·exact hm (n+1) (by omega) (by omega)
     by_cases ha:a<n0
     ·by_cases hb:b<n0
      ·simp only[ha,hb,if_true] at h3
       exact⟨a,b,h1,by simp;omega,h3⟩
      ·simp only[ha,hb,if_true,if_false] at h3
       exact⟨a,b+1,by omega,by simp;omega,h3⟩
     ·simp only[ha,show ¬ b<n0 by omega,if_false] at h3
      exact⟨a+1,b+1,by omega,by simp;omega,h3⟩
   ·obtain⟨a,b,h1,h2,h3⟩:=O5 l f fun n hn=>by
     rcases List.mem_cons.1 (h n (by simp;omega)) with e | e
     ·exact absurd ⟨n,by omega,e⟩ hno
     ·exact e
    exact⟨a,b,h1,by simp;omega,h3⟩
def allL (N:Nat):Nat→List (List Nat)
 | 0 => [[]]
 | m + 1 => (allL N m).flatMap fun l => (List.range N).map fun x => l ++ [x]
theorem J4 (N:Nat) (f:Nat→Nat): ∀m,(∀i,i<m→f i<N)→(List.range m).map f∈allL N m
 | 0, _ => by simp [allL]
 | m + 1, h => by
   rw[allL,List.mem_flatMap]
   exact⟨_,J4 N f m fun i hi=>h i (by omega),List.mem_map.2 ⟨f m,by simpa using h m (by omega),by simp[List.range_succ]⟩⟩
def orb (nx:Tab→Option (Nat×Nat)) (t:Tab):Nat→Tab
 | 0 => t
 | n + 1 => match nx (orb nx t n) with
   | some (r,k)=>piv (orb nx t n) r k
   | none=>orb nx t n

structure gP (n m : Nat) (E : Nat → Nat → Rat) (b : Nat) (x : Nat → Rat) : Prop where
 nn: ∀c,c<n→0≤x c
 sol:Sol m n E b x
def dot (n:Nat) (w x:Nat→Rat):Rat:=S n fun c=>w c*x c
theorem B3 {n m b:Nat} (w:Nat→Rat) (t:Tab) {x:Nat→Rat} (h:Sol m n t.X b x):dot n w x=dot n (rc m w t) x - rc m w t b+w b:=by
 have e:dot n (rc m w t) x=dot n w x - S m fun i=>w (t.bs i)*S n fun c=>t.X i c*x c:=by
  unfold dot rc
  rw[show(fun c=>(w c - S m fun i=>t.X i c*w (t.bs i))*x c)=fun c=>w c*x c - S m fun i=>w (t.bs i)*(t.X i c*x c) from funext fun c=>by
   rw[show(S m fun i=>w (t.bs i)*(t.X i c*x c))=(S m fun i=>t.X i c*w (t.bs i))*x c by rw[←kK];exact aM fun i _=>by grind]
   grind,qE,lD]
  congr 1
  exact aM fun i _=>by rw[eI]
 have e2:(S m fun i=>w (t.bs i)*S n fun c=>t.X i c*x c)=S m fun i=>t.X i b*w (t.bs i):=aM fun i hi=>by rw[h i hi];grind
 rw[e,e2]
 unfold rc
 grind
def xb (m b:Nat) (t:Tab) (c:Nat):Rat:=S m fun i=>if t.bs i=c then t.X i b else 0
theorem aED {m b:Nat} {E:Nat→Nat→Rat} {t:Tab} (h:TI m E t) {i:Nat} (hi:i<m):xb m b t (t.bs i)=t.X i b:=by
 unfold xb
 rw[cK hi,if_pos rfl]
 intro j hj hne
 rw[if_neg fun e=>hne (h.inj hj hi e)]
theorem Qu {m b:Nat} {t:Tab} {c:Nat} (h: ∀i,i<m→t.bs i≠c):xb m b t c=0:=eN fun i hi=>if_neg (h i hi)
theorem aCF {m b:Nat} {t:Tab} (h: ∀i,i<m→0≤t.X i b) (c:Nat):0≤xb m b t c:=gE fun i hi=>by
 split
 ·exact h i hi
 ·exact Rat.le_refl
theorem D2 {n m:Nat} (bs:Nat→Nat) (f g:Nat→Rat) (hz: ∀i,i<m→ ¬ bs i<n→f i=0):(S n fun c=>g c*S m fun i=>if bs i=c then f i else 0)=S m fun i=>f i*g (bs i):=by
 rw[show(fun c=>g c*S m fun i=>if bs i=c then f i else 0)=fun c=>S m fun i=>if bs i=c then f i*g c else 0 from funext fun c=>by
  rw[←eI]
  exact aM fun i _=>by split<;>grind,lD]
 refine aM fun i hi=> ?_
 by_cases h:bs i<n
 ·rw[cK h,if_pos rfl]
  intro c hc hne
  rw[if_neg (Ne.symm hne)]
 ·rw[eN,hz i hi h]
  ·grind
  ·intro c hc
   rw[if_neg (by omega)]
theorem Ti {n m b:Nat} {E:Nat→Nat→Rat} {t:Tab} (h:TI m E t) (hz: ∀i,i<m→ ¬ t.bs i<n→t.X i b=0):Sol m n t.X b (xb m b t):=by
 intro i hi
 unfold xb
 rw[D2 t.bs (fun j=>t.X j b) (t.X i) hz,cK hi,h.unit i i hi hi,if_pos rfl]
 ·grind
 ·intro j hj hne
  rw[h.unit i j hi hj,if_neg (Ne.symm hne)];grind
theorem uG {n m b:Nat} {E:Nat→Nat→Rat} {t:Tab} (h:TI m E t) (hb: ∀i,i<m→0≤t.X i b) (hz: ∀i,i<m→ ¬ t.bs i<n→t.X i b=0):gP n m E b (xb m b t):=
 ⟨fun c _=>aCF hb c,(lG h n b _).2 (Ti h hz)⟩
def cL (n m:Nat) (c:Nat):Rat:=if n≤c∧c<n+m then -1 else 0
theorem sP {n m b:Nat} {t:Tab} (hb:b=n+m):rc m (cL n m) t b=S m fun i=>if n≤t.bs i∧t.bs i<n+m then t.X i b else 0:=by
 unfold rc
 rw[show cL n m b=0 by unfold cL;rw[if_neg (by omega)]]
 rw[show(fun i=>if n≤t.bs i∧t.bs i<n+m then t.X i b else 0)=fun i=>(-1)*(t.X i b*cL n m (t.bs i)) from funext fun i=>by
  unfold cL;split<;>grind,eI]
 grind
theorem Ao {n m b:Nat} {E:Nat→Nat→Rat} {t:Tab} (hb:b=n+m) (h:TI m E t) (hnn: ∀i,i<m→0≤t.X i b) (hend: ∀c,c<n→rc m (cL n m) t c≤0) (hp:0<rc m (cL n m) t b) (x:Nat→Rat): ¬ gP n m E b x:=by
 intro hx
 have h1:=B3 (cL n m) t ((lG h n b x).1 hx.sol)
 have h2:dot n (cL n m) x=0:=eN fun c hc=>by unfold cL;rw[if_neg (by omega)];grind
 have h3:cL n m b=0:=by unfold cL;rw[if_neg (by omega)]
 have h4:dot n (rc m (cL n m) t) x≤0:=by
  have:0≤S n fun c=> - rc m (cL n m) t c*x c:=gE fun c hc=>Rat.mul_nonneg (by have:=hend c hc;grind) (hx.nn c hc)
  have e:(S n fun c=> - rc m (cL n m) t c*x c)=(-1)*dot n (rc m (cL n m) t) x:=by
   unfold dot;rw[←eI];exact aM fun c _=>by grind
  grind
 grind
theorem Ct {n m b:Nat} {t:Tab} (hb:b=n+m) (hnn: ∀i,i<m→0≤t.X i b) (hz:rc m (cL n m) t b=0) (hlt: ∀i,i<m→t.bs i<n+m): ∀i,i<m→ ¬ t.bs i<n→t.X i b=0:=by
 intro i hi hge
 rw[sP hb] at hz
 rcases eD (t.X i b) 0 with h | h
 ·have:=hnn i hi;grind
 ·have:=Eh (f:=fun i=>if n≤t.bs i∧t.bs i<n+m then t.X i b else 0) (k:=i) (n:=m) (fun j hj=>by
   split
   ·exact hnn j hj
   ·exact Rat.le_refl) hi (by
    have:=hlt i hi
    rw[if_pos (by omega)];exact h)
  grind
def wl (C:Nat→Rat):Nat→Nat→Rat
 | 0 => C
 | q + 1 => fun c => if c = q then -1 else 0
def rH (n m:Nat) (E:Nat→Nat→Rat) (b:Nat) (C x:Nat→Rat):Prop:=gP n m E b x∧ ∀y,gP n m E b y→ ¬ fM (n+1) fun q=>dot n (wl C q) y - dot n (wl C q) x
theorem I8 {n c:Nat} (hc:c<n) (C x:Nat→Rat):dot n (wl C (c+1)) x= - x c:=by
 unfold dot wl
 rw[cK hc]
 ·simp;grind
 ·intro i _ hne
  simp only[if_neg hne];grind
theorem Bx {n m b:Nat} {E:Nat→Nat→Rat} {C x y:Nat→Rat} (hx:rH n m E b C x) (hy:rH n m E b C y): ∀c,c<n→x c=y c:=by
 intro c hc
 have hz:uH (n+1) fun q=>dot n (wl C q) y - dot n (wl C q) x:=by
  rcases Mp (n+1) fun q=>dot n (wl C q) y - dot n (wl C q) x with h | h | h
  ·exact absurd h (hx.2 y hy.1)
  ·exact h
  ·exact absurd (cP h fun q _=>by grind) (hy.2 x hx.1)
 have:=hz (c+1) (by omega)
 simp only at this
 rw[I8 hc,I8 hc] at this
 grind
theorem Ht {n m b:Nat} {E:Nat→Nat→Rat} {t:Tab} {C:Nat→Rat} (h:TI m E t) (hb: ∀i,i<m→0≤t.X i b) (hz: ∀i,i<m→ ¬ t.bs i<n→t.X i b=0) (hend: ∀c,c<n→ ¬ fM (n+1) fun q=>rc m (wl C q) t c):rH n m E b C (xb m b t):=by
 have hf:=uG h hb hz
 refine⟨hf,fun y hy hp=> ?_⟩
 have h1: ∀q,dot n (wl C q) y - dot n (wl C q) (xb m b t)=S n fun c=>y c*rc m (wl C q) t c:=fun q=>by
  have e1:=B3 (wl C q) t ((lG h n b y).1 hy.sol)
  have e2:=B3 (wl C q) t ((lG h n b _).1 hf.sol)
  have e3:dot n (rc m (wl C q) t) (xb m b t)=0:=by
   unfold dot xb
   rw[D2 t.bs (fun j=>t.X j b) (rc m (wl C q) t) hz]
   exact eN fun i hi=>by rw[mC h _ hi];grind
  have e4:dot n (rc m (wl C q) t) y=S n fun c=>y c*rc m (wl C q) t c:=aM fun c _=>by grind
  grind
 have h2:=wK (n:=n) (f:=fun c q=> - (y c*rc m (wl C q) t c)) hp fun c hc=>by
  have hy0:=hy.nn c hc
  rcases Mp (n+1) fun q=>rc m (wl C q) t c with g | g | g
  ·exact absurd g (hend c hc)
  ·exact .inr fun q hq=>by have:=g q hq;simp only at this ⊢;rw[this];grind
  ·rcases eD (y c) 0 with k | k
   ·exact .inr fun q hq=>by
     have:y c=0:=by grind
     simp only;rw[this];grind
   ·exact .inl (cP (qQ k g) fun q _=>by grind)
 refine fE h2 fun q _=> ?_
 have:(S n fun c=> - (y c*rc m (wl C q) t c))=(-1)*S n fun c=>y c*rc m (wl C q) t c:=by rw[←eI];exact aM fun c _=>by grind
 rw[h1 q,this];grind
def Unb (n m:Nat) (E:Nat→Nat→Rat) (b:Nat) (C:Nat→Rat):Prop:= ∀x,gP n m E b x→ ∃y,gP n m E b y∧dot n C x<dot n C y
theorem C1 {n m b:Nat} {E:Nat→Nat→Rat} {C x:Nat→Rat} (h:Unb n m E b C) (hx:rH n m E b C x):False:=by
 obtain⟨y,h1,h2⟩:=h x hx.1
 exact hx.2 y h1 ⟨0,by omega,by simp only[wl];grind,fun j hj=>by omega⟩
theorem Jw {n m b:Nat} {E:Nat→Nat→Rat} {t:Tab} {C:Nat→Rat} {j:Nat} (h:TI m E t) (hj:j<n) (hle: ∀i,i<m→t.X i j≤0) (hz: ∀i,i<m→ ¬ t.bs i<n→t.X i j=0) (hg:0<rc m C t j):Unb n m E b C:=by
 intro x hx
 have hnb: ∀i,i<m→t.bs i≠j:=fun i hi e=>by
  have:=h.unit i i hi hi
  rw[e,if_pos rfl] at this
  have:=hle i hi
  grind
 let y:Nat→Rat:=fun c=>x c+((if c=j then 1 else 0) - S m fun i=>if t.bs i=c then t.X i j else 0)
 have aFG: ∀g:Nat→Rat,(S n fun c=>g c*y c)=(S n fun c=>g c*x c)+(g j - S m fun i=>t.X i j*g (t.bs i)):=fun g=>by
  have e:(S n fun c=>g c*y c)=S n fun c=>g c*x c+((if c=j then g j else 0) - g c*S m fun i=>if t.bs i=c then t.X i j else 0):=aM fun c _=>by
   simp only[y]
   by_cases hc:c=j
   ·subst hc;simp only[if_true];grind
   ·simp only[if_neg hc];grind
  rw[e,sW,qE,D2 t.bs (fun i=>t.X i j) g hz,cK (f:=fun c=>if c=j then g j else 0) hj fun i _ hne=>if_neg hne]
  simp
 refine⟨y,⟨fun c hc=> ?_,(lG h n b y).2 fun i hi=> ?_⟩,?_⟩
 ·have h1:=hx.nn c hc
  have h2:0≤S m fun i=> - (if t.bs i=c then t.X i j else 0):=gE fun i hi=>by
   split
   ·have:=hle i hi;grind
   ·grind
  have h3:(S m fun i=> - (if t.bs i=c then t.X i j else 0))=(-1)*S m fun i=>if t.bs i=c then t.X i j else 0:=by rw[←eI];exact aM fun i _=>by grind
  have h4:(0:Rat)≤if c=j then 1 else 0:=by split<;>decide
  simp only[y]
  grind
 ·rw[aFG (t.X i),((lG h n b x).1 hx.sol) i hi]
  have:(S m fun l=>t.X l j*t.X i (t.bs l))=t.X i j:=by
   rw[cK hi,h.unit i i hi hi,if_pos rfl]
   ·grind
   ·intro l hl hne
    rw[h.unit i l hi hl,if_neg (Ne.symm hne)];grind
  rw[this];grind
 ·have:=aFG C
  unfold dot
  rw[this]
  unfold rc at hg
  grind
structure Round (n m b : Nat) (E : Nat → Nat → Rat) (w : Nat → Rat) (F F' : Nat → Prop) (t : Tab) : Prop where
 ti:TI m E t
 nn: ∀i,i<m→0≤t.X i b
 zero: ∀i,i<m→ ¬ t.bs i<n→t.X i b=0
 bas: ∀i,i<m→t.bs i<n→F (t.bs i)
 up: ∀c,c<n→F c→rc m w t c≤0
 fU: ∀c,c<n→(F' c ↔ F c∧rc m w t c=0)
def xY (n:Nat) (F:Nat→Prop) (x:Nat→Rat):Prop:= ∀c,c<n→ ¬ F c→x c=0
theorem mJ {n m b:Nat} {E:Nat→Nat→Rat} {w:Nat→Rat} {F F':Nat→Prop} {t:Tab} (h:Round n m b E w F F' t) {x:Nat→Rat} (hx:gP n m E b x) (ho:xY n F x):
  dot n w x≤w b - rc m w t b∧(dot n w x=w b - rc m w t b→xY n F' x)∧(xY n F' x→dot n w x=w b - rc m w t b):=by
 have h1:=B3 w t ((lG h.ti n b x).1 hx.sol)
 have Mv: ∀c,c<n→0≤ - rc m w t c*x c:=fun c hc=>by
  by_cases hF:F c
  ·exact Rat.mul_nonneg (by have:=h.up c hc hF;grind) (hx.nn c hc)
  ·rw[ho c hc hF];grind
 have e:(S n fun c=> - rc m w t c*x c)=(-1)*dot n (rc m w t) x:=by
  unfold dot;rw[←eI];exact aM fun c _=>by grind
 have h2:=gE Mv
 refine⟨by grind,fun heq c hc hF'=> ?_,fun ho'=> ?_⟩
 ·by_cases hF:F c
  ·have hne:rc m w t c≠0:=fun h0=>hF' ((h.fU c hc).2 ⟨hF,h0⟩)
   have hlt:rc m w t c<0:=by have:=h.up c hc hF;grind
   rcases eD (x c) 0 with g | g
   ·have:=hx.nn c hc;grind
   ·have:=Eh Mv hc (Rat.mul_pos (by grind) g)
    grind
  ·exact ho c hc hF
 ·have:dot n (rc m w t) x=0:=eN fun c hc=>by
   by_cases hF':F' c
   ·rw[((h.fU c hc).1 hF').2];grind
   ·rw[ho' c hc hF'];grind
  grind

def vol (m:Nat) (E:Nat→Nat→Rat) (t:Tab):Rat:=det m fun j i=>E i (t.bs j)
theorem yZ {m:Nat} {E:Nat→Nat→Rat} {t:Tab} (h:TI m E t) {p:Nat} (hp:p<m) (c:Nat):det m (put (fun j i=>E i (t.bs j)) p fun i=>E i c)=t.X p c*vol m E t:=
 Rb _ hp (fun j=>t.X j c) _ fun i hi=>h.col i hi c
theorem U9 {m:Nat} {E:Nat→Nat→Rat} {t:Tab} (h:TI m E t) {r k:Nat} (hr:r<m):vol m E (piv t r k)=t.X r k*vol m E t:=by
 rw[←yZ h hr k]
 unfold vol
 refine mV fun j i _ _=> ?_
 unfold put
 by_cases e:j=r
 ·subst e;rw[cX,if_pos rfl]
 ·rw[cA _ _ e,if_neg e]
structure aEK (m N K : Nat) (E : Nat → Nat → Rat) : Prop where
 int: ∀i c,i<m→c<N→isInt (E i c)
 le: ∀i c,i<m→c<N→ -(K:Rat)≤E i c∧E i c≤K
structure TZ (m N K : Nat) (E : Nat → Nat → Rat) (t : Tab) : Prop where
 ti:TI m E t
 ints:aEK m N K E
 bs: ∀i,i<m→t.bs i<N
 vol:vol m E t≠0
theorem TZ.piv {m N K:Nat} {E:Nat→Nat→Rat} {t:Tab} (h:TZ m N K E t) {r k:Nat} (hr:r<m) (hk:k<N) (hp:t.X r k≠0):TZ m N K E (piv t r k):=by
 refine⟨h.ti.piv hr hp,h.ints,fun i hi=> ?_,?_⟩
 ·by_cases e:i=r
  ·subst e;rw[cX];exact hk
  ·rw[cA _ _ e];exact h.bs i hi
 ·rw[U9 h.ti hr]
  have:=h.vol
  intro h0
  rcases Rat.mul_eq_zero.1 h0 with h1 | h1
  ·exact hp h1
  ·exact this h1
theorem TZ.nH {m N K:Nat} {E:Nat→Nat→Rat} {t:Tab} (h:TZ m N K E t):isInt (Lp.vol m E t)∧ -(lid K m:Rat)≤Lp.vol m E t∧Lp.vol m E t≤lid K m:=
 ⟨zN fun j i hj hi=>h.ints.int i _ hi (h.bs j hj),T3 fun j i hj hi=>h.ints.le i _ hi (h.bs j hj)⟩
theorem TZ.entry {m N K:Nat} {E:Nat→Nat→Rat} {t:Tab} (h:TZ m N K E t) {p c:Nat} (hp:p<m) (hc:c<N):isInt (t.X p c*Lp.vol m E t)∧ -(lid K m:Rat)≤t.X p c*Lp.vol m E t∧t.X p c*Lp.vol m E t≤lid K m:=by
 rw[←yZ h.ti hp c]
 refine⟨zN fun j i hj hi=> ?_,T3 fun j i hj hi=> ?_⟩
 ·unfold put;split
  ·exact h.ints.int i c hi hc
  ·exact h.ints.int i _ hi (h.bs j hj)
 ·unfold put;split
  ·exact h.ints.le i c hi hc
  ·exact h.ints.le i _ hi (h.bs j hj)
def iP (q:Rat):Rat:=if q<0 then -q else q
theorem F7 {q:Rat} (h:q≠0):0<iP q:=by unfold iP;split<;>grind
theorem Gc (a b:Rat):iP (a*b)=iP a*iP b:=by
 rcases eD a 0 with h1 | h1<;>rcases eD b 0 with h2 | h2
 ·have:=Rat.mul_nonneg (show 0≤ -a by grind) (show 0≤ -b by grind)
  unfold iP
  rw[if_neg (show ¬ a*b<0 by grind)]
  by_cases ha:a<0
  ·by_cases hb:b<0
   ·rw[if_pos ha,if_pos hb];grind
   ·have:b=0:=by grind
    rw[this];grind
  ·have:a=0:=by grind
   rw[this];grind
 ·unfold iP
  by_cases ha:a<0
  ·have:=Rat.mul_pos (show 0< -a by grind) h2
   rw[if_pos (show a*b<0 by grind),if_pos ha,if_neg (by grind)];grind
  ·have:a=0:=by grind
   rw[this];grind
 ·unfold iP
  by_cases hb:b<0
  ·have:=Rat.mul_pos h1 (show 0< -b by grind)
   rw[if_pos (show a*b<0 by grind),if_pos hb,if_neg (by grind)];grind
  ·have:b=0:=by grind
   rw[this];grind
 ·have:=Rat.mul_pos h1 h2
  unfold iP
  rw[if_neg (by grind),if_neg (by grind),if_neg (by grind)]
theorem sO {a:Rat} :isInt a→isInt (-a):=fun⟨x,hx⟩=>⟨-x,by rw[hx,Rat.intCast_neg]⟩
theorem Au {a b:Rat} (ha:isInt a) (hb:isInt b):isInt (a - b):=by
 rw[show a - b=a+ -b by grind];exact yL ha (sO hb)
theorem P9 {a:Rat} (h:isInt a):isInt (iP a):=by
 unfold iP;split
 ·exact sO h
 ·exact h
theorem uZ {q:Rat} (h:isInt q):(q.num:Rat)=q:=by obtain⟨z,rfl⟩:=h;simp
def dz (m:Nat) (E:Nat→Nat→Rat) (t:Tab):Int:=(iP (vol m E t)).num
def zt (m:Nat) (E:Nat→Nat→Rat) (t:Tab) (i c:Nat):Int:=(t.X i c*iP (vol m E t)).num
section
variable {m N K : Nat} {E : Nat → Nat → Rat} {t : Tab}
theorem kG (h:TZ m N K E t):(dz m E t:Rat)=iP (vol m E t):=uZ (P9 h.nH.1)
theorem pK (h:TZ m N K E t):0<dz m E t:=by
 have:=F7 h.vol
 rw[←kG h] at this
 exact Rat.intCast_pos.1 this
theorem eW (h:TZ m N K E t) {i c:Nat} (hi:i<m) (hc:c<N):(zt m E t i c:Rat)=t.X i c*dz m E t:=by
 rw[kG h]
 refine uZ ?_
 have h1:=(h.entry hi hc).1
 unfold iP;split
 ·rw[show t.X i c* -vol m E t= -(t.X i c*vol m E t) by grind];exact sO h1
 ·exact h1
theorem Nr (h:TZ m N K E t) {i c:Nat} (hi:i<m) (hc:c<N): -(lid K m:Int)≤zt m E t i c∧zt m E t i c≤lid K m:=by
 have h1:=(h.entry hi hc).2
 have h2: -(lid K m:Rat)≤(zt m E t i c:Rat)∧(zt m E t i c:Rat)≤lid K m:=by
  rw[eW h hi hc,kG h]
  unfold iP;split<;>grind
 constructor
 ·have:=h2.1
  rw[←Rat.intCast_natCast,←Rat.intCast_neg] at this
  exact Rat.intCast_le_intCast.1 this
 ·have:=h2.2
  rw[←Rat.intCast_natCast] at this
  exact Rat.intCast_le_intCast.1 this
theorem Ot (h:TZ m N K E t):dz m E t≤lid K m:=by
 have h1:=h.nH.2
 have h2:(dz m E t:Rat)≤lid K m:=by
  rw[kG h]
  unfold iP;split<;>grind
 rw[←Rat.intCast_natCast] at h2
 exact Rat.intCast_le_intCast.1 h2
theorem nU (h:TZ m N K E t) {i c:Nat} (hi:i<m) (hc:c<N):(0<zt m E t i c ↔ 0<t.X i c)∧(zt m E t i c=0 ↔ t.X i c=0):=by
 have h1:=eW h hi hc
 have h2:(0:Rat)<dz m E t:=by rw[kG h];exact F7 h.vol
 constructor
 ·constructor
  ·intro hp
   have h3:(0:Rat)<zt m E t i c:=Rat.intCast_pos.2 hp
   rw[h1] at h3
   rcases eD (t.X i c) 0 with g | g
   ·have:=Rat.mul_nonneg (show 0≤ - t.X i c by grind) (show 0≤(dz m E t:Rat) by grind)
    grind
   ·exact g
  ·intro hp
   have:=Rat.mul_pos hp h2
   rw[←h1] at this
   exact Rat.intCast_pos.1 this
 ·constructor
  ·intro h0
   rw[h0] at h1
   rcases Rat.mul_eq_zero.1 h1.symm with g | g
   ·exact g
   ·rw[g] at h2;exact absurd h2 (by decide)
  ·intro h0
   rw[h0,Rat.zero_mul] at h1
   exact Rat.intCast_inj.1 h1
theorem Ug (h:TZ m N K E t) {r k:Nat} (hr:r<m) (hk:k<N) (hp:t.X r k≠0) {i c:Nat} (hi:i<m) (hc:c<N):
  (0<zt m E t r k→dz m E (piv t r k)=zt m E t r k∧(zt m E (piv t r k) i c*dz m E t=if i=r then zt m E t i c*dz m E t else zt m E t i c*zt m E t r k - zt m E t i k*zt m E t r c))∧
  (zt m E t r k<0→dz m E (piv t r k)= - zt m E t r k∧(zt m E (piv t r k) i c*dz m E t= - if i=r then zt m E t i c*dz m E t else zt m E t i c*zt m E t r k - zt m E t i k*zt m E t r c)):=by
 have h':=h.piv hr hk hp
 have e1:=eW h hi hc
 have e2:=eW h' hi hc
 have e3:=eW h hr hk
 have e4:=eW h hi hk
 have e5:=eW h hr hc
 have hd:(dz m E (piv t r k):Rat)=iP (t.X r k)*dz m E t:=by rw[kG h',kG h,U9 h.ti hr,Gc]
 have hdp:=pK h
 have hs:=nU h hr hk
 constructor
 ·intro pH
  have hx:=hs.1.1 pH
  have hd2:(dz m E (piv t r k):Rat)=zt m E t r k:=by rw[hd,e3];unfold iP;rw[if_neg (by grind)]
  refine⟨Rat.intCast_inj.1 hd2,?_⟩
  have hz:=Rat.intCast_inj.1 hd2
  refine Rat.intCast_inj.1 ?_
  rw[Rat.intCast_mul,e2,hd]
  split
  ·rename_i e
   subst e
   rw[Rat.intCast_mul,qS,e1]
   unfold iP;rw[if_neg (by grind)]
   grind
  ·rename_i e
   rw[Rat.intCast_sub,Rat.intCast_mul,Rat.intCast_mul,lL _ _ _ e,e1,e3,e4,e5]
   unfold iP;rw[if_neg (by grind)]
   grind
 ·intro cM
  have hx:t.X r k<0:=by
   rcases eD (t.X r k) 0 with g | g
   ·grind
   ·have:=hs.1.2 g;omega
  have hd2:(dz m E (piv t r k):Rat)=((- zt m E t r k:Int):Rat):=by rw[hd,Rat.intCast_neg,e3];unfold iP;rw[if_pos hx];grind
  refine⟨Rat.intCast_inj.1 hd2,?_⟩
  refine Rat.intCast_inj.1 ?_
  rw[Rat.intCast_mul,e2,hd,Rat.intCast_neg]
  split
  ·rename_i e
   subst e
   rw[Rat.intCast_mul,qS,e1]
   unfold iP;rw[if_pos hx]
   grind
  ·rename_i e
   rw[Rat.intCast_sub,Rat.intCast_mul,Rat.intCast_mul,lL _ _ _ e,e1,e3,e4,e5]
   unfold iP;rw[if_pos hx]
   grind
end
end Go.Proofs.YticmgmemnpcbbaaGreat.Lp

namespace Go.Proofs.YticmgmemnpcbbaaGreat.Lp
set_option linter.unusedSimpArgs false
set_option linter.unusedVariables false
open Classical
noncomputable def fstP (p : Nat → Prop) : Nat → Option Nat
 | 0 => none
 | n + 1 => match fstP p n with
   | some k=>some k
   | none=>if p n then some n else none
theorem dW {p:Nat→Prop} : ∀ {n:Nat},fstP p n=none ↔ ∀k,k<n→ ¬ p k
 | 0 => by simp [fstP]
 | n + 1 => by
   have ih:=dW (p:=p) (n:=n)
   rw[fstP]
   cases h:fstP p n with
   | some k=>
     constructor
     ·intro h';cases h'
     ·intro h'
      have:=ih.2 fun k hk=>h' k (by omega)
      rw[h] at this;cases this
   | none=>
     have hn:=ih.1 h
     constructor
     ·intro h' k hk
      by_cases e:k=n
      ·subst e;intro hp;simp[hp] at h'
      ·exact hn k (by omega)
     ·intro h'
      simp[h' n (by omega)]
theorem dM {p:Nat→Prop} {k:Nat} : ∀ {n:Nat},fstP p n=some k ↔ k<n∧p k∧ ∀j,j<k→ ¬ p j
 | 0 => by simp [fstP]
 | n + 1 => by
   have ih:=dM (p:=p) (k:=k) (n:=n)
   rw[fstP]
   cases h:fstP p n with
   | some k'=>
     rw[h] at ih
     constructor
     ·intro h'
      obtain⟨h1,h2,h3⟩:=ih.1 h'
      exact⟨by omega,h2,h3⟩
     ·rintro⟨h1,h2,h3⟩
      by_cases e:k<n
      ·exact ih.2 ⟨e,h2,h3⟩
      ·obtain⟨g1,g2,_⟩:=dM.1 h
       exact absurd g2 (h3 k' (by omega))
   | none=>
     have hn:=dW.1 h
     constructor
     ·intro h'
      by_cases hp:p n
      ·simp[hp] at h'
       subst h'
       exact⟨by omega,hp,hn⟩
      ·simp[hp] at h'
     ·rintro⟨h1,h2,h3⟩
      by_cases e:k<n
      ·exact absurd h2 (hn k e)
      ·obtain rfl:k=n:=by omega
       simp[h2]
def quo (t:Tab) (b k i:Nat):Rat:=t.X i b / t.X i k
noncomputable def lvStep (t : Tab) (b k : Nat) (Ey : Option Nat) (i : Nat) : Option Nat :=
 if 0<t.X i k then match Ey with
  | none => some i
  | some j => if quo t b k i < quo t b k j ∨ quo t b k i = quo t b k j ∧ t.bs i < t.bs j then some i else some j
 else Ey
noncomputable def leave (t : Tab) (b k : Nat) (rows : List Nat) : Option Nat := rows.foldl (lvStep t b k) none
theorem vS (t:Tab) (b k:Nat) (rows:List Nat) (i:Nat):leave t b k (rows++ [i])=lvStep t b k (leave t b k rows) i:=by
 unfold leave;rw[List.foldl_append];rfl
theorem Es {α:Type} {P:List α→Prop} (h0:P []) (hs: ∀l x,P l→P (l++ [x])) (l:List α):P l:=by
 rw[←List.reverse_reverse l]
 induction l.reverse with
 | nil => exact h0
 | cons x xs ih => rw [List.reverse_cons]; exact hs _ _ ih
theorem jH (t:Tab) (b k:Nat) (rows:List Nat):(leave t b k rows=none→ ∀i,i∈rows→ ¬ 0<t.X i k)∧
  ∀r,leave t b k rows=some r→r∈rows∧0<t.X r k∧ ∀i,i∈rows→0<t.X i k→quo t b k r≤quo t b k i∧(quo t b k i=quo t b k r→t.bs r≤t.bs i):=by
 induction rows using Es with
 | h0 => exact ⟨fun _ i hi => (by cases hi), fun r h => (by cases h)⟩
 | hs l x ih =>
   obtain⟨ih1,ih2⟩:=ih
   rw[vS]
   unfold lvStep
   by_cases hp:0<t.X x k
   ·rw[if_pos hp]
    cases hb:leave t b k l with
    | none =>
      refine⟨fun h=>(by cases h),fun r h=> ?_⟩
      have hx:x=r:=Option.some.inj h
      subst hx
      refine⟨by simp,hp,fun i hi hpi=> ?_⟩
      rcases List.mem_append.1 hi with hi | hi
      ·exact absurd hpi (ih1 hb i hi)
      ·obtain rfl:i=x:=by simpa using hi
       exact⟨Rat.le_refl,fun _=>Nat.le_refl _⟩
    | some j =>
      obtain⟨g1,g2,g3⟩:=ih2 j hb
      simp only
      by_cases hc:quo t b k x<quo t b k j∨quo t b k x=quo t b k j∧t.bs x<t.bs j
      ·rw[if_pos hc]
       refine⟨fun h=>(by cases h),fun r h=> ?_⟩
       have hx:x=r:=Option.some.inj h
       subst hx
       refine⟨by simp,hp,fun i hi hpi=> ?_⟩
       rcases List.mem_append.1 hi with hi | hi
       ·obtain⟨q1,q2⟩:=g3 i hi hpi
        rcases hc with hc | ⟨hc1,hc2⟩
        ·exact⟨by grind,fun e=>by grind⟩
        ·exact⟨by grind,fun e=>by have:=q2 (by grind);omega⟩
       ·obtain rfl:i=x:=by simpa using hi
        exact⟨Rat.le_refl,fun _=>Nat.le_refl _⟩
      ·rw[if_neg hc]
       refine⟨fun h=>(by cases h),fun r h=> ?_⟩
       have hx:j=r:=Option.some.inj h
       subst hx
       refine⟨by simp[g1],g2,fun i hi hpi=> ?_⟩
       rcases List.mem_append.1 hi with hi | hi
       ·exact g3 i hi hpi
       ·obtain rfl:i=x:=by simpa using hi
        have h1: ¬ quo t b k i<quo t b k j:=fun h=>hc (.inl h)
        refine⟨by grind,fun e=> ?_⟩
        have h2: ¬ t.bs i<t.bs j:=fun h=>hc (.inr ⟨e,h⟩)
        omega
   ·rw[if_neg hp]
    refine⟨fun h i hi=> ?_,fun r h=> ?_⟩
    ·rcases List.mem_append.1 hi with hi | hi
     ·exact ih1 h i hi
     ·obtain rfl:i=x:=by simpa using hi
      exact hp
    ·obtain⟨g1,g2,g3⟩:=ih2 r h
     refine⟨by simp[g1],g2,fun i hi hpi=> ?_⟩
     rcases List.mem_append.1 hi with hi | hi
     ·exact g3 i hi hpi
     ·obtain rfl:i=x:=by simpa using hi
      exact absurd hpi hp
theorem sJ {a b c d:Rat} (hb:0<b) (hd:0<d):(a / b<c / d ↔ a*d<c*b)∧(a / b=c / d ↔ a*d=c*b):=by
 have h1:a / b*b=a:=by grind
 have h2:c / d*d=c:=by grind
 generalize a / b=x at *
 generalize c / d=y at *
 subst h1 h2
 have h3:=Rat.mul_pos hb hd
 constructor
 ·constructor
  ·intro h
   have:=Rat.mul_pos (show 0<y - x by grind) h3
   grind
  ·intro h
   rcases eD y x with g | g
   ·have:=Rat.mul_nonneg (show 0≤x - y by grind) (show 0≤b*d by grind)
    grind
   ·exact g
 ·constructor
  ·intro h;rw[h];grind
  ·intro h
   have:(x - y)*(b*d)=0:=by grind
   rcases Rat.mul_eq_zero.1 this with g | g
   ·grind
   ·grind
noncomputable def nx (N b : Nat) (rows : List Nat) (ok : Tab → Nat → Prop) (t : Tab) : Option (Nat × Nat) :=
 match fstP (ok t) N with
 | none => none
 | some k => match leave t b k rows with
   | none=>none
   | some r=>some (r,k)
theorem nO {N b:Nat} {rows:List Nat} {ok:Tab→Nat→Prop} {t:Tab} {r k:Nat} :nx N b rows ok t=some (r,k) ↔ fstP (ok t) N=some k∧leave t b k rows=some r:=by
 unfold nx
 cases h1:fstP (ok t) N with
 | none => simp
 | some k' =>
   simp only
   cases h2:leave t b k' rows with
   | none=>
     constructor
     ·intro h;cases h
     ·rintro⟨h,h'⟩
      obtain rfl:k'=k:=Option.some.inj h
      rw[h2] at h';cases h'
   | some r'=>
     simp only[Option.some.injEq,Prod.mk.injEq]
     constructor
     ·rintro⟨rfl,rfl⟩;exact⟨rfl,h2⟩
     ·rintro⟨rfl,h'⟩;rw[h2] at h';exact⟨Option.some.inj h',rfl⟩
theorem W7 {N b:Nat} {rows:List Nat} {ok:Tab→Nat→Prop} {t:Tab} (h:nx N b rows ok t=none):fstP (ok t) N=none∨ ∃k,fstP (ok t) N=some k∧leave t b k rows=none:=by
 unfold nx at h
 cases h1:fstP (ok t) N with
 | none => exact .inl rfl
 | some k =>
   rw[h1] at h
   simp only at h
   cases h2:leave t b k rows with
   | none=>exact .inr ⟨k,rfl,h2⟩
   | some r=>rw[h2] at h;cases h
structure Inv (n m b N K : Nat) (E : Nat → Nat → Rat) (rows : List Nat) (t : Tab) : Prop where
 z:TZ m N K E t
 nn: ∀i,i<m→0≤t.X i b
 sub: ∀i,i∈rows→i<m
 dead: ∀i,i<m→i∉rows→n≤t.bs i∧t.X i b=0∧ ∀c,c<n→t.X i c=0
 lt: ∀i,i<m→t.bs i<b
structure sM (n m b Q N' N : Nat) (w : Nat → Nat → Rat) (F : Nat → Prop) (rows : List Nat) (ok : Tab → Nat → Prop) : Prop where
 ok: ∀t c,c<N'→(ok t c ↔ F c∧fM Q fun q=>rc m (w q) t c)
 hF: ∀c,F c→c<N'
 le:N'≤N
 lb:N'≤b
 few:(∀c,F c→c<n)∨ ∀i,i<m→i∈rows
theorem sM.step {n m b Q N' N K:Nat} {E:Nat→Nat→Rat} {w:Nat→Nat→Rat} {F:Nat→Prop} {rows:List Nat} {ok:Tab→Nat→Prop} (R:sM n m b Q N' N w F rows ok) {t:Tab} {r k:Nat} (h:Inv n m b N K E rows t)
  (hk:fstP (ok t) N'=some k) (hr:leave t b k rows=some r):Step m b Q w F t r k∧Inv n m b N K E rows (piv t r k)∧k<N'∧r∈rows∧r<m∧t.X r k≠0:=by
 obtain⟨k1,k2,k3⟩:=dM.1 hk
 obtain⟨r1,r2,r3⟩:=(jH t b k rows).2 r hr
 obtain⟨f1,f2⟩:=(R.ok t k k1).1 k2
 have hrm:=h.sub r r1
 have hin: ∀i,i<m→0<t.X i k→i∈rows:=fun i hi hp=>by
  rcases Classical.em (i∈rows) with g | g
  ·exact g
  ·rcases R.few with hf | hf
   ·have:=(h.dead i hi g).2.2 k (hf k f1)
    rw[this] at hp;exact absurd hp (by decide)
   ·exact hf i hi
 have hst:Step m b Q w F t r k:=⟨f1,f2,fun j hj hjk hp=>k3 j hjk ((R.ok t j (by omega)).2 ⟨hj,hp⟩),hrm,r2,fun i hi hp=>by
  have h1:=(r3 i (hin i hi hp) hp).1
  have h2:=sJ (a:=t.X i b) (b:=t.X i k) (c:=t.X r b) (d:=t.X r k) hp r2
  unfold quo at h1
  rcases eD (t.X r b*t.X i k) (t.X i b*t.X r k) with g | g
  ·exact g
  ·have:=h2.1.2 g;grind,fun i hi hp e=>by
  have h1:=(r3 i (hin i hi hp) hp).2
  have h2:=sJ (a:=t.X i b) (b:=t.X i k) (c:=t.X r b) (d:=t.X r k) hp r2
  exact h1 (h2.2.2 e)⟩
 have hne:t.X r k≠0:=by grind
 refine⟨hst,⟨h.z.piv hrm (by have:=R.le;omega) hne,hst.rhs h.nn,h.sub,fun i hi hno=> ?_,fun i hi=> ?_⟩,k1,r1,hrm,hne⟩
 ·have hir:i≠r:=fun e=>hno (e▸r1)
  obtain⟨d1,d2,d3⟩:=h.dead i hi hno
  have hkn:k<n:=by
   rcases R.few with hf | hf
   ·exact hf k f1
   ·exact absurd (hf i hi) hno
  rw[cA _ _ hir]
  refine⟨d1,?_,fun c hc=> ?_⟩
  ·rw[lL _ _ _ hir,d2,d3 k hkn];grind
  ·rw[lL _ _ _ hir,d3 c hc,d3 k hkn];grind
 ·by_cases e:i=r
  ·subst e;rw[cX];have:=R.lb;omega
  ·rw[cA _ _ e];exact h.lt i hi
theorem sM.low {n m b Q N' N K:Nat} {E:Nat→Nat→Rat} {w:Nat→Nat→Rat} {F:Nat→Prop} {rows:List Nat} {ok:Tab→Nat→Prop} (R:sM n m b Q N' N w F rows ok) (hF: ∀c,F c→c<n) {t:Tab} {e:Nat} (hI: ∀e',e'≤e→Inv n m b N K E rows (orb (nx N' b rows ok) t e')) (hl: ∀i,i∈rows→t.bs i<n):
  ∀e',e'≤e→ ∀i,i∈rows→(orb (nx N' b rows ok) t e').bs i<n
 | 0, _ => hl
 | e' + 1, he => by
   have ih:=sM.low R hF hI hl e' (by omega)
   rw[orb]
   cases hs:nx N' b rows ok (orb (nx N' b rows ok) t e') with
   | none=>exact ih
   | some p=>
     obtain⟨g1,g2⟩:=nO.1 hs
     have hst:=(R.step (hI e' (by omega)) g1 g2).1
     intro i hi
     by_cases ei:i=p.1
     ·simp only;rw[ei,cX];exact hF _ hst.hF
     ·simp only;rw[cA _ _ ei];exact ih i hi
theorem sM.ends {n m b Q N' N K:Nat} {E:Nat→Nat→Rat} {w:Nat→Nat→Rat} {F:Nat→Prop} {rows:List Nat} {ok:Tab→Nat→Prop} (R:sM n m b Q N' N w F rows ok) {t:Tab} (h:Inv n m b N K E rows t):
  ∃e,nx N' b rows ok (orb (nx N' b rows ok) t e)=none∧(∀e',e'<e→(nx N' b rows ok (orb (nx N' b rows ok) t e')).isSome=true)∧ ∀e',e'≤e→Inv n m b N K E rows (orb (nx N' b rows ok) t e'):=by
 have hinv: ∀e,Inv n m b N K E rows (orb (nx N' b rows ok) t e):=by
  intro e
  induction e with
  | zero => exact h
  | succ e ih =>
    rw[orb]
    cases hs:nx N' b rows ok (orb (nx N' b rows ok) t e) with
    | none=>exact ih
    | some p=>
      obtain⟨g1,g2⟩:=nO.1 hs
      exact(R.step ih g1 g2).2.1
 rcases Classical.em (∃e,nx N' b rows ok (orb (nx N' b rows ok) t e)=none) with ⟨e,he⟩| hno
 ·have least: ∀e,nx N' b rows ok (orb (nx N' b rows ok) t e)=none→ ∃e,nx N' b rows ok (orb (nx N' b rows ok) t e)=none∧ ∀e',e'<e→(nx N' b rows ok (orb (nx N' b rows ok) t e')).isSome=true:=by
   intro e
   induction e using Nat.strongRecOn with
   | ind e ih =>
     intro h
     rcases Classical.em (∃e',e'<e∧nx N' b rows ok (orb (nx N' b rows ok) t e')=none) with ⟨e',h1,h2⟩| h2
     ·exact ih e' h1 h2
     ·refine⟨e,h,fun e' he'=> ?_⟩
      cases hh:nx N' b rows ok (orb (nx N' b rows ok) t e') with
      | none => exact absurd ⟨e', he', hh⟩ h2
      | some p => rfl
  obtain⟨e,h1,h2⟩:=least e he
  exact⟨e,h1,h2,fun e' _=>hinv e'⟩
 ·exfalso
  have xZ: ∀e,∃p,nx N' b rows ok (orb (nx N' b rows ok) t e)=some p:=fun e=>by
   cases hh:nx N' b rows ok (orb (nx N' b rows ok) t e) with
   | none => exact absurd ⟨e, hh⟩ hno
   | some p => exact ⟨p, rfl⟩
  obtain⟨a,c,h1,h2,h3⟩:=O5 (allL N m) (fun e=>(List.range m).map (orb (nx N' b rows ok) t e).bs) fun e _=>J4 N _ m (hinv e).z.bs
  have heq: ∀i,i<m→(orb (nx N' b rows ok) t a).bs i=(orb (nx N' b rows ok) t c).bs i:=fun i hi=>by
   have:=congrArg (fun l=>l[i]?) h3
   simpa [hi] using this
  let p:Nat→Nat×Nat:=fun e=>(nx N' b rows ok (orb (nx N' b rows ok) t e)).getD (0,0)
  have hp: ∀e,nx N' b rows ok (orb (nx N' b rows ok) t e)=some ((p e).1,(p e).2):=fun e=>by obtain⟨q,hq⟩:=xZ e;simp[p,hq]
  refine aC2 (m:=m) (b:=b) (Q:=Q) (L:=c - a) (E:=E) (w:=w) (F:=F) (t:=fun e=>orb (nx N' b rows ok) t (a+e)) (r:=fun e=>(p (a+e)).1) (k:=fun e=>(p (a+e)).2) (fun e _=>(hinv _).z.ti) (fun e _=>(hinv _).nn)
   (fun e _=> ?_) (fun e _=> ?_) (by omega) (fun i hi=> ?_)
  ·obtain⟨g1,g2⟩:=nO.1 (hp (a+e))
   exact(R.step (hinv _) g1 g2).1
  ·show orb (nx N' b rows ok) t (a+e+1)=_
   rw[orb,hp]
  ·simp only[Nat.add_zero]
   rw[show a+(c - a)=c by omega]
   exact heq i hi

structure Init (n m K : Nat) (E : Nat → Nat → Rat) : Prop where
 ints:aEK m (n+m+1) K E
 art: ∀i j,i<m→j<m→E i (n+j)=if i=j then 1 else 0
 nn: ∀i,i<m→0≤E i (n+m)
def lP (n:Nat) (E:Nat→Nat→Rat):Tab:=⟨E,fun i=>n+i⟩
theorem Init.inv {n m K:Nat} {E:Nat→Nat→Rat} (h:Init n m K E):Inv n m (n+m) (n+m+1) K E (List.range m) (lP n E):=by
 refine⟨⟨⟨fun i hi=>⟨fun l=>if l=i then 1 else 0,fun c=> ?_⟩,fun l hl c=> ?_,fun i j hi hj=> ?_⟩,h.ints,fun i hi=> ?_,?_⟩,h.nn,fun i hi=>by simpa using hi,fun i hi hn=>absurd (by simpa using hi) hn,fun i hi=>by show n+i<_;omega⟩
 ·rw[cK hi]
  ·simp[lP]
  ·intro j _ hne;show(if j=i then(1:Rat) else 0)*E j c=0;rw[if_neg hne];grind
 ·show E l c=S m fun i=>E i c*E l (n+i)
  rw[cK hl,h.art l l hl hl,if_pos rfl]
  ·grind
  ·intro j hj hne;rw[h.art l j hl hj,if_neg (Ne.symm hne)];grind
 ·exact h.art i j hi hj
 ·show n+i<_
  omega
 ·show det m (fun j i=>E i (n+j))≠0
  rw[R9 m _ fun j i hj hi=>by rw[h.art i j hi hj];by_cases e:j=i
                              ·rw[if_pos e,if_pos e.symm]
                              ·rw[if_neg e,if_neg (Ne.symm e)]]
  decide
theorem aFM {v:Nat→Rat} :fM 1 v ↔ 0<v 0:=by
 constructor
 ·rintro⟨q,h1,h2,_⟩
  obtain rfl:q=0:=by omega
  exact h2
 ·exact fun h=>⟨0,by omega,h,fun j hj=>by omega⟩
def okW (m:Nat) (w:Nat→Rat) (F:Nat→Prop) (t:Tab) (c:Nat):Prop:=F c∧0<rc m w t c
theorem Ge {n m b N' N:Nat} {w:Nat→Rat} {F:Nat→Prop} {rows:List Nat} (hF: ∀c,F c→c<N') (hN:N'≤N) (hB:N'≤b) (hf:(∀c,F c→c<n)∨ ∀i,i<m→i∈rows):sM n m b 1 N' N (fun _=>w) F rows (okW m w F):=
 ⟨fun t c _=>by unfold okW;rw[aFM],hF,hN,hB,hf⟩
theorem xD {n m N K:Nat} {E:Nat→Nat→Rat} {t:Tab} (h:Inv n m (n+m) N K E (List.range m) t) {k:Nat} (hk:0<rc m (cL n m) t k):leave t (n+m) k (List.range m)≠none:=by
 intro hl
 have h1:=(jH t (n+m) k (List.range m)).1 hl
 have h2:0≤S m fun i=>t.X i k*cL n m (t.bs i):=gE fun i hi=>by
  have:=h1 i (by simpa using hi)
  unfold cL;split<;>grind
 have h3:cL n m k≤0:=by unfold cL;split<;>decide
 unfold rc at hk
 grind
structure lV (n m N K : Nat) (E : Nat → Nat → Rat) (t : Tab) : Prop where
 inv:Inv n m (n+m) N K E (List.range m) t
 up: ∀c,c<n→rc m (cL n m) t c≤0
theorem lV.sum {n m N K:Nat} {E:Nat→Nat→Rat} {t:Tab} (h:lV n m N K E t):0≤rc m (cL n m) t (n+m):=by
 rw[sP rfl]
 exact gE fun i hi=>by
  split
  ·exact h.inv.nn i hi
  ·exact Rat.le_refl
theorem lV.no {n m N K:Nat} {E:Nat→Nat→Rat} {t:Tab} (h:lV n m N K E t) (hp:rc m (cL n m) t (n+m)≠0) (x:Nat→Rat): ¬ gP n m E (n+m) x:=
 Ao rfl h.inv.z.ti h.inv.nn h.up (by have:=h.sum;grind) x
theorem lV.zero {n m N K:Nat} {E:Nat→Nat→Rat} {t:Tab} (h:lV n m N K E t) (hp:rc m (cL n m) t (n+m)=0): ∀i,i<m→ ¬ t.bs i<n→t.X i (n+m)=0:=Ct rfl h.inv.nn hp h.inv.lt
theorem lV.Fc {n m N K:Nat} {E:Nat→Nat→Rat} {t:Tab} (h:lV n m N K E t) (hp:rc m (cL n m) t (n+m)=0):gP n m E (n+m) (xb m (n+m) t):=uG h.inv.z.ti h.inv.nn (h.zero hp)
theorem vR {n m N' K:Nat} {E:Nat→Nat→Rat} {F:Nat→Prop} (h:Init n m K E) (hF: ∀c,F c→c<N') (hN:N'≤n+m) (hFn: ∀c,c<n→c<N'∧F c):
  ∃e,fstP (okW m (cL n m) F (orb (nx N' (n+m) (List.range m) (okW m (cL n m) F)) (lP n E) e)) N'=none∧
   (∀e',e'<e→(nx N' (n+m) (List.range m) (okW m (cL n m) F) (orb (nx N' (n+m) (List.range m) (okW m (cL n m) F)) (lP n E) e')).isSome=true)∧
   (∀e',e'≤e→Inv n m (n+m) (n+m+1) K E (List.range m) (orb (nx N' (n+m) (List.range m) (okW m (cL n m) F)) (lP n E) e'))∧lV n m (n+m+1) K E (orb (nx N' (n+m) (List.range m) (okW m (cL n m) F)) (lP n E) e):=by
 have R:sM n m (n+m) 1 N' (n+m+1) (fun _=>cL n m) F (List.range m) (okW m (cL n m) F):=Ge hF (by omega) hN (.inr fun i hi=>by simpa using hi)
 obtain⟨e,h1,h2,h3⟩:=R.ends h.inv
 have hI:=h3 e (Nat.le_refl _)
 have hf:fstP (okW m (cL n m) F (orb (nx N' (n+m) (List.range m) (okW m (cL n m) F)) (lP n E) e)) N'=none:=by
  rcases W7 h1 with g | ⟨k,g1,g2⟩
  ·exact g
  ·exact absurd g2 (xD hI (dM.1 g1).2.1.2)
 refine⟨e,hf,h2,h3,hI,fun c hc=> ?_⟩
 have:=dW.1 hf c (hFn c hc).1
 unfold okW at this
 rcases eD (rc m (cL n m) (orb (nx N' (n+m) (List.range m) (okW m (cL n m) F)) (lP n E) e) c) 0 with g | g
 ·exact g
 ·exact absurd ⟨(hFn c hc).2,g⟩ this
noncomputable def uP (n : Nat) (t : Tab) (i : Nat) : Tab := if t.bs i < n then t else match fstP (fun k => t.X i k ≠ 0) n with
 | some k => piv t i k
 | none => t
noncomputable def kicks (n : Nat) (t : Tab) : Nat → Tab
 | 0 => t
 | i + 1 => uP n (kicks n t i) i
structure xW (n m N K : Nat) (E : Nat → Nat → Rat) (i : Nat) (t : Tab) : Prop where
 z:TZ m N K E t
 nn: ∀i,i<m→0≤t.X i (n+m)
 zero: ∀j,j<m→ ¬ t.bs j<n→t.X j (n+m)=0
 done: ∀j,j<i→ ¬ t.bs j<n→ ∀c,c<n→t.X j c=0
 lt: ∀j,j<m→t.bs j<n+m
theorem xW.next {n m N K:Nat} {E:Nat→Nat→Rat} {i:Nat} {t:Tab} (h:xW n m N K E i t) (hi:i<m) (hN:n≤N):xW n m N K E (i+1) (uP n t i):=by
 unfold uP
 by_cases hb:t.bs i<n
 ·rw[if_pos hb]
  refine⟨h.z,h.nn,h.zero,fun j hj hn=> ?_,h.lt⟩
  by_cases e:j=i
  ·subst e;exact absurd hb hn
  ·exact h.done j (by omega) hn
 ·rw[if_neg hb]
  have hz:=h.zero i hi hb
  cases hk:fstP (fun k=>t.X i k≠0) n with
  | none =>
    refine⟨h.z,h.nn,h.zero,fun j hj hn c hc=> ?_,h.lt⟩
    by_cases e:j=i
    ·subst e
     have:=dW.1 hk c hc
     exact Classical.not_not.1 this
    ·exact h.done j (by omega) hn c hc
  | some k =>
    obtain⟨k1,k2,_⟩:=dM.1 hk
    have Zz: ∀j,j<m→(piv t i k).X j (n+m)=t.X j (n+m):=fun j hj=>by
     by_cases e:j=i
     ·subst e;rw[qS,hz];grind
     ·rw[lL _ _ _ e,hz];grind
    refine⟨h.z.piv hi (by omega) k2,fun j hj=>by rw[Zz j hj];exact h.nn j hj,fun j hj hn=> ?_,fun j hj hn c hc=> ?_,fun j hj=> ?_⟩
    ·rw[Zz j hj]
     by_cases e:j=i
     ·subst e;exact hz
     ·rw[cA _ _ e] at hn;exact h.zero j hj hn
    ·by_cases e:j=i
     ·subst e;rw[cX] at hn;exact absurd k1 hn
     ·rw[cA _ _ e] at hn
      rw[lL _ _ _ e,h.done j (by omega) hn c hc,h.done j (by omega) hn k k1];grind
    ·by_cases e:j=i
     ·subst e;rw[cX];omega
     ·rw[cA _ _ e];exact h.lt j hj
theorem kS {n m N K:Nat} {E:Nat→Nat→Rat} {t:Tab} (h:xW n m N K E 0 t) (hN:n≤N): ∀i,i≤m→xW n m N K E i (kicks n t i)
 | 0, _ => h
 | i + 1, hi => (kS h hN i (by omega)).next (by omega) hN
theorem lV.uP {n m N K:Nat} {E:Nat→Nat→Rat} {t:Tab} (h:lV n m N K E t) (hp:rc m (cL n m) t (n+m)=0):xW n m N K E 0 t:=⟨h.inv.z,h.inv.nn,h.zero hp,(fun j hj=>by omega),h.inv.lt⟩
def bE (n:Nat) (t:Tab) (i:Nat):List Nat:=(List.range i).filter fun i=>t.bs i<n
theorem rG {n:Nat} {t:Tab} {i j:Nat} :j∈bE n t i ↔ j<i∧t.bs j<n:=by unfold bE;simp
theorem xW.inv {n m N K:Nat} {E:Nat→Nat→Rat} {t:Tab} (h:xW n m N K E m t):Inv n m (n+m) N K E (bE n t m) t:=
 ⟨h.z,h.nn,fun i hi=>(rG.1 hi).1,fun i hi hn=>by
   have hb: ¬ t.bs i<n:=fun hb=>hn (rG.2 ⟨hi,hb⟩)
   exact⟨by omega,h.zero i hi hb,h.done i hi hb⟩,h.lt⟩
def okL (m n:Nat) (C:Nat→Rat) (t:Tab) (c:Nat):Prop:=fM (n+1) fun q=>rc m (wl C q) t c
theorem aA1 {n m b N:Nat} {C:Nat→Rat} {rows:List Nat} (hN:n≤N) (hB:n≤b):sM n m b (n+1) n N (wl C) (fun c=>c<n) rows (okL m n C):=
 ⟨fun t c hc=>by unfold okL;exact⟨fun h=>⟨hc,h⟩,fun h=>h.2⟩,fun c h=>h,hN,hB,.inl fun c h=>h⟩
theorem Inv.zero {n m b N K:Nat} {E:Nat→Nat→Rat} {rows:List Nat} {t:Tab} (h:Inv n m b N K E rows t) (hl: ∀i,i∈rows→t.bs i<n): ∀i,i<m→ ¬ t.bs i<n→t.X i b=0:=fun i hi hb=>(h.dead i hi fun hm=>hb (hl i hm)).2.1
theorem oH {n m b N K:Nat} {E:Nat→Nat→Rat} {rows:List Nat} {t:Tab} (h:Inv n m b N K E rows t) {k:Nat} (hk:k<n) (hl:leave t b k rows=none): ∀i,i<m→t.X i k≤0:=fun i hi=>by
 rcases Classical.em (i∈rows) with g | g
 ·have:=(jH t b k rows).1 hl i g;grind
 ·rw[(h.dead i hi g).2.2 k hk];exact Rat.le_refl
theorem sV {n m b N K:Nat} {E:Nat→Nat→Rat} {rows:List Nat} {t:Tab} {C:Nat→Rat} (h:Inv n m b N K E rows t) (A1: ∀i,i∈rows→t.bs i<n) {k:Nat} (hk:k<n) (hl:leave t b k rows=none) (hp:0<rc m C t k):Unb n m E b C:=
 Jw h.z.ti hk (oH h hk hl) (fun i hi hb=>(h.dead i hi fun hm=>hb (A1 i hm)).2.2 k hk) hp
theorem tA {n m b N K:Nat} {E:Nat→Nat→Rat} {rows:List Nat} {t:Tab} (h:Inv n m b N K E rows t) {k q:Nat} (C:Nat→Rat) (hk:k<n) (hp:0<rc m (wl C (q+1)) t k):leave t b k rows≠none:=by
 intro hl
 have h1:=oH h hk hl
 have h2:0≤S m fun i=>t.X i k*wl C (q+1) (t.bs i):=gE fun i hi=>by
  have:=h1 i hi
  unfold wl;simp only;split<;>grind
 have h3:wl C (q+1) k≤0:=by unfold wl;simp only;split<;>decide
 unfold rc at hp
 grind
theorem Q9 {n m b N K:Nat} {E:Nat→Nat→Rat} {rows:List Nat} {t:Tab} {C:Nat→Rat} (h:Inv n m b N K E rows t) (A1: ∀i,i∈rows→t.bs i<n) (he:nx n b rows (okL m n C) t=none):
  (fstP (okL m n C t) n=none∧rH n m E b C (xb m b t))∨((∃k,fstP (okL m n C t) n=some k∧leave t b k rows=none)∧Unb n m E b C):=by
 rcases W7 he with g | ⟨k,g1,g2⟩
 ·exact .inl ⟨g,Ht h.z.ti h.nn (h.zero A1) fun c hc=>dW.1 g c hc⟩
 ·obtain⟨k1,⟨q,q1,q2,q3⟩,_⟩:=dM.1 g1
  refine .inr ⟨⟨k,g1,g2⟩,sV h A1 k1 g2 ?_⟩
  cases q with
  | zero => exact q2
  | succ q => exact absurd g2 (tA h C k1 q2)
structure Sel (n m b : Nat) (E : Nat → Nat → Rat) (C : Nat → Rat) (q : Nat) (F : Nat → Prop) : Prop where
 Ey: ∀x y,gP n m E b x→gP n m E b y→xY n F x→ ¬ fM q fun q=>dot n (wl C q) y - dot n (wl C q) x
 same: ∀x y,gP n m E b x→gP n m E b y→xY n F x→(xY n F y ↔ uH q fun q=>dot n (wl C q) y - dot n (wl C q) x)
theorem Sel.start {n m b:Nat} {E:Nat→Nat→Rat} {C:Nat→Rat} {F:Nat→Prop} (hF: ∀c,c<n→F c):Sel n m b E C 0 F:=
 ⟨fun x y _ _ _ ⟨q,hq,_⟩=>by omega,fun x y _ _ _=>⟨fun _ q hq=>by omega,fun _ c hc hn=>absurd (hF c hc) hn⟩⟩
theorem Sel.next {n m b:Nat} {E:Nat→Nat→Rat} {C:Nat→Rat} {q:Nat} {F F':Nat→Prop} {t:Tab} (h:Sel n m b E C q F) (hr:Round n m b E (wl C q) F F' t):Sel n m b E C (q+1) F':=by
 have kZ: ∀x,xY n F' x→xY n F x:=fun x ho c hc hn=>ho c hc fun hF'=>hn ((hr.fU c hc).1 hF').1
 refine⟨fun x y hx hy ho hp=> ?_,fun x y hx hy ho=> ?_⟩
 ·obtain⟨p,p1,p2,p3⟩:=hp
  have hox:=kZ x ho
  by_cases e:p=q
  ·subst e
   have hyo:=(h.same x y hx hy hox).2 fun j hj=>p3 j hj
   have h1:=(mJ hr hx hox).2.2 ho
   have h2:=(mJ hr hy hyo).1
   simp only at p2
   grind
  ·exact h.Ey x y hx hy hox ⟨p,by omega,p2,p3⟩
 ·have hox:=kZ x ho
  have h1:=(mJ hr hx hox).2.2 ho
  constructor
  ·intro hoy j hj
   have aDP:=kZ y hoy
   by_cases e:j=q
   ·subst e
    have h2:=(mJ hr hy aDP).2.2 hoy
    simp only;grind
   ·exact(h.same x y hx hy hox).1 aDP j (by omega)
  ·intro hz
   have hyo:=(h.same x y hx hy hox).2 fun j hj=>hz j (by omega)
   have:=hz q (by omega)
   simp only at this
   exact(mJ hr hy hyo).2.1 (by grind)
theorem Sel.done {n m b:Nat} {E:Nat→Nat→Rat} {C x:Nat→Rat} {F:Nat→Prop} (h:Sel n m b E C (n+1) F) (hx:gP n m E b x) (ho:xY n F x):rH n m E b C x:=⟨hx,fun y hy=>h.Ey x y hx hy ho⟩
def Fn (m:Nat) (w:Nat→Rat) (F:Nat→Prop) (t:Tab) (c:Nat):Prop:=F c∧rc m w t c=0
theorem Ac {n m b N K N':Nat} {E:Nat→Nat→Rat} {rows:List Nat} {t:Tab} {w:Nat→Rat} {F:Nat→Prop} (h:Inv n m b N K E rows t) (A1: ∀i,i∈rows→t.bs i<n) (Ik: ∀i,i∈rows→F (t.bs i)) (hN:n≤N') (hf:fstP (okW m w F t) N'=none):Round n m b E w F (Fn m w F t) t:=
 ⟨h.z.ti,h.nn,h.zero A1,fun i hi hb=>by
   rcases Classical.em (i∈rows) with g | g
   ·exact Ik i g
   ·have:=(h.dead i hi g).1;omega,fun c hc hF=>by
   have:=dW.1 hf c (by omega)
   unfold okW at this
   rcases eD (rc m w t c) 0 with g | g
   ·exact g
   ·exact absurd ⟨hF,g⟩ this,fun c hc=>Iff.rfl⟩
structure Mid (n m K : Nat) (E : Nat → Nat → Rat) (rows : List Nat) (F : Nat → Prop) (t : Tab) : Prop where
 inv:Inv n m (n+m) (n+m+1) K E rows t
 low: ∀i,i∈rows→t.bs i<n
 bas: ∀i,i∈rows→F (t.bs i)
 lt: ∀c,F c→c<n
theorem Mid.step {n m K:Nat} {E:Nat→Nat→Rat} {rows:List Nat} {F:Nat→Prop} {t:Tab} {w:Nat→Rat} (h:Mid n m K E rows F t) {r k:Nat} (hs:nx (n+m) (n+m) rows (okW m w F) t=some (r,k)):Mid n m K E rows F (piv t r k):=by
 obtain⟨g1,g2⟩:=nO.1 hs
 have R:sM n m (n+m) 1 (n+m) (n+m+1) (fun _=>w) F rows (okW m w F):=Ge (fun c hc=>by have:=h.lt c hc;omega) (by omega) (Nat.le_refl _) (.inl h.lt)
 have h1:=(R.step h.inv g1 g2).2.1
 have hF:=(dM.1 g1).2.1.1
 refine⟨h1,fun i hi=> ?_,fun i hi=> ?_,h.lt⟩
 ·by_cases e:i=r
  ·rw[e,cX];exact h.lt k hF
  ·rw[cA _ _ e];exact h.low i hi
 ·by_cases e:i=r
  ·rw[e,cX];exact hF
  ·rw[cA _ _ e];exact h.bas i hi
theorem Mid.ends {n m K:Nat} {E:Nat→Nat→Rat} {rows:List Nat} {F:Nat→Prop} {t:Tab} (w:Nat→Rat) (h:Mid n m K E rows F t):
  ∃e,nx (n+m) (n+m) rows (okW m w F) (orb (nx (n+m) (n+m) rows (okW m w F)) t e)=none∧
   (∀e',e'<e→(nx (n+m) (n+m) rows (okW m w F) (orb (nx (n+m) (n+m) rows (okW m w F)) t e')).isSome=true)∧
   ∀e',e'≤e→Mid n m K E rows F (orb (nx (n+m) (n+m) rows (okW m w F)) t e'):=by
 have R:sM n m (n+m) 1 (n+m) (n+m+1) (fun _=>w) F rows (okW m w F):=Ge (fun c hc=>by have:=h.lt c hc;omega) (by omega) (Nat.le_refl _) (.inl h.lt)
 obtain⟨e,h1,h2,h3⟩:=R.ends h.inv
 refine⟨e,h1,h2,fun e' he'=> ?_⟩
 induction e' with
 | zero => exact h
 | succ e' ih =>
   have hm:=ih (by omega)
   rw[orb]
   cases hs:nx (n+m) (n+m) rows (okW m w F) (orb (nx (n+m) (n+m) rows (okW m w F)) t e') with
   | none=>exact hm
   | some p=>exact hm.step hs
theorem Mid.next {n m K:Nat} {E:Nat→Nat→Rat} {rows:List Nat} {F:Nat→Prop} {t:Tab} {w:Nat→Rat} (h:Mid n m K E rows F t):Mid n m K E rows (Fn m w F t) t:=
 ⟨h.inv,h.low,fun i hi=>⟨h.bas i hi,mC h.inv.z.ti _ (h.inv.sub i hi)⟩,fun c hc=>h.lt c hc.1⟩
theorem Mid.Fc {n m K:Nat} {E:Nat→Nat→Rat} {rows:List Nat} {F:Nat→Prop} {t:Tab} (h:Mid n m K E rows F t):gP n m E (n+m) (xb m (n+m) t)∧xY n F (xb m (n+m) t):=by
 refine⟨uG h.inv.z.ti h.inv.nn (h.inv.zero h.low),fun c hc hn=> ?_⟩
 refine eN fun i hi=> ?_
 split
 ·rename_i e
  rcases Classical.em (i∈rows) with g | g
  ·exact absurd (e▸h.bas i g) hn
  ·exact(h.inv.dead i hi g).2.1
 ·rfl
end Go.Proofs.YticmgmemnpcbbaaGreat.Lp

namespace Go.Proofs.YticmgmemnpcbbaaGreat.Lp
set_option linter.unusedSimpArgs false
set_option linter.unusedVariables false
def sm (L:Nat) (q:Rat):Prop:= ∃a v:Int,v≠0∧q*v=a∧a.natAbs≤L∧v.natAbs≤L
theorem Ck {q:Rat} {a v:Int} (h:q*v=a):q.num*v=a*q.den:=by
 have h1:q*(q.den:Rat)=q.num:=by
  have h2:=Rat.mkRat_self q
  rw[Rat.mkRat_eq_div] at h2
  have h3:(q.den:Rat)≠0:=fun h=>q.den_nz (Rat.natCast_inj.1 h)
  grind
 have h2:((q.num*v:Int):Rat)=((a*q.den:Int):Rat):=by
  rw[Rat.intCast_mul,Rat.intCast_mul,←h,←h1,Rat.intCast_natCast]
  grind
 exact Rat.intCast_inj.1 h2
theorem wS {L:Nat} {q:Rat} (h:sm L q):q.num.natAbs≤L∧q.den≤L:=by
 obtain⟨a,v,hv,he,ha,hvl⟩:=h
 have hc:=congrArg Int.natAbs (Ck he)
 rw[Int.natAbs_mul,Int.natAbs_mul,Int.natAbs_natCast] at hc
 have hco:=q.reduced
 have hv0:0<v.natAbs:=Int.natAbs_pos.2 hv
 have h1:q.den∣v.natAbs:=by
  refine Nat.Coprime.dvd_of_dvd_mul_left (Nat.Coprime.symm hco) ⟨a.natAbs,?_⟩
  rw[hc,Nat.mul_comm]
 have h2:=Nat.le_of_dvd hv0 h1
 refine⟨?_,by omega⟩
 by_cases h0:a.natAbs=0
 ·rw[h0,Nat.zero_mul] at hc
  rcases Nat.mul_eq_zero.1 hc with g | g
  ·omega
  ·omega
 ·have h3:q.num.natAbs∣a.natAbs:=Nat.Coprime.dvd_of_dvd_mul_right hco ⟨v.natAbs,hc.symm⟩
  have:=Nat.le_of_dvd (by omega) h3
  omega
theorem nL {L M:Nat} {q:Rat} (h:sm L q) (hl:L≤M):sm M q:=by
 obtain⟨a,v,h1,h2,h3,h4⟩:=h
 exact⟨a,v,h1,h2,by omega,by omega⟩
theorem Qj {L M:Nat} {p q:Rat} (hp:sm L p) (hq:sm M q):sm (L*M) (p*q):=by
 obtain⟨a,v,h1,h2,h3,h4⟩:=hp
 obtain⟨b,w,g1,g2,g3,g4⟩:=hq
 refine⟨a*b,v*w,by simp[h1,g1],by rw[Rat.intCast_mul,Rat.intCast_mul,←h2,←g2];grind,?_,?_⟩
 ·rw[Int.natAbs_mul];exact Nat.mul_le_mul h3 g3
 ·rw[Int.natAbs_mul];exact Nat.mul_le_mul h4 g4
theorem Ss {L:Nat} {n:Int} (h:n.natAbs≤L) (hL:1≤L):sm L (n:Rat):=⟨n,1,by decide,by simp,h,by simpa using hL⟩
theorem nK {z:Int} {q:Rat} {L:Nat} (h:q=z) (hq: -(L:Rat)≤q∧q≤L):z.natAbs≤L:=by
 rw[h] at hq
 have h1: -(L:Int)≤z:=by
  have:=hq.1
  rw[←Rat.intCast_natCast,←Rat.intCast_neg] at this
  exact Rat.intCast_le_intCast.1 this
 have h2:z≤(L:Int):=by
  have:=hq.2
  rw[←Rat.intCast_natCast] at this
  exact Rat.intCast_le_intCast.1 this
 omega
theorem TZ.sm {m N K:Nat} {E:Nat→Nat→Rat} {t:Tab} (h:TZ m N K E t) {i c:Nat} (hi:i<m) (hc:c<N):Lp.sm (lid K m) (t.X i c):=by
 obtain⟨⟨a,ha⟩,hal⟩:=h.entry hi hc
 obtain⟨⟨v,hv⟩,hvl⟩:=h.nH
 have hne:=h.vol
 refine⟨a,v,fun e=>hne (by rw[hv,e];rfl),by rw[←hv,ha],nK ha hal,nK hv hvl⟩
theorem TZ.rc {m N K W:Nat} {E:Nat→Nat→Rat} {t:Tab} (h:TZ m N K E t) {w:Nat→Rat} (hw: ∀c,c<N→isInt (w c)∧ -(W:Rat)≤w c∧w c≤W) {c:Nat} (hc:c<N) (hW:1≤W):Lp.sm ((m+1)*(W*lid K m)) (Lp.rc m w t c):=by
 obtain⟨hvi,hvl⟩:=h.nH
 obtain⟨v,hv⟩:=hvi
 have hne:=h.vol
 have e:Lp.rc m w t c*Lp.vol m E t=w c*Lp.vol m E t - S m fun i=>w (t.bs i)*(t.X i c*Lp.vol m E t):=by
  unfold Lp.rc
  rw[show(S m fun i=>w (t.bs i)*(t.X i c*Lp.vol m E t))=(S m fun i=>t.X i c*w (t.bs i))*Lp.vol m E t by rw[←kK];exact aM fun i _=>by grind]
  grind
 have hint:isInt (Lp.rc m w t c*Lp.vol m E t):=by
  rw[e]
  exact Au (nW (hw c hc).1 h.nH.1) (zL fun i hi=>nW (hw _ (h.bs i hi)).1 (h.entry hi hc).1)
 have b1:=zK (hw c hc).2 hvl
 have b2:=Ff (n:=m) (f:=fun i=>w (t.bs i)*(t.X i c*Lp.vol m E t)) (B:=(W:Rat)*lid K m) fun i hi=>zK (hw _ (h.bs i hi)).2 (h.entry hi hc).2
 have hB:(((m+1)*(W*lid K m):Nat):Rat)=(m:Rat)*((W:Rat)*lid K m)+(W:Rat)*lid K m:=by
  rw[Rat.natCast_mul,Rat.natCast_mul,Rat.natCast_add]
  grind
 obtain⟨a,ha⟩:=hint
 refine⟨a,v,fun e0=>hne (by rw[hv,e0];rfl),by rw[←hv,ha],nK ha ?_,?_⟩
 ·rw[hB,e]
  grind
 ·have h1:=nK hv hvl
  have:lid K m≤(m+1)*(W*lid K m):=by
   calc lid K m=1*(1*lid K m):=by omega
    _≤(m+1)*(W*lid K m):=Nat.mul_le_mul (by omega) (Nat.mul_le_mul hW (Nat.le_refl _))
  omega
theorem I0 {K:Nat} (hK:1≤K): ∀ {m k:Nat},m≤k→lid K m≤lid K k
 | m, 0, h => by rw [show m = 0 by omega]; exact Nat.le_refl _
 | m, k + 1, h => by
   by_cases e:m=k+1
   ·rw[e];exact Nat.le_refl _
   ·have ih:=I0 hK (m:=m) (k:=k) (by omega)
    have:1*(1*lid K k)≤(k+1)*(K*lid K k):=Nat.mul_le_mul (by omega) (Nat.mul_le_mul hK (Nat.le_refl _))
    rw[lid];omega
def top :Nat:=lid 1000 17
theorem Tw :top≤10^66:=by decide+kernel
theorem mW {m:Nat} (h:m≤17):lid 1000 m≤10^66:=Nat.le_trans (I0 (by omega) h) Tw
end Go.Proofs.YticmgmemnpcbbaaGreat.Lp

namespace Go.Proofs.YticmgmemnpcbbaaGreat.Vm
open Go Go.RowKit Go.Proofs
set_option linter.unusedSimpArgs false
set_option linter.unusedVariables false
theorem O0 (x y q:Int) (h:x=q*y) (hy:0<y) (hx:(lim x.natAbs).length≤300000) (hyl:(lim y.natAbs).length≤300000):RO Tryz.prog 282 [.agg (biC x),.agg (biC y)] (.agg (biC q)):=by
 have hq:sg (decide (x<0) !=decide (y<0)) (x.natAbs / y.natAbs)=q:=by
  have e1:x.natAbs=q.natAbs*y.natAbs:=by rw[h,Int.natAbs_mul]
  have e2:x.natAbs / y.natAbs=q.natAbs:=by rw[e1];exact Nat.mul_div_cancel _ (by omega)
  have e3:decide (y<0)=false:=decide_eq_false (by omega)
  have e4:decide (x<0)=decide (q<0):=decide_eq_decide.2 (by
   rw[h]
   constructor
   ·intro hh
    rcases Int.lt_or_le q 0 with g | g
    ·exact g
    ·have:=Int.mul_nonneg g (Int.le_of_lt hy);omega
   ·intro hh;exact Int.mul_neg_of_neg_of_pos hh hy)
  rw[e2,e3,e4,Bool.bne_false]
  exact Kn q
 refine aK Tryz.func282 rfl rfl (by rw[Tryz.ntmps282];simp) fun bl=> ?_
 rw[Tryz.ntmps282,Tryz.results282]
 refine aE ?_
 rw[show biC x= [.bool (decide (x<0)),.sl (iv (lim x.natAbs))] from rfl,show biC y= [.bool (decide (y<0)),.sl (iv (lim y.natAbs))] from rfl]
 simp
 intro g hg0 hg g2 hg2 h2g hb2 g3 hg3 h32 h3g hb3
 refine aE ?_
 simp[h2g,Ne.symm h2g,h32,Ne.symm h32,h3g,Ne.symm h3g]
 refine aD (uC _ _ (by omega) hx hyl) ?_
 simp[h2g,Ne.symm h2g,h32,Ne.symm h32,h3g,Ne.symm h3g]
 refine aE ?_
 simp[h2g,Ne.symm h2g,h32,Ne.symm h32,h3g,Ne.symm h3g]
 refine aD (eC _ _) ?_
 simp[h2g,Ne.symm h2g,h32,Ne.symm h32,h3g,Ne.symm h3g]
 rw[hq]
 refine aC ?_
 simp[h2g,Ne.symm h2g,h32,Ne.symm h32,h3g,Ne.symm h3g]
 exact aQ [.agg (biC q)] 1 (by simp[biC,h2g,Ne.symm h2g,h32,Ne.symm h32,h3g,Ne.symm h3g]) lE (by simp[hg,hb2,hb3])
end Go.Proofs.YticmgmemnpcbbaaGreat.Vm
