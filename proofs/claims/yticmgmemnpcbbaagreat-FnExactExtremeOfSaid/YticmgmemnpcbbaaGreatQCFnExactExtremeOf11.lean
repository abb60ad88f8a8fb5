/- FnExactExtremeOf: for every structure and list of numbers and number and choice the program's ExtremeOf returns what the reference's returns; no condition. -/



import Derived.Test.YticmgmemnpcbbaaGreatQCFnExactExtremeOf10

namespace Go.Proofs.YticmgmemnpcbbaaGreat.Vm
open Go Go.Proofs
set_option linter.unusedSimpArgs false
set_option linter.unusedVariables false
theorem law_ExtremeOf_ro (s:Str) (l:List Int) (k:Int) (t:Bool) (hs:s.sz) (hl:l.length≤140737488351232) (hk: -9223372036854775808≤k∧k≤9223372036854775807) (ht:t=t):RO Tryz.prog 13 [.agg s.c,.sl (iv l),.int .i64 k,.bool t] (.bool true):=by
 refine aI Tryz.func13 rfl rfl (by rw[Tryz.ntmps13];simp) fun bl=> ?_
 rw[Tryz.ntmps13,Tryz.results13]
 refine aC ?_
 simp[Str.c]
 intro gx0 aMQ aNP
 have kp:=Ya (bl:=bl) aNP (some ⟨2,[[.sl (jv s.js),.sl (mv s.ms)]]⟩)
 have eR:upd bl gx0 (some ⟨2,[[.sl (jv s.js),.sl (mv s.ms)]]⟩) gx0=some ⟨2,[[.sl (jv s.js),.sl (mv s.ms)]]⟩:=by simp
 have sb1:Sub bl (upd bl gx0 (some ⟨2,[[.sl (jv s.js),.sl (mv s.ms)]]⟩)):=fun x y hx=>kp x y ((Sub.refl _) x y hx)
 generalize upd bl gx0 (some ⟨2,[[.sl (jv s.js),.sl (mv s.ms)]]⟩)=b1 at *
 clear kp
 refine⟨fun h=> ?_,fun hl1=> ?_⟩
 ·exact aK [_] 0 rfl rfl sb1
 have hl2:l.length≤1048576:=by omega
 refine aD (B5 s _ (by omega) hs.js hs.ms hs.nm) ?_
 try simp[eR]
 refine⟨fun h=> ?_,fun hzs=> ?_⟩
 ·exact aK [_] 0 rfl rfl sb1
 obtain⟨l1s,l2s,l3s⟩:=Nk (s:=s) (left:=1048576) (by omega) (by omega)
 have aXF: -1≤(tX s 1048576)∧(tX s 1048576)≤1048576:=by omega
 have jss:s.js.length≤1048576:=by omega
 have mss:s.ms.length≤1048576:=by omega
 have ts:=C9 s jss mss
 have tl:=Jc l hl2
 have hS:=vG s l k t ⟨hs.js,hs.ms,hs.nm⟩ (by omega)
 have hI:=mV s l k t ⟨hs.js,hs.ms,hs.nm⟩ (by omega)
 have hJ:=vF s l k t ⟨hs.js,hs.ms,hs.nm⟩ (by omega)
 have wl:=Xj (Q8 s l k t).1 (by have:=(Q8 s l k t).2;omega)
 generalize cP (pI s l k t)=ob at hS hI hJ
 generalize stQ (pI s l k t)=w at hS hI hJ wl
 obtain⟨wq,ws⟩:=wl
 have we:=Mj w wq
 refine aD ts ?_
 try simp[eR]
 refine aD tl ?_
 try simp[eR]
 refine aD hS ?_
 try simp[eR]
 refine cQ (zP s jss mss) fun va0 ga0 cb0 ot fa0 aLP=> ?_
 obtain⟨Ny,Si,rfl,oa0,c1,c2,c3,c4⟩:=Wz ot
 clear ot
 have Mf:gx0∉ga0:=fun hh=>by have hz:=fa0 _ hh;rw[eR] at hz;cases hz
 have aBT: ∀x,x∈ga0→bl x=none:=fun x hx=>aR sb1 (fa0 x hx)
 have eR:=bJ fa0 aLP eR
 have aS6:Sub bl cb0:=fun x y hx=>bJ fa0 aLP (sb1 x y hx)
 try simp[eR,c1,c2,c3,c4]
 intro gx1 aXQ Hk
 have L8:gx0≠gx1:=fun e=>by rw[←e,eR] at Hk;cases Hk
 try simp[L8,Ne.symm L8,eR]
 have kp:=Ya (bl:=cb0) Hk (some ⟨2,[[Ny,Si]]⟩)
 have iK:upd cb0 gx1 (some ⟨2,[[Ny,Si]]⟩) gx1=some ⟨2,[[Ny,Si]]⟩:=by simp
 have sb2:Sub bl (upd cb0 gx1 (some ⟨2,[[Ny,Si]]⟩)):=fun x y hx=>kp x y (aS6 x y hx)
 generalize upd cb0 gx1 (some ⟨2,[[Ny,Si]]⟩)=b2 at *
 have eR:=kp _ _ eR
 have Ja:gx1∉ga0:=oa0.not Hk
 have oa0:=oa0.cU (bl':=b2) fun x _ y hy=>kp x y hy
 clear kp
 try simp[eR,iK,c1,c2,c3,c4]
 refine cQ (Lj l hl2) fun va1 ga1 cb1 oa1 fa1 Wu=> ?_
 obtain⟨c1,c2⟩:=oa1.one
 have Jf:gx0∉ga1:=fun hh=>by have hz:=fa1 _ hh;rw[eR] at hz;cases hz
 have Li:gx1∉ga1:=fun hh=>by have hz:=fa1 _ hh;rw[iK] at hz;cases hz
 have M9: ∀x,x∈ga1→x∉ga0:=fun x hx=>oa0.not (fa1 x hx)
 have aB2: ∀x,x∈ga1→bl x=none:=fun x hx=>aR sb2 (fa1 x hx)
 have eR:=bJ fa1 Wu eR
 have iK:=bJ fa1 Wu iK
 have oa0:=oa0.cU (bl':=cb1) fun x _ y hy=>bJ fa1 Wu hy
 have aK5:Sub bl cb1:=fun x y hx=>bJ fa1 Wu (sb2 x y hx)
 try simp[eR,iK,c1,c2]
 refine Fo 3 (ys:= [.agg s.c,.sl (iv l),.int .i64 k,.bool t]) (by simp[Hy oa0 1,qC oa1 2];try simp[frz]) hI (aLK _ _) fun vr gr d0 oT fr0 Ol=> ?_
 obtain⟨w0,rfl,oR,p1,p2⟩:=No oT
 clear oT
 have Ok:gx0∉gr:=fun hh=>by have hz:=fr0 _ hh;rw[eR] at hz;cases hz
 have My:gx1∉gr:=fun hh=>by have hz:=fr0 _ hh;rw[iK] at hz;cases hz
 have As: ∀x,x∈gr→x∉ga0:=fun x hx=>oa0.not (fr0 x hx)
 have W5: ∀x,x∈gr→x∉ga1:=fun x hx=>oa1.not (fr0 x hx)
 have aPQ: ∀x,x∈gr→bl x=none:=fun x hx=>aR aK5 (fr0 x hx)
 have eR:=bJ fr0 Ol eR
 have iK:=bJ fr0 Ol iK
 have oa0:=oa0.cU (bl':=d0) fun x _ y hy=>bJ fr0 Ol hy
 have oa1:=oa1.cU (bl':=d0) fun x _ y hy=>bJ fr0 Ol hy
 have sd0:Sub bl d0:=fun x y hx=>bJ fr0 Ol (aK5 x y hx)
 try simp[eR,iK,p1,p2]
 refine bD [(4,.loc gx0 2 0 0),(1,.sl (iv l)),(2,.int .i64 k),(3,.bool t),(12,.loc gx1 2 0 0),(13,va1),(10,.sl (rv w)),(11,.bool ob),(14,w0),(15,.bool ob)] _ d0 59 (.bool false) ⟨rfl,by simp,Sub.refl _⟩ rfl ?_ ?_
 ·simp[eR,iK]
  refine aU 3 (ys:= [.sl (rv w),.sl (rv w)]) (by simp[U6 oR 1];simp[frz]) we rfl ?_
  simp
 try simp[eR,iK]
 refine bW aM (by kernel_rfl) ?_
 simp[eR,iK]
 refine aO ts ?_
 try simp
 refine aC4 3 (A7 s s hs.js hs.ms) (by simp[Hy oa0 1];simp[frz,Str.c,V.cl]) rfl ?_
 try simp[eR,iK]
 refine aD tl ?_
 try simp[eR,iK]
 refine aU 3 (ys:= [.sl (iv l),.sl (iv l)]) (by simp[qC oa1 2];simp[frz]) (wD l l hl) rfl ?_
 try simp[eR,iK]
 have bd0:(mkN 1 s)≤4611686018427387000:=by simp only[mkN];omega
 refine wU s 1 _ ga0 oa0 bd0 fun mb0 oa0 k0=> ?_
 have eR:=k0 gx0 Mf _ eR
 have iK:=k0 gx1 Ja _ iK
 have oa1:=oa1.cU (bl':=mb0) fun x hx y hy=>k0 x (M9 x hx) y hy
 have oR:=oR.cU (bl':=mb0) fun x hx y hy=>k0 x (As x hx) y hy
 have aVP:Sub bl mb0:=fun x y hx=>k0 x (fun h=>by rw[aBT x h] at hx;cases hx) y (sd0 x y hx)
 try simp[eR,iK]
 have bd1:((mkN 1 s)+l.length)≤4611686018427387000:=by simp only[mkN];omega
 refine Q5 l (mkN 1 s) _ ga1 oa1 bd1 fun mb1 oa1 k1=> ?_
 have eR:=k1 gx0 Jf _ eR
 have iK:=k1 gx1 Li _ iK
 have oa0:=oa0.cU (bl':=mb1) fun x hx y hy=>k1 x (fun hh=>M9 x hh hx) y hy
 have oR:=oR.cU (bl':=mb1) fun x hx y hy=>k1 x (W5 x hx) y hy
 have aS0:Sub bl mb1:=fun x y hx=>k1 x (fun h=>by rw[aB2 x h] at hx;cases hx) y (aVP x y hx)
 try simp[eR,iK]
 have hKN: ¬ ((((mkN 1 s):Nat):Int)+((l.length:Nat):Int)<0):=by omega
 refine bD [(4,.loc gx0 2 0 0),(1,.sl (iv l)),(2,.int .i64 k),(3,.bool t),(12,.loc gx1 2 0 0),(13,va1),(10,.sl (rv w)),(11,.bool ob),(14,w0),(15,.bool ob),(16,.int .i64 (((mkN 1 s)+l.length):Nat))] _ mb1 88 (.bool false) ⟨rfl,by simp,Sub.refl _⟩ rfl ?_ ?_
 ·simp[eR,iK,hKN]
  refine aU 3 (ys:= [.sl (rv w),.sl (rv w)]) (by simp[U6 oR 1];simp[frz]) we rfl ?_
  simp
 try simp[eR,iK]
 have bw:fL 1 w≤4611686018427387000:=by have:=wq.1;rw[lQ];omega
 refine Cj w 1 _ gr oR bw fun f0 oR kr=> ?_
 have eR:=kr gx0 Ok _ eR
 have iK:=kr gx1 My _ iK
 have oa0:=oa0.cU (bl':=f0) fun x hx y hy=>kr x (fun hh=>As x hh hx) y hy
 have oa1:=oa1.cU (bl':=f0) fun x hx y hy=>kr x (fun hh=>W5 x hh hx) y hy
 have sf0:Sub bl f0:=fun x y hx=>kr x (fun h=>by rw[aPQ x h] at hx;cases hx) y (aS0 x y hx)
 have hh:=X6 w 1 bw
 have cK: ¬ (fL 1 w:Int)<0:=by omega
 try simp[eR,iK,cK]
 refine aU 3 (ys:= [.sl (rv (mkQs 1 w)),.int .i64 1]) (by simp[U6 oR 1];simp[frz]) hh rfl ?_
 try simp[eR,iK,cK]
 refine aD ts ?_
 try simp[eR,iK]
 refine aD tl ?_
 try simp[eR,iK]
 refine aD hJ ?_
 try simp[eR,iK]
 refine bD [(4,.loc gx0 2 0 0),(1,.sl (iv l)),(2,.int .i64 k),(3,.bool t),(12,.loc gx1 2 0 0),(13,va1),(10,.sl (rv w)),(11,.bool ob),(14,w0),(15,.bool ob),(17,.int .i64 (fL 1 w:Nat)),(19,.sl (rv w)),(20,.bool ob)] _ f0 118 (.bool false) ⟨rfl,by simp,Sub.refl _⟩ rfl ?_ ?_
 ·simp[eR,iK,hKN]
  refine aD we ?_
  simp
 try simp[eR,iK]
 refine aU 3 (ys:= [.sl (rv (mkQs 1 w)),.int .i64 1]) (by simp[U6 oR 1];simp[frz]) hh rfl ?_
 try simp[eR,iK,cK]
 exact aK [_] 0 rfl rfl sf0
end Go.Proofs.YticmgmemnpcbbaaGreat.Vm

namespace Go.Proofs.YticmgmemnpcbbaaGreat.lawExtremeOf
open Go Go.RowKit Go.ChangeShapes Go.WideShapes Vm
theorem body (xs:List V) (h:sW Tryz.prog Tryz.f13.params.toList xs):RO Tryz.prog 13 xs (.bool true):=by
 rw[Tryz.params13] at h
 obtain⟨c0,ys,rfl,h0,h⟩:=rJ h
 obtain⟨c1,ys,rfl,h1,h⟩:=rJ h
 obtain⟨c2,ys,rfl,h2,h⟩:=rJ h
 obtain⟨c3,ys,rfl,h3,h⟩:=rJ h
 obtain rfl:=Rr h
 obtain⟨x0,rfl,y0⟩:=Ju h0
 obtain⟨x1,rfl,y1,z1⟩:=Qa h1
 obtain⟨x2,rfl,y2⟩:=tL Tryz.underlying3 h2
 obtain⟨x3,rfl⟩:=Iq Tryz.underlying4 h3
 rw[Fl Tryz.underlying71,Kh Tryz.underlying27,Wm Tryz.underlying3,Sn Tryz.underlying4]
 exact law_ExtremeOf_ro x0 x1 x2 x3 ⟨y0.js,y0.ms,y0.names⟩ (by omega) (wf_i64 y2) rfl
set_option maxRecDepth 100000 in
theorem lifted (os:Os) (started:os.Started) (H:Type) (enc:TypeId×Value→H):
  ReturnsInHanded {} Tryz.checked os 13 .any (Rows.fnExactExtremeOfSpec.pre6 enc Tryz.prog Tryz.f13 Rows.fnExactExtremeOfRow.domain false) (Rows.fnExactExtremeOfSpec.post enc Tryz.prog Tryz.f13 false true false false):=by
 refine returnsInHanded_of_change_sized (C:=Tryz.checked) own started (by kernel_rfl) Tryz.func13
  (ChangeSpec.witness6 (enc:=enc) (C:=Tryz.checked) false ⟨#[], #[.agg #[.slice none 0 0,.slice none 0 0],.slice none 0 0,.int .i64 0,.bool false],[]⟩ 8 (by kernel_rfl) (by kernel_rfl) (by kernel_rfl) (by kernel_rfl)) ?_
 intro W base args ds gs before Cu hW aYL hsz _
 refine law_calls (tb:=4) rfl rfl Tryz.underlying4 laidOut (by kernel_rfl) (fun ds hds=> ?_) body W base args ds gs before Cu hW hsz
 rw[Tryz.params13] at hds
 first
  | (match ds, hds with | [a], _ => rfl)
  | (match ds, hds with | [a, b], _ => rfl)
  | (match ds, hds with | [a, b, c], _ => rfl)
  | (match ds, hds with | [a, b, c, d], _ => rfl)
  | (match ds, hds with | [a, b, c, d, e], _ => rfl)
  | (match ds, hds with | [a, b, c, d, e, f], _ => rfl)
theorem nW :Rows.fnExactExtremeOfRow.holds Tryz.pinned (OpenSpec.ofChange Rows.fnExactExtremeOfSpec):=
 OpenClaim.holds_of_wide 13 Tryz.f13 rfl rfl rfl rfl rfl rfl rfl ⟨rfl,rfl,rfl,rfl,rfl⟩ rfl rfl rfl rfl rfl (by kernel_rfl) Tryz.func13 (facts (by kernel_rfl))
  (of_decide_eq_true (by kernel_rfl)) (by unfold Func.isWrapper;first | (rw[if_pos (by decide+kernel)];kernel_rfl)| (rw[if_neg (by decide+kernel)];exact⟨rfl,rfl⟩))
  (fun os started H enc _=>lifted os started H enc)
theorem proved :Rows.FnExactExtremeOfSaid:=nW
#print axioms proved
end Go.Proofs.YticmgmemnpcbbaaGreat.lawExtremeOf
