/- Slices that are cut. -/
import Derived.Test.YtpnpmkdijmeddaaGreatSxC
set_option maxRecDepth 100000
namespace Go.Sx
section
variable {P:Program} {E:Env}
theorem bound_ok {x:Option V} {d n:Nat} {z:Option Int} (h:bound x d=some (z,n)):
  (x=none∧z=none∧n=d)∨∃ k i,x=some (.int k i)∧z=some i∧n=i.toNat:=by
 unfold bound at h
 split at h
 ·cases h;exact .inl ⟨rfl,rfl,rfl⟩
 ·cases h;exact .inr ⟨_,_,rfl,rfl,rfl⟩
 ·cases h
theorem run_bound {k:IntKind} {i:Int} {y:Nat} (code:BoundsCode) (h0:0≤i) (h1:i.toNat≤y) (w:World):(Instr.sliceBound (.int k i) y code).run P w=.ok i.toNat w:=by
 have h2:0≤i∧i≤(y:Int):=⟨h0,by omega⟩
 simp [Instr.sliceBound,asIntOf,h2]
theorem run_bounds {lo hi:Option V} {lz hz:Option Int} {l h len cap:Nat} {isS:Bool} (h1:bound lo 0=some (lz,l)) (h2:bound hi len=some (hz,h))
  (hl:∀ z∈lz,0≤z) (hh:∀ z∈hz,0≤z) (hlh:l≤h) (hhc:h≤cap) (L:LM) (w:World):
  (Instr.sliceBounds isS len cap (lo.map (V.den L)) (hi.map (V.den L)) none).run P w=.ok (l,h,cap) w:=by
 rcases bound_ok h1 with ⟨rfl,rfl,rfl⟩|⟨k,i,rfl,rfl,rfl⟩<;>rcases bound_ok h2 with ⟨rfl,rfl,rfl⟩|⟨k',i',rfl,rfl,rfl⟩
 ·simp [Instr.sliceBounds]
 ·have:=run_bound (P:=P) (k:=k') (y:=cap) (if isS then .sliceAcap else .sliceAlen) (hh _ rfl) hhc w
  simp [Instr.sliceBounds,V.den,this]
 ·have:=run_bound (P:=P) (k:=k) (y:=h) .sliceB (hl _ rfl) hlh w
  simp [Instr.sliceBounds,V.den,this]
 ·have g1:=run_bound (P:=P) (k:=k') (y:=cap) (if isS then .sliceAcap else .sliceAlen) (hh _ rfl) hhc w
  have g2:=run_bound (P:=P) (k:=k) (y:=i'.toNat) .sliceB (hl _ rfl) hlh w
  simp [Instr.sliceBounds,V.den,g1,g2]
theorem sliceX_q (hE:EnvOK P E) {t:TypeId} {x v:V} {lo hi:Option V} {s s':St} (h:sliceX E t x lo hi s=some (v,s')) (ho:Obl s'):
  Quiet s s'∧∀ (L:LM) (w:World),On L s.H.get w (sliceRd x)→(Instr.sliceAt t (x.den L) (lo.map (V.den L)) (hi.map (V.den L)) none).run P w=.ok (v.den L) w:=by
 unfold sliceX at h
 obtain ⟨ti,hti,h1⟩:=XA h
 clear h
 obtain ⟨i,zv,d,hi',hs,hb,hzv,hzz,hu,hag,hk⟩:=(hE.ty _ _ hti).info
 split at h1
 ·
  rename_i n es ag b idx size off hkd
  rw [hkd] at hk
  obtain ⟨e,rfl,hsz⟩:=hk
  obtain ⟨_,c1,h2⟩:=XA h1
  obtain ⟨_,c2,h3⟩:=XA h2
  obtain ⟨⟨lz,l⟩,h4,h5⟩:=XA h3
  obtain ⟨⟨hz,hh⟩,h6,h7⟩:=XA h5
  obtain ⟨s1,h8,h9⟩:=XA h7
  have hs1:s'=s1:=by split at h9<;>cases h9<;>rfl
  subst hs1
  obtain ⟨hd,hq⟩:=XI h8 ho
  have hd':(∀ z∈lz,0≤z)∧(∀ z∈hz,0≤z)∧l≤hh∧hh≤n:=by simpa using hd
  have hp:idx*size+off=0:=by rw [← pos_eq];exact Nat.beq_eq.mp (XC c1)
  refine ⟨hq,fun L w _=>?_⟩
  have hrun:∀ L' (w:World),(Instr.sliceAt t (x:=(V.ptr b idx size off).den L') (lo.map (V.den L')) (hi.map (V.den L')) none).run P w=
    .ok (.slice (some (if n=l then ⟨(L' b).blk.getD 0,(L' b).off,none⟩ else ⟨(L' b).blk.getD 0,(L' b).off+l*es,none⟩)) (hh - l) (n - l)) w:=by
   intro L' w
   have:=run_bounds (P:=P) (isS:=false) (cap:=n) h4 h6 hd'.1 hd'.2.1 hd'.2.2.1 hd'.2.2.2 L' w
   simp only [Instr.sliceAt,V.den,Sem.run_bind,run_und hu,Result.andThen_ok,Instr.sureAddr,Sem.run_pure,this,szd_size hsz,hp,Nat.add_zero,addr_add]
  rw [hrun L w]
  congr 1
  split at h9
  ·cases h9
   rcases bound_ok h4 with ⟨_,_,rfl⟩|⟨_,_,_,h11,_⟩
   ·simp only [V.den,Nat.zero_mul,Nat.add_zero,Nat.sub_zero]
    congr 2
    by_cases hn:n=0<;>simp_all
   ·cases h11
  ·cases h9
   simp only [V.den]
   congr 2
   by_cases hn:n=l
   ·simp_all
   ·simp_all
 ·
  rename_i elem b start es len cap hkd
  rw [hkd] at hk
  cases hk
  obtain ⟨ei,hei,h2⟩:=XA h1
  obtain ⟨_,c1,h3⟩:=XA h2
  obtain ⟨⟨lz,l⟩,h4,h5⟩:=XA h3
  obtain ⟨⟨hz,hh⟩,h6,h7⟩:=XA h5
  obtain ⟨s1,h8,h9⟩:=XA h7
  cases h9
  obtain ⟨ie,ze,de,hie,hse,hbe,hze,hzze,hue,hage,hke⟩:=(hE.ty _ _ hei).info
  have hes:ei.size=es:=Nat.beq_eq.mp (XC c1)
  obtain ⟨hd,hq⟩:=XI h8 ho
  have hd':(∀ z∈lz,0≤z)∧(∀ z∈hz,0≤z)∧l≤hh∧hh≤cap:=by simpa using hd
  refine ⟨hq,fun L w _=>?_⟩
  have hrun:∀ L' (w:World),(Instr.sliceAt t (x:=(V.slice b start es len cap).den L') (lo.map (V.den L')) (hi.map (V.den L')) none).run P w=
    .ok ((V.slice b (if cap=l then start else start+l) es (hh - l) (cap - l)).den L') w:=by
   intro L' w
   have:=run_bounds (P:=P) (isS:=true) (cap:=cap) h4 h6 hd'.1 hd'.2.1 hd'.2.2.1 hd'.2.2.2 L' w
   simp only [Instr.sliceAt,Instr.slice,V.den,Sem.run_bind,run_und hu,Result.andThen_ok,Sem.run_pure,this,run_sizeOf' hie,hse,hes]
   by_cases hn:cap=l
   ·simp [hn]
   ·simp only [if_neg hn,Option.map_some,addr_add,Nat.add_mul]
    congr 4
    omega
  exact hrun L w
 ·
  rename_i elem b es hkd
  rw [hkd] at hk
  cases hk
  obtain ⟨ei,hei,h2⟩:=XA h1
  obtain ⟨_,c1,h3'⟩:=XA h2
  obtain ⟨_,c1',h3⟩:=XA h3'
  obtain ⟨len,hlen,h4⟩:=XA h3
  obtain ⟨ie,ze,de,hie,hse,hbe,hze,hzze,hue,hage,hke⟩:=(hE.ty _ _ hei).info
  have hes:ei.size=es:=Nat.beq_eq.mp (XC c1)
  subst hes
  have hg:∃ bd bt,s.H.get b=some (.mem bd bt (some ei.size))∧bd.count ei.size=len:=by
   unfold lenX at hlen
   simp only at hlen
   split at hlen
   ·rename_i bd bt e hg
    obtain ⟨_,c2,h5⟩:=XA hlen
    have he:e=ei.size:=Nat.beq_eq.mp (XC c2)
    subst he
    cases h5
    exact ⟨bd,bt,hg,rfl⟩
   ·cases hlen
  obtain ⟨bd,bt,hg,hcnt⟩:=hg
  split at h4
  ·
   rename_i lov
   obtain ⟨⟨lz,l⟩,h5,h6⟩:=XA h4
   obtain ⟨s1,h7,h8⟩:=XA h6
   cases h8
   obtain ⟨hd,hq⟩:=XI h7 ho
   have hd':(∀ z∈lz,0≤z)∧l≤len:=by simpa using hd
   refine ⟨hq,fun L w hO=>?_⟩
   have hrun:∀ L',L'=L→(Instr.sliceAt t (x:=(V.osl b ei.size).den L') ((some lov).map (V.den L')) ((none:Option V).map (V.den L')) none).run P w=.ok ((V.osv b ei.size 0 l (len - l)).den L') w:=by
    intro L' hL'
    subst hL'
    obtain ⟨q1,q2,q3,q4⟩:=hO.ob b (by simp [sliceRd]) _ hg
    rw [hcnt] at q2
    rcases q4 with ⟨q5,q6,q7⟩|⟨k,cur,q5,qh,q7,q8,q9,q10⟩
    ·have hl0:len=0:=by rw [q2,q6]
     have hll:l=0:=by omega
     have:=run_bounds (P:=P) (isS:=true) (len:=0) (cap:=0) (lo:=some lov) (hi:=none) (hz:=none) (h:=0) h5 rfl hd'.1 (by simp) (by omega) (Nat.le_refl _) L' w
     simp only [Instr.sliceAt,Instr.slice,V.den,q5,Sem.run_bind,run_und hu,Result.andThen_ok,Sem.run_pure,this,run_sizeOf' hie,q7,hll,hl0]
     simp
    ·have:=run_bounds (P:=P) (isS:=true) (len:=len) (cap:=(L' b).cap) (lo:=some lov) (hi:=none) (hz:=none) (h:=len) h5 rfl hd'.1 (by simp) hd'.2 (by rw [q2];exact q7) L' w
     simp only [Instr.sliceAt,Instr.slice,V.den,q5,Sem.run_bind,run_und hu,Result.andThen_ok,Sem.run_pure,← q2,this,run_sizeOf' hie,hse]
     by_cases hn:(L' b).cap=l
     ·simp [hn]
     ·simp only [if_neg hn,Option.map_some,addr_add,Nat.zero_add]
   exact hrun L rfl
  ·
   rename_i hiv
   obtain ⟨⟨hz,hh⟩,h5,h6⟩:=XA h4
   obtain ⟨s1,h7,h8⟩:=XA h6
   cases h8
   obtain ⟨hd,hq⟩:=XI h7 ho
   have hd':(∀ z∈hz,0≤z)∧hh≤len:=by simpa using hd
   refine ⟨hq,fun L w hO=>?_⟩
   have hrun:∀ L',L'=L→(Instr.sliceAt t (x:=(V.osl b ei.size).den L') ((none:Option V).map (V.den L')) ((some hiv).map (V.den L')) none).run P w=.ok ((V.osv b ei.size 0 0 hh).den L') w:=by
    intro L' hL'
    subst hL'
    obtain ⟨q1,q2,q3,q4⟩:=hO.ob b (by simp [sliceRd]) _ hg
    rw [hcnt] at q2
    have hb0:∀ k,bound (some hiv) k=some (hz,hh):=fun k=>by
     rcases bound_ok h5 with ⟨p1,_⟩|⟨k',i',p1,p2,p3⟩
     ·cases p1
     ·cases p1
      rw [p3,p2];rfl
    rcases q4 with ⟨q5,q6,q7⟩|⟨k,cur,q5,qh,q7,q8,q9,q10⟩
    ·have hl0:len=0:=by rw [q2,q6]
     have hll:hh=0:=by omega
     have:=run_bounds (P:=P) (isS:=true) (len:=0) (cap:=0) (lo:=none) (hi:=some hiv) (lz:=none) (l:=0) (hz:=hz) (h:=hh) rfl (hb0 0) (by simp) hd'.1 (Nat.zero_le _) (by omega) L' w
     simp only [Instr.sliceAt,Instr.slice,V.den,q5,Sem.run_bind,run_und hu,Result.andThen_ok,Sem.run_pure,this,run_sizeOf' hie,q7,hll]
     simp
    ·have:=run_bounds (P:=P) (isS:=true) (len:=(L' b).len) (cap:=(L' b).cap) (lo:=none) (hi:=some hiv) (lz:=none) (l:=0) (hz:=hz) (h:=hh) rfl (hb0 _) (by simp) hd'.1 (Nat.zero_le _) (by omega) L' w
     simp only [Instr.sliceAt,Instr.slice,V.den,q5,Sem.run_bind,run_und hu,Result.andThen_ok,Sem.run_pure,this,run_sizeOf' hie,hse]
     by_cases hn:(L' b).cap=0
     ·simp [hn]
     ·simp [hn,addr_add]
   exact hrun L rfl
  ·
   cases h4
   refine ⟨.refl ho,fun L w hO=>?_⟩
   obtain ⟨q1,q2,q3,q4⟩:=hO.ob b (by simp [sliceRd]) _ hg
   rcases q4 with ⟨q5,q6,q7⟩|⟨k,cur,q5,qh,q7,q8,q9,q10⟩
   ·have:=run_bounds (P:=P) (isS:=true) (len:=0) (cap:=0) (lo:=none) (hi:=none) (lz:=none) (hz:=none) (l:=0) (h:=0) rfl rfl (by simp) (by simp) (Nat.le_refl _) (Nat.le_refl _) L w
    simp only [Instr.sliceAt,Instr.slice,V.den,q5,Sem.run_bind,run_und hu,Result.andThen_ok,Sem.run_pure,this,run_sizeOf' hie]
    simp
   ·have:=run_bounds (P:=P) (isS:=true) (len:=(L b).len) (cap:=(L b).cap) (lo:=none) (hi:=none) (lz:=none) (hz:=none) (l:=0) (h:=(L b).len) rfl rfl (by simp) (by simp) (Nat.zero_le _) q7 L w
    simp only [Instr.sliceAt,Instr.slice,V.den,q5,Sem.run_bind,run_und hu,Result.andThen_ok,Sem.run_pure,this,run_sizeOf' hie]
    by_cases hn:(L b).cap=0
    ·simp [hn]
    ·simp [hn,addr_add]
  ·cases h4
 ·
  rename_i elem b es base start len hkd
  rw [hkd] at hk
  cases hk
  obtain ⟨ei,hei,h2⟩:=XA h1
  obtain ⟨_,c1,h3'⟩:=XA h2
  obtain ⟨_,c1',h4⟩:=XA h3'
  obtain ⟨ie,ze,de,hie,hse,hbe,hze,hzze,hue,hage,hke⟩:=(hE.ty _ _ hei).info
  have hes:ei.size=es:=Nat.beq_eq.mp (XC c1)
  subst hes
  have hes0:0<ei.size:=Nat.blt_eq.mp (XC c1')
  split at h4
  ·rename_i lov
   obtain ⟨⟨lz,l⟩,h5,h6⟩:=XA h4
   simp only at h6
   split at h6
   ·rename_i bd bt e hg
    obtain ⟨_,c2,h7⟩:=XA h6
    have he:e=ei.size:=Nat.beq_eq.mp (XC c2)
    subst he
    obtain ⟨s1,h8,h9⟩:=XA h7
    cases h9
    obtain ⟨hd,hq⟩:=XI h8 ho
    have hd':(∀ z∈lz,0≤z)∧l≤len∧start+len≤bd.count ei.size:=by simpa using hd
    refine ⟨hq,fun L w hO=>?_⟩
    have hrun:∀ L',L'=L→(Instr.sliceAt t (x:=(V.osv b ei.size base start len).den L') ((some lov).map (V.den L')) ((none:Option V).map (V.den L')) none).run P w=.ok ((V.osv b ei.size (cond (Nat.beq l 0) base start) (start+l) (len - l)).den L') w:=by
     intro L' hL'
     subst hL'
     obtain ⟨q1,q2,q3,q4⟩:=hO.ob b (by simp [sliceRd]) _ hg
     have hcap:(L' b).len≤(L' b).cap:=by
      rcases q4 with ⟨q5,q6,q7⟩|⟨k,cur,q5,qh,q7,q8,q9,q10⟩
      ·omega
      ·exact q7
     have:=run_bounds (P:=P) (isS:=true) (len:=len) (cap:=(L' b).cap - start) (lo:=some lov) (hi:=none) (hz:=none) (h:=len) h5 rfl hd'.1 (by simp) hd'.2.1 (by omega) L' w
     rcases q4 with ⟨q5,q6,q7⟩|⟨k,cur,q5,qh,q7,q8,q9,q10⟩
     ·simp only [Instr.sliceAt,Instr.slice,V.den,q5,Sem.run_bind,run_und hu,Result.andThen_ok,Sem.run_pure,this,run_sizeOf' hie]
      have e0:(L' b).cap - start - l=(L' b).cap - (start+l):=by omega
      simp [e0]
     ·simp only [Instr.sliceAt,Instr.slice,V.den,q5,Sem.run_bind,run_und hu,Result.andThen_ok,Sem.run_pure,this,run_sizeOf' hie,hse]
      have e0:(L' b).cap - start - l=(L' b).cap - (start+l):=by omega
      by_cases hl:l=0
      ·subst hl
       simp only [Nat.beq_refl,cond_true,Nat.add_zero,Nat.sub_zero,Nat.zero_mul]
       by_cases hn:(L' b).cap - start=0
       ·simp [hn]
       ·simp [hn,addr_add]
      ·rw [XG hl,cond_false]
       have hne:(L' b).cap≠start:=by omega
       by_cases hn:(L' b).cap - start=l
       ·have h1:(L' b).cap=start+l:=by omega
        simp [h1]
        omega
       ·have h1:(L' b).cap≠start+l:=by omega
        simp only [if_neg hn,if_neg hne,if_neg h1,Option.map_some,addr_add,Nat.add_mul,e0]
    exact hrun L rfl
   ·cases h6
  ·cases h4
 ·
  rename_i elem hkd
  rw [hkd] at hk
  cases hk
  obtain ⟨ei,hei,h2⟩:=XA h1
  obtain ⟨⟨lz,l⟩,h4,h5⟩:=XA h2
  obtain ⟨⟨hz,hh⟩,h6,h7⟩:=XA h5
  obtain ⟨s1,h8,h9⟩:=XA h7
  obtain ⟨_,c1,h10⟩:=XA h9
  cases h10
  obtain ⟨ie,ze,de,hie,hse,hbe,hze,hzze,hue,hage,hke⟩:=(hE.ty _ _ hei).info
  obtain ⟨hd,hq⟩:=XI h8 ho
  have hd':(∀ z∈lz,z=0)∧(∀ z∈hz,z=0):=by simpa using hd
  have hlh:l+hh=0:=Nat.beq_eq.mp (XC c1)
  refine ⟨hq,fun L w _=>?_⟩
  have hl:l=0:=by omega
  have hhh:hh=0:=by omega
  have:=run_bounds (P:=P) (isS:=true) (len:=0) (cap:=0) h4 h6 (fun z hz=>by rw [hd'.1 z hz];exact Int.le_refl _) (fun z hz=>by rw [hd'.2 z hz];exact Int.le_refl _) (by omega) (by omega) L w
  simp only [Instr.sliceAt,Instr.slice,V.den,Sem.run_bind,run_und hu,Result.andThen_ok,Sem.run_pure,this,run_sizeOf' hie,hl,hhh]
  simp
 ·cases h1
end
end Go.Sx
namespace Go.Sx
section
variable {P:Program} {E:Env}
theorem fieldAddrX_ok (hE:EnvOK P E) {t:TypeId} {x v:V} {f:Nat} (h:fieldAddrX E t x f=some v) (L:LM) (w:World):
  (Instr.fieldAt t (x.den L) f).run P w=.ok (v.den L) w:=by
 unfold fieldAddrX at h
 obtain ⟨ti,hti,h2⟩:=XA h
 clear h
 have hT:=hE.ty _ _ hti
 obtain ⟨i,zv,d,hi,hs,hb,hzv,hzz,hu,hag,hk⟩:=hT.info
 split at h2
 ·rename_i fs n idx size off hkd
  rw [hkd] at hk
  obtain ⟨fields,rfl,hfl,hf⟩:=hk
  obtain ⟨⟨o,sz,ag⟩,h3,h4⟩:=XA h2
  obtain ⟨_,h5,h6⟩:=XA h4
  cases h6
  rw [nth_eq] at h3
  obtain ⟨fd,g1,g2,g3⟩:=hf _ _ _ _ h3
  have hpos:sz≠0:=by have:=Nat.blt_eq.mp (XC h5);omega
  simp only [Instr.fieldAt,V.den,Sem.run_bind,run_und hu,Result.andThen_ok,g1,Instr.sureAddr,Sem.run_pure,fieldPlace,szd_size g3,if_neg hpos,Sem.run_ite]
  rw [addr_add,g2]
  show Result.ok _ _=Result.ok _ _
  congr 4
  show (L n).off+(idx*size+off)+o=(L n).off+(idx*size+(off+o))
  omega
 ·cases h2
theorem partX_ok {ag:Bool} {cs:List V} {off size:Nat} {v:V} {t:TypeId} (hz:Szd P t size ag) (h:partX ag cs off size=some v) (L:LM) (w:World):
  (part t (V.denL L cs).toArray off).run P w=.ok (v.den L) w:=by
 unfold partX at h
 cases ag with
 |true=>
  simp only at h
  obtain ⟨_,h0,h2⟩:=XA h
  cases h2
  simp only [part,Sem.run_bind,szd_agg hz,szd_size hz,Result.andThen_ok,if_true,V.den,denL_eq,takeN_eq,dropN_eq,Sem.run_pure]
  congr 2
  apply Array.ext'
  simp [List.extract_eq_take_drop]
 |false=>
  simp only at h
  rw [nth_eq] at h
  simp [part,szd_agg hz,denL_eq,h]
theorem fieldX_ok (hE:EnvOK P E) {t:TypeId} {x v:V} {f:Nat} (h:fieldX E t x f=some v) (L:LM) (w:World):
  (Instr.field t (x.den L) f).run P w=.ok (v.den L) w:=by
 unfold fieldX at h
 obtain ⟨ti,hti,h2⟩:=XA h
 clear h
 have hT:=hE.ty _ _ hti
 obtain ⟨i,zv,d,hi,hs,hb,hzv,hzz,hu,hag,hk⟩:=hT.info
 split at h2
 ·rename_i fs cs hkd
  rw [hkd] at hk
  obtain ⟨fields,rfl,hfl,hf⟩:=hk
  obtain ⟨⟨o,sz,ag⟩,h3,h4⟩:=XA h2
  rw [nth_eq] at h3
  obtain ⟨fd,g1,g2,g3⟩:=hf _ _ _ _ h3
  have:=partX_ok g3 h4 L w
  simp only [Instr.field,V.den,Sem.run_bind,run_und hu,Result.andThen_ok,g1,asAgg,Sem.run_pure,g2]
  exact this
 ·cases h2
theorem indexX_ok (hE:EnvOK P E) {t:TypeId} {x i v:V} {s s':St} (h:indexX E t x i s=some (v,s')) (ho:Obl s'):
  Quiet s s'∧∀ (L:LM) (w:World),(Instr.index t (x.den L) (i.den L)).run P w=.ok (v.den L) w:=by
 unfold indexX at h
 obtain ⟨ti,hti,h2⟩:=XA h
 clear h
 have hT:=hE.ty _ _ hti
 obtain ⟨ii,zv,d,hi,hs,hb,hzv,hzz,hu,hag,hk⟩:=hT.info
 obtain ⟨z,hz,h3⟩:=XA h2
 clear h2
 obtain ⟨k,rfl⟩:=asInt_ok hz
 split at h3
 ·rename_i n es ag cs hkd
  rw [hkd] at hk
  obtain ⟨e,rfl,hsz⟩:=hk
  obtain ⟨s1,h4,h5⟩:=XA h3
  obtain ⟨v',h6,h7⟩:=XA h5
  cases h7
  obtain ⟨hd,hq⟩:=XI h4 ho
  have hd':0≤z∧z<(n:Int):=by simpa using hd
  refine ⟨hq,fun L w=>?_⟩
  have:=partX_ok hsz h6 L w
  simp only [Instr.index,V.den,asIntOf,Sem.run_bind,Sem.run_pure,Result.andThen_ok,run_und hu,if_pos hd',Sem.run_ite,szd_size hsz]
  exact this
 ·cases h3
theorem indexAddrX_ok (hE:EnvOK P E) {t:TypeId} {x i v:V} {s s':St} (h:indexAddrX E t x i s=some (v,s')) (ho:Obl s'):
  Quiet s s'∧∀ (L:LM) (w:World),(∀ n o,((∃ es,x=.osl n es)∨(∃ es bs st l,x=.osv n es bs st l))→s.H.get n=some o→ObR L w n o)→(Instr.indexAt t (x.den L) (i.den L)).run P w=.ok (v.den L) w:=by
 unfold indexAddrX at h
 obtain ⟨ti,hti,h2⟩:=XA h
 clear h
 have hT:=hE.ty _ _ hti
 obtain ⟨ii,zv,d,hi,hs,hb,hzv,hzz,hu,hag,hk⟩:=hT.info
 obtain ⟨z,hz,h3⟩:=XA h2
 clear h2
 obtain ⟨k,rfl⟩:=asInt_ok hz
 split at h3
 ·rename_i n es ag b idx size off hkd
  rw [hkd] at hk
  obtain ⟨e,rfl,hsz⟩:=hk
  obtain ⟨s1,h4,h5⟩:=XA h3
  have hq0:s'=s1:=by split at h5<;>cases h5<;>rfl
  subst hq0
  obtain ⟨hd,hq⟩:=XI h4 ho
  have hd':0≤z∧z<(n:Int):=by simpa using hd
  refine ⟨hq,fun L w _=>?_⟩
  simp only [Instr.indexAt,V.den,asIntOf,Sem.run_bind,Sem.run_pure,Result.andThen_ok,run_und hu,Instr.sureAddr,if_pos hd',Sem.run_ite,szd_size hsz]
  rw [addr_add]
  split at h5
  ·rename_i hsz0
   have:size=0:=Nat.beq_eq.mp hsz0
   subst this
   cases h5
   simp only [V.den]
   congr 4
   omega
  ·cases h5
   simp only [V.den]
   congr 4
   show (L b).off+(idx*size+off)+z.toNat*es=(L b).off+(idx*size+(off+z.toNat*es))
   omega
 ·rename_i x elem hkd
  rw [hkd] at hk
  cases hk
  obtain ⟨ei,hei,h4⟩:=XA h3
  clear h3
  obtain ⟨len,hlen,h5⟩:=XA h4
  clear h4
  obtain ⟨s1,h6,h7⟩:=XA h5
  clear h5
  have hTe:=hE.ty _ _ hei
  obtain ⟨ie,zve,de,hie,hse,hbe,hzve,hzze,hue,hage,hke⟩:=hTe.info
  have hfin:∀ (L:LM) (w:World) (a:Addr) (c:Nat),0≤z∧z<(len:Int)→(Instr.indexAt t (.slice (some a) len c) ((V.int k z).den L)).run P w=.ok (.pointer (some (a.add (z.toNat*ei.size)))) w:=by
   intro L w a c hd'
   simp only [Instr.indexAt,V.den,asIntOf,Sem.run_bind,Sem.run_pure,Result.andThen_ok,run_und hu,if_pos hd',Sem.run_ite,run_sizeOf' hie,hse]
  split at h7
  ·rename_i b start es l c
   obtain ⟨_,h8,h9⟩:=XA h7
   cases h9
   obtain ⟨hd,hq⟩:=XI h6 ho
   have hd':0≤z∧z<(len:Int):=by simpa using hd
   have hes:ei.size=es:=Nat.beq_eq.mp (XC h8)
   refine ⟨hq,fun L w _=>?_⟩
   simp only [lenX] at hlen
   cases hlen
   have:=hfin L w ⟨(L b).blk.getD 0,(L b).off+start*es,none⟩ c hd'
   simp only [V.den] at this ⊢
   rw [this,addr_add,hes]
   congr 4
   by_cases h0:start=0
   ·subst h0;simp
   ·rw [XG h0,cond_false,Nat.add_mul];omega
  ·rename_i b es
   obtain ⟨_,h8,h9⟩:=XA h7
   cases h9
   obtain ⟨hd,hq⟩:=XI h6 ho
   have hd':0≤z∧z<(len:Int):=by simpa using hd
   have hes:ei.size=es:=Nat.beq_eq.mp (XC h8)
   refine ⟨hq,fun L w hR=>?_⟩
   obtain ⟨a,c,hac⟩:=lenX_ok hlen L w (fun n e o he hg=>hR n o (.inl ⟨e,he⟩) hg)
   have hR':=fun o=>hR b o (.inl ⟨es,rfl⟩)
   unfold lenX at hlen
   simp only at hlen
   split at hlen
   ·rename_i bd bt e hg
    obtain ⟨_,h10,h11⟩:=XA hlen
    have he:e=es:=Nat.beq_eq.mp (XC h10)
    subst he
    cases h11
    obtain ⟨hoff,hc,hfl,hh⟩:=hR' _ hg
    rcases hh with ⟨_,h12,_⟩|⟨kk,cur,h12,_⟩
    ·rw [hc,h12] at hd';omega
    ·simp only [V.den,h12] at hac ⊢
     rw [hc] at hd' hfin
     have:=hfin L w ⟨kk,0,none⟩ (L b).cap hd'
     simp only [V.den] at this
     rw [this,addr_add,hes,hoff]
     simp
   ·cases hlen
  ·rename_i b es base start l
   obtain ⟨_,h8,h9⟩:=XA h7
   split at h9
   ·rename_i bd bt e hg
    obtain ⟨_,h10,h11⟩:=XA h9
    obtain ⟨_,h10',h11'⟩:=XA h11
    obtain ⟨s2,h12,h13⟩:=XA h11'
    cases h13
    obtain ⟨hd2,hq2⟩:=XI h12 ho
    obtain ⟨hd,hq⟩:=XI h6 hq2.2
    have hd':0≤z∧z<(len:Int):=by simpa using hd
    have hd2':start+l≤bd.count es:=by simpa using hd2
    have hes:ei.size=es:=Nat.beq_eq.mp (XC h8)
    have he:e=es:=Nat.beq_eq.mp (XC h10)
    subst he
    simp only [lenX] at hlen
    cases hlen
    rw [hq.1.H] at hg
    refine ⟨hq.trans hq2.1,fun L w hR=>?_⟩
    obtain ⟨hoff,hc,hfl,hh⟩:=hR b _ (.inr ⟨_,_,_,_,rfl⟩) hg
    rcases hh with ⟨_,h12,_⟩|⟨kk,cur,h12,_,hcap,_⟩
    ·rw [hc,h12] at hd2';omega
    ·have hns:(L b).cap≠start:=by omega
     have:=hfin L w ⟨kk,start*e,none⟩ ((L b).cap - start) hd'
     simp only [V.den,h12,if_neg hns,Option.getD_some] at this ⊢
     rw [this,addr_add,hes,hoff,Nat.add_mul]
     simp
   ·cases h9
  ·cases h7
 ·cases h3
theorem evs_map {T:Tr V} {L:LM} {ρ:Operand→Value}:∀ {xs:List Operand} {vs:List V},evs T xs=some vs→(∀ x∈xs,∀ u,ev T x=some u→ρ x=u.den L)→xs.map ρ=vs.map (V.den L):=by
 intro xs
 induction xs with
 |nil=>intro vs h _;simp only [evs] at h;cases h;rfl
 |cons x xs ih=>
  intro vs h hr
  simp only [evs] at h
  obtain ⟨v,hv,h1⟩:=XA h
  obtain ⟨r,hr',h2⟩:=XA h1
  cases h2
  simp [hr x (by simp) v hv,ih hr' (fun y hy=>hr y (by simp [hy]))]
theorem zip_map_den {α:Type} (L:LM):∀ (l:List α) (vs:List V),(l.zip vs).map (fun p=>(p.1,p.2.den L))=l.zip (vs.map (V.den L)):=by
 intro l
 induction l with
 |nil=>intro vs;rfl
 |cons x xs ih=>intro vs;cases vs<;>simp [ih]
theorem quietX_ok (hE:EnvOK P E) {T:Tr V} {op:Op} {s s':St} {v:V} {rd:List Nat} (h:quietX E T op s=some (v,rd,s')) (ho:Obl s'):
  Quiet s s'∧∀ (L:LM) (w:World) (ρ:Operand→Value) (o:Oper),o.op=op→(∀ x∈op.operands,∀ u,ev T x=some u→ρ x=u.den L)→On L s.H.get w rd→
   (execOp ρ o).run P w=.ok (.value (v.den L)) w:=by
 cases op with
 |move x=>
  simp only [quietX] at h
  obtain ⟨v',h1,h2⟩:=XA h
  cases h2
  exact ⟨.refl ho,fun L w ρ o he hr _=>by simp [execOp,he,hr x (by simp [Op.operands]) _ h1]⟩
 |assign x=>
  simp only [quietX] at h
  obtain ⟨v',h1,h2⟩:=XA h
  cases h2
  exact ⟨.refl ho,fun L w ρ o he hr _=>by simp [execOp,he,hr x (by simp [Op.operands]) _ h1]⟩
 |pick c a b=>
  simp only [quietX] at h
  obtain ⟨vc,h1,h2⟩:=XA h
  obtain ⟨va,h3,h4⟩:=XA h2
  obtain ⟨vb,h5,h6⟩:=XA h4
  obtain ⟨⟨v',s1⟩,h7,h8⟩:=XA h6
  cases h8
  obtain ⟨hq,hp⟩:=pickX_ok h7 ho
  refine ⟨hq,fun L w ρ o he hr _=>?_⟩
  obtain ⟨t,rfl,ht⟩:=hp L
  simp only [execOp,he,hr c (by simp [Op.operands]) _ h1,hr a (by simp [Op.operands]) _ h3,hr b (by simp [Op.operands]) _ h5,V.den,asBool,ht]
  cases t<;>rfl
 |build t ps=>
  simp only [quietX] at h
  obtain ⟨vs,h1,h2⟩:=XA h
  obtain ⟨v',h3,h4⟩:=XA h2
  cases h4
  refine ⟨.refl ho,fun L w ρ o he hr _=>?_⟩
  have hb:=buildX_ok hE h3 L w
  have hm:=evs_map h1 (fun x hx u hu=>hr x (by simp only [Op.operands];simpa using hx) u hu)
  rw [zip_map_den] at hb
  have e:(ps.map fun (p:Nat×Operand)=>(p.1,ρ p.2))=((ps.toList.map (·.1)).zip (vs.map (V.den L))).toArray:=by
   apply Array.ext'
   rw [← hm]
   simp only [Array.toList_map]
   generalize ps.toList=l
   induction l with
   |nil=>rfl
   |cons p l ih=>simp [ih]
  simp only [execOp,he]
  rw [show (Array.map (fun (x:Nat×Operand)=>match x with|(i,x)=>(i,ρ x)) ps)=(ps.map fun (p:Nat×Operand)=>(p.1,ρ p.2)) from rfl,e]
  simp [hb]
 |load t a=>
  simp only [quietX] at h
  obtain ⟨va,h1,h2⟩:=XA h
  split at h2
  ·rename_i n idx size off
   obtain ⟨⟨v',s1⟩,h3,h4⟩:=XA h2
   cases h4
   obtain ⟨hq,hl⟩:=loadX_ok hE h3 ho
   refine ⟨hq,fun L w ρ o he hr hO=>?_⟩
   have:=hl L w (fun n' i' z' o' ob hh hg=>by cases hh;exact hO.ob _ (by simp) _ hg)
   simp [execOp,he,hr a (by simp [Op.operands]) _ h1,this]
  ·cases h2
 |nilCheck x=>
  simp only [quietX] at h
  obtain ⟨vx,h1,h2⟩:=XA h
  split at h2<;>cases h2
  all_goals
   refine ⟨.refl ho,fun L w ρ o he hr _=>?_⟩
   have hx:=hr x (by simp [Op.operands]) _ h1
   simp only [execOp,he,hx,V.den]
   rfl
 |binOp bop t x y yt=>
  simp only [quietX] at h
  obtain ⟨va,h1,h2⟩:=XA h
  obtain ⟨vb,h3,h4⟩:=XA h2
  split at h4
  ·obtain ⟨⟨v',s1⟩,h5,h6⟩:=XA h4
   cases h6
   obtain ⟨hq,hp⟩:=binX_ok (t:=t) (x:=x) (y:=y) h5 ho
   refine ⟨hq,fun L w ρ o he hr _=>?_⟩
   have:=hp L w
   simp only [execOp,he,hr x (by simp [Op.operands]) _ h1,hr y (by simp [Op.operands]) _ h3]
   rw [Sem.run_bind,this];rfl
  ·obtain ⟨rfl,hp⟩:=eqV_ok hE h4
   refine ⟨.refl ho,fun L w ρ o he hr hO=>?_⟩
   have:=hp L w hO
   simp only [execOp,he,hr x (by simp [Op.operands]) _ h1,hr y (by simp [Op.operands]) _ h3]
   rw [Sem.run_bind,this];rfl
 |unOp uop t x=>
  simp only [quietX] at h
  obtain ⟨va,h1,h2⟩:=XA h
  obtain ⟨v',h3,h4⟩:=XA h2
  cases h4
  refine ⟨.refl ho,fun L w ρ o he hr _=>?_⟩
  simp [execOp,he,hr x (by simp [Op.operands]) _ h1,unX_ok h3 L w]
 |convert src dst x=>
  simp only [quietX] at h
  obtain ⟨va,h1,h2⟩:=XA h
  obtain ⟨ts,hts,h2'⟩:=XA h2
  obtain ⟨ti,hti,h3⟩:=XA h2'
  split at h3
  ·rename_i k k' n hkd
   cases h3
   have hT:=hE.ty _ _ hti
   obtain ⟨i,zv,d,hi,hs,hb,hzv,hzz,hu,hag,hk⟩:=hT.info
   rw [hkd] at hk
   cases hk
   obtain ⟨_,_,ds,_,_,_,_,_,hus,_,_⟩:=(hE.ty _ _ hts).info
   refine ⟨.refl ho,fun L w ρ o he hr _=>?_⟩
   simp [execOp,he,hr x (by simp [Op.operands]) _ h1,convert,run_und hus,run_und hu,V.den,Conv.intToInt]
  ·cases h3
 |makeInterface t x=>
  simp only [quietX] at h
  obtain ⟨va,h1,h2⟩:=XA h
  obtain ⟨ti,hti,h3⟩:=XA h2
  have hT:=hE.ty _ _ hti
  obtain ⟨i,zv,d,hi,hs,hb,hzv,hzz,hu,hag,hk⟩:=hT.info
  have hni:∀ ms,d≠.interface ms:=by
   intro ms hd
   subst hd
   split at h3
   ·cases h3
   ·cases h3
   ·rename_i h4 h5
    cases hkk:ti.kind<;>rw [hkk] at hk h4 h5<;>simp_all [KdR]
  have hv:v=.iface t va∧rd=[]∧s'=s:=by
   split at h3
   ·cases h3
   ·cases h3
   ·cases h3;exact ⟨rfl,rfl,rfl⟩
  obtain ⟨rfl,rfl,rfl⟩:=hv
  refine ⟨.refl ho,fun L w ρ o he hr _=>?_⟩
  simp only [execOp,he,hr x (by simp [Op.operands]) _ h1,Sem.run_bind,Instr.makeInterface,run_und hu,Result.andThen_ok]
  cases d<;>first|exact absurd rfl (hni _)|rfl
 |makeFunc fn first caps=>
  simp only [quietX] at h
  split at h
  ·rename_i f
   obtain ⟨fs,h1,h2⟩:=XA h
   obtain ⟨cs,h3,h4⟩:=XA h2
   cases h4
   refine ⟨.refl ho,fun L w ρ o he hr _=>?_⟩
   have e1:first.map ρ=(fs.map (V.den L)).toArray:=by
    apply Array.ext'
    rw [← evs_map h1 (fun x hx u hu=>hr x (by simp only [Op.operands];simp at hx;simp [hx]) u hu)]
    simp
   have e2:caps.map ρ=(cs.map (V.den L)).toArray:=by
    apply Array.ext'
    rw [← evs_map h3 (fun x hx u hu=>hr x (by simp only [Op.operands];simp at hx;simp [hx]) u hu)]
    simp
   simp [execOp,he,Instr.makeFunc,e1,e2,V.den,denL_eq]
  ·cases h
 |fieldAddr t x f=>
  simp only [quietX] at h
  obtain ⟨va,h1,h2⟩:=XA h
  obtain ⟨v',h3,h4⟩:=XA h2
  cases h4
  refine ⟨.refl ho,fun L w ρ o he hr _=>?_⟩
  simp [execOp,he,hr x (by simp [Op.operands]) _ h1,fieldAddrX_ok hE h3 L w]
 |field t x f=>
  simp only [quietX] at h
  obtain ⟨va,h1,h2⟩:=XA h
  obtain ⟨v',h3,h4⟩:=XA h2
  cases h4
  refine ⟨.refl ho,fun L w ρ o he hr _=>?_⟩
  simp [execOp,he,hr x (by simp [Op.operands]) _ h1,fieldX_ok hE h3 L w]
 |indexAddr t x i=>
  simp only [quietX] at h
  obtain ⟨va,h1,h2⟩:=XA h
  obtain ⟨vi,h3,h4⟩:=XA h2
  obtain ⟨⟨v',s1⟩,h5,h6⟩:=XA h4
  cases h6
  obtain ⟨hq,hp⟩:=indexAddrX_ok hE h5 ho
  refine ⟨hq,fun L w ρ o he hr hO=>?_⟩
  have:=hp L w (fun n ob hh hg=>by
   rcases hh with ⟨es,rfl⟩|⟨es,bs,st,l,rfl⟩
   ·exact hO.ob n (by simp) _ hg
   ·exact hO.ob n (by simp) _ hg)
  simp [execOp,he,hr x (by simp [Op.operands]) _ h1,hr i (by simp [Op.operands]) _ h3,this]
 |index t x i=>
  simp only [quietX] at h
  obtain ⟨va,h1,h2⟩:=XA h
  obtain ⟨vi,h3,h4⟩:=XA h2
  obtain ⟨⟨v',s1⟩,h5,h6⟩:=XA h4
  cases h6
  obtain ⟨hq,hp⟩:=indexX_ok hE h5 ho
  refine ⟨hq,fun L w ρ o he hr _=>?_⟩
  simp [execOp,he,hr x (by simp [Op.operands]) _ h1,hr i (by simp [Op.operands]) _ h3,hp L w]
 |slice t x lo hi mx=>
  simp only [quietX] at h
  cases mx with
  |some m=>cases h
  |none=>
   obtain ⟨vx,h1,h2⟩:=XA h
   have key:∃ lv hv,sliceX E t vx lv hv s=some (v,s')∧rd=sliceRd vx∧(∀ y u,lo=some y→lv=some u→ev T y=some u)∧(lo=none↔lv=none)∧(∀ y u,hi=some y→hv=some u→ev T y=some u)∧(hi=none↔hv=none):=by
    cases lo with
    |none=>
     cases hi with
     |none=>
      obtain ⟨⟨v',s1⟩,h7,h8⟩:=XA h2
      cases h8
      exact ⟨none,none,h7,rfl,by simp,by simp,by simp,by simp⟩
     |some b=>
      obtain ⟨vb,h3,h4⟩:=XA h2
      obtain ⟨⟨v',s1⟩,h7,h8⟩:=XA h4
      cases h8
      exact ⟨none,some vb,h7,rfl,by simp,by simp,by simp [h3],by simp⟩
    |some a=>
     cases hi with
     |none=>
      obtain ⟨vb,h3,h4⟩:=XA h2
      obtain ⟨⟨v',s1⟩,h7,h8⟩:=XA h4
      cases h8
      exact ⟨some vb,none,h7,rfl,by simp [h3],by simp,by simp,by simp⟩
     |some b=>
      obtain ⟨va,h3,h4⟩:=XA h2
      obtain ⟨vb,h5,h6⟩:=XA h4
      obtain ⟨⟨v',s1⟩,h7,h8⟩:=XA h6
      cases h8
      exact ⟨some va,some vb,h7,rfl,by simp [h3],by simp,by simp [h5],by simp⟩
   obtain ⟨lv,hv,hsl,rfl,k1,k2,k3,k4⟩:=key
   obtain ⟨hq,hp⟩:=sliceX_q hE hsl ho
   refine ⟨hq,fun L w ρ o he hr hO=>?_⟩
   have hx:=hr x (by simp [Op.operands]) _ h1
   have hlo:lo.map ρ=lv.map (V.den L):=by
    cases lo with
    |none=>rw [k2.1 rfl];rfl
    |some y=>
     cases lv with
     |none=>exact absurd (k2.2 rfl) (by simp)
     |some u=>simp [hr y (by simp [Op.operands]) _ (k1 y u rfl rfl)]
   have hhi:hi.map ρ=hv.map (V.den L):=by
    cases hi with
    |none=>rw [k4.1 rfl];rfl
    |some y=>
     cases hv with
     |none=>exact absurd (k4.2 rfl) (by simp)
     |some u=>simp [hr y (by simp [Op.operands]) _ (k3 y u rfl rfl)]
   have:=hp L w hO
   simp [execOp,he,hx,hlo,hhi,this]
 |extract x i=>
  simp only [quietX] at h
  obtain ⟨va,h1,h2⟩:=XA h
  split at h2
  ·rename_i vs
   obtain ⟨v',h3,h4⟩:=XA h2
   cases h4
   rw [nth_eq] at h3
   refine ⟨.refl ho,fun L w ρ o he hr _=>?_⟩
   simp [execOp,he,hr x (by simp [Op.operands]) _ h1,Instr.extract,V.den,denL_eq,h3]
  ·cases h2
 |typeAssert x xt t ok=>
  simp only [quietX] at h
  obtain ⟨_,h1,h2⟩:=XA h
  obtain ⟨va,h3,h4⟩:=XA h2
  have h1:=XC h1
  cases ok with
  |false=>cases h1
  |true=>
   obtain ⟨⟨e,hu⟩,hz⟩:=hE.pz t h1
   split at h4
   ·rename_i t' v'
    cases h4
    refine ⟨.refl ho,fun L w ρ o he hr _=>?_⟩
    simp only [execOp,he,hr x (by simp [Op.operands]) _ h3,V.den,Sem.run_bind,Instr.typeAssert,run_und hu,Result.andThen_ok]
    by_cases e1:t'=t
    ·subst e1;simp [V.den,denL_eq]
    ·have e2:Nat.beq t' t=false:=by cases hb:Nat.beq t' t with|false=>rfl|true=>exact absurd (Nat.eq_of_beq_eq_true hb) e1
     simp [e1,e2,hz,V.den,denL_eq]
   ·cases h4
    refine ⟨.refl ho,fun L w ρ o he hr _=>?_⟩
    simp [execOp,he,hr x (by simp [Op.operands]) _ h3,V.den,Instr.typeAssert,run_und hu,hz,denL_eq]
   ·cases h4
 |call c=>
  simp only [quietX] at h
  obtain ⟨callee,args,argTypes⟩:=c
  have hmap:∀ (x:Operand) (v:V) (L:LM) (ρ:Operand→Value),(∀ y∈(Op.call ⟨callee,args,argTypes⟩).operands,∀ u,ev T y=some u→ρ y=u.den L)→x∈args.toList→ev T x=some v→ρ x=v.den L:=by
   intro x v L ρ hr hx hv
   exact hr x (by simp only [Op.operands,Call.operands];simp at hx;simp [hx]) v hv
  split at h
  ·rename_i hc
   simp only at hc
   subst hc
   split at h
   ·rename_i x t hargs htys
    simp only at hargs htys
    have ha:args=#[x]:=by apply Array.ext';simpa using hargs
    have hty:argTypes=#[t]:=by apply Array.ext';simpa using htys
    subst ha hty
    obtain ⟨ti,hti,h0⟩:=XA h
    split at h0
    ·rename_i el hkd
     obtain ⟨va,h1,h2⟩:=XA h0
     obtain ⟨n,h3,h4⟩:=XA h2
     cases h4
     have hT:=hE.ty _ _ hti
     obtain ⟨i,zv,d,hi,hs,hb,hzv,hzz,hu,hag,hk⟩:=hT.info
     rw [hkd] at hk
     cases hk
     refine ⟨.refl ho,fun L w ρ o he hr hO=>?_⟩
     have hx:=hmap x va L ρ hr (by simp) h1
     obtain ⟨a,c,hac⟩:=lenX_ok h3 L w (fun n es ob hh hg=>by subst hh;exact hO.ob n (by simp) _ hg)
     simp [execOp,he,resolve,invoke,builtin,hx,hac,Builtin.len_,run_und hu,V.den,goInt]
    ·cases h0
   ·cases h
  ·rename_i hc
   simp only at hc
   subst hc
   split at h
   ·rename_i x y hargs
    simp only at hargs
    have ha:args=#[x,y]:=by apply Array.ext';simpa using hargs
    subst ha
    obtain ⟨va,h1,h2⟩:=XA h
    obtain ⟨vb,h3,h4⟩:=XA h2
    split at h4
    ·obtain ⟨_,h5,h6⟩:=XA h4
     cases h6
     refine ⟨.refl ho,fun L w ρ o he hr hO=>?_⟩
     have hx:=hmap x _ L ρ hr (by simp) h1
     have hy:=hmap y _ L ρ hr (by simp) h3
     simp [execOp,he,resolve,invoke,builtin,hx,hy,V.den,Builtin.min_,Builtin.min2]
    ·cases h4
   ·cases h
  ·rename_i hc
   simp only at hc
   subst hc
   split at h
   ·rename_i x y hargs
    simp only at hargs
    have ha:args=#[x,y]:=by apply Array.ext';simpa using hargs
    subst ha
    obtain ⟨va,h1,h2⟩:=XA h
    obtain ⟨vb,h3,h4⟩:=XA h2
    split at h4
    ·obtain ⟨_,h5,h6⟩:=XA h4
     cases h6
     refine ⟨.refl ho,fun L w ρ o he hr hO=>?_⟩
     have hx:=hmap x _ L ρ hr (by simp) h1
     have hy:=hmap y _ L ρ hr (by simp) h3
     simp [execOp,he,resolve,invoke,builtin,hx,hy,V.den,Builtin.max_,Builtin.max2]
    ·cases h4
   ·cases h
  ·cases h
 |_=>simp [quietX] at h
end
end Go.Sx
