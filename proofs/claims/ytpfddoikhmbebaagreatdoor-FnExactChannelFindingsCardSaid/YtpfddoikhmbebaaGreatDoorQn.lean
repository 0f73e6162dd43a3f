/- Contracts: decimals by the reference; Contracts: numbers in decimal (over the shelf), the reference's decimals; Contracts: the distance of a point from a segment, sides of a line; Contracts: the segment of a channel that is nearest, its side; buoys that are missing. -/
import Derived.Test.YtpfddoikhmbebaaGreatDoorFA
import Derived.Lib.ItoaNum
import Derived.Lib.ItoaLen
import Derived.Test.YtpfddoikhmbebaaGreatDoorQi
import Derived.Shelf.Strconv.Itoa4
import Derived.Test.YtpfddoikhmbebaaGreatDoorFB
import Derived.Test.YtpfddoikhmbebaaGreatDoorHci
namespace Go.Proofs.YtpfddoikhmbebaaGreatDoor
open Go Go.RowKit Classical
set_option maxRecDepth 100000
set_option maxHeartbeats 2000000
set_option linter.unusedVariables false
set_option linter.unusedSimpArgs false
def decS (n:Int):ByteArray:=⟨(Lib.itoa n).toArray⟩
theorem decS_size {n:Int} (h: -9223372036854775808<=n/\n<=9223372036854775807):(decS n).size<=21:=by
  have:=Lib.itoa_length_le n h.1 h.2
  show (Lib.itoa n).toArray.size<=21
  simpa using this
def tb (l:List Int):List UInt8:=l.map λc=>UInt8.ofNat c.toNat
theorem tb_fold:∀(l:List Int) (r:ByteArray),l.foldl (λr n=>r.push (UInt8.ofNat n.toNat)) r=⟨r.data++(tb l).toArray⟩
  |[],r=>by simp [tb]
  | c::l,r=>by
    rw [List.foldl_cons,tb_fold l]
    simp [tb,ByteArray.push]
theorem bytesOf_tb (l:List Int):bytesOf l=⟨(tb l).toArray⟩:=by
  rw [bytesOf,tb_fold]
  simp
theorem dec_small {u:Nat} (h:u<10):Lib.decDigits u=[UInt8.ofNat (48+u)]:=by rw [Lib.decDigits,dif_pos h]
theorem dec_big {u:Nat} (h:¬u<10):Lib.decDigits u=Lib.decDigits (u / 10)++[UInt8.ofNat (48+u % 10)]:=by rw [Lib.decDigits,dif_neg h]
theorem itoa_nn {n:Int} (h:0<=n):Lib.itoa n=Lib.decDigits n.toNat:=by unfold Lib.itoa;rw [if_neg (by omega)]
theorem decS_zero:decS 0=⟨#[48]⟩:=by
  unfold decS
  rw [itoa_nn (by decide),dec_small (by decide)];rfl
def DecInv (n m:Int) (ds:List Int):Prop:=(0<=m/\m<=n)/\(m≠0->Lib.decDigits m.toNat++tb ds.reverse=Lib.decDigits n.toNat)/\(m=0->tb ds.reverse=Lib.decDigits n.toNat)
theorem DecInv.start {n:Int} (h:0<=n) (h0:n≠0):DecInv n n []:=⟨⟨h,Int.le_refl _⟩,λ_=>by simp [tb],λe=>absurd e h0⟩
theorem DecInv.step {n m c k:Int} {ds:List Int} (h:DecInv n m ds) (hm:m≠0) (hc:c=48+m % 10) (hk:k=m / 10):DecInv n k (ds++[c]):=by
  obtain ⟨h1,h2,_⟩:=h
  have h2:=h2 hm
  have e:tb (ds++[c]).reverse=UInt8.ofNat (48+m.toNat % 10)::tb ds.reverse:=by
    rw [List.reverse_append]
    show UInt8.ofNat c.toNat::tb ds.reverse=_
    rw [show c.toNat=48+m.toNat % 10 by omega]
  refine ⟨by omega,λhk0=>?_,λhk0=>?_⟩
  · rw [e,←h2,dec_big (by omega:¬m.toNat<10),show k.toNat=m.toNat / 10 by omega];simp
  · rw [e,←h2,dec_small (by omega:m.toNat<10),show m.toNat % 10=m.toNat by omega];simp
theorem DecInv.len {n m:Int} {ds:List Int} (h:DecInv n m ds) (hn:n<=9223372036854775807):ds.length<=21:=by
  obtain ⟨h1,h2,h3⟩:=h
  have hl:=Lib.itoa_length_le n (by omega) hn
  rw [itoa_nn (by omega)] at hl
  have hd:(tb ds.reverse).length=ds.length:=by simp [tb]
  by_cases h0:m=0
  · have:=congrArg List.length (h3 h0);omega
  · have:=congrArg List.length (h2 h0);rw [List.length_append] at this;omega
def b8 (n:Int):List AV:=[.int .u8 n]
theorem rev_step {ds:List Int} {i k:Int} {c:Int} (h0:0<=i) (hc:ds[i.toNat]? =some c) (hk:k=i - 1):(ds.drop (k+1).toNat).reverse=(ds.drop (i+1).toNat).reverse++[c]:=by
  obtain ⟨hl,he⟩:=List.getElem?_eq_some_iff.1 hc
  rw [show (k+1).toNat=i.toNat by omega,show (i+1).toNat=i.toNat+1 by omega,List.drop_eq_getElem_cons hl,he,List.reverse_cons]
theorem l01Dec_ (n:Int) (h:0<=n/\n<=9223372036854775807):AC Tryz.prog 111 [.int .i64 n] AV.str (decS n):=by
  refine ac Tryz.func111 (.str _) λE K hE hK=>?_
  conv=>cbv
  refine eqI hE (λh0=>?_) (λh0=>?_)<;>conv=>cbv
  · exact hK _ (by rw [h0,decS_zero];rfl)
  refine loop3 hE [0] [4,3] (λ(m:Int) (ds:List Int) (es:List (List AV))=>([(4,.int .i64 m),(3,.ob 0)],[.row 1 es],m,DecInv n m ds/\es=ds.map b8)) [0] ((n,[],[])) rfl rfl (by dsimp only;exact ⟨.start (by omega) h0,rfl⟩) λm ds es hi Kn hN=>?_
  (try dsimp only at hi)
  conv=>cbv
  obtain ⟨hinv,h2⟩:=hi
  have hm:=hinv.1
  have hlen:=hinv.len h.2
  have hst:=λc k=>hinv.step (c:=c) (k:=k)
  refine eqI hE (λe=>?_) (λhm0=>?_)<;>conv=>cbv
  rotate_left
  · skip
    repeat' first
      |(refine hN (_,ds++[c2],_) _ [0] (by decide) rfl ⟨?_,?_⟩ ?_<;>(try dsimp only))
      |(refine hN (_,ds++[c2],_) _ [1] (by decide) rfl ⟨?_,?_⟩ ?_<;>(try dsimp only))
      |(refine hN (_,ds++[c2],_) _ [2] (by decide) rfl ⟨?_,?_⟩ ?_<;>(try dsimp only))
      |((first
     |refine rem64 hE (by omega) (λd hd=>?_)
     |refine quo64 hE (by omega) (λk hk=>?_)
     |refine add64 hE (by omega) (λc hc=>?_)
     |(refine wrapU8 hE (by omega) (λc2 hc2=>?_);(try conv=>cbv);(try refine catP (R:=b8) (v:=c2) hE h2 rfl (by omega) (λes2 hes2=>?_)))
     |refine q0 hE ?_
     |refine B0 hE ?_|refine B1 hE ?_ ?_|refine B2 hE ?_)<;>intros<;>(try conv=>cbv))
    all_goals (try clear hN)
    all_goals first
      |omega
      |exact hst _ _ hm0 (by omega) (by omega)
      |assumption
  have hdd:=hinv.2.2 e
  refine ltF hE (by omega) ?_
  conv=>cbv
  refine lenL hE h2 λz hz _=>?_
  conv=>cbv
  refine sub64 hE (by omega) λz1 hz1=>?_
  conv=>cbv
  repeat' first
    |((refine loop2 hE [] [7,3,6] (λ(i:Int) (os:List (List AV))=>([(7,.int .i64 i),(3,.ob 0),(6,.ob 1)],[.row 1 es,.row 1 os],i+1,(-1<=i/\i<ds.length)/\os=((ds.drop (i+1).toNat).reverse).map b8)) [0,1] ((z1,[])) rfl rfl (by dsimp only;exact ⟨by omega,by rw [List.drop_of_length_le (by omega)];rfl⟩) λi os hi2 Kn2 hN2=>?_;(try dsimp only at hi2);conv=>cbv);obtain ⟨⟨i0,i1⟩,h3⟩:=hi2;(have hl3:((ds.drop (i+1).toNat).reverse).length<=ds.length:=(by simp));have hrs:=λc k=>rev_step (ds:=ds) (i:=i) (c:=c) (k:=k))
    |(refine hN2 (_,_) _ [0,1] (by decide) rfl ⟨?_,?_⟩ ?_<;>(try dsimp only))
    |(refine hN2 (_,_) _ [0,2] (by decide) rfl ⟨?_,?_⟩ ?_<;>(try dsimp only))
    |(refine hN2 (_,_) _ [0,3] (by decide) rfl ⟨?_,?_⟩ ?_<;>(try dsimp only))
    |((first
   |refine idxL (R:=b8) hE h2 (by omega) (λc hc=>?_)
   |refine catP (R:=b8) (v:=c) hE h3 rfl (by omega) (λos2 hos2=>?_)
   |refine toStrI hE _ h3 (λs hs _=>?_)
   |refine q0 hE ?_
   |refine B0 hE ?_|refine B1 hE ?_ ?_|refine B2 hE ?_)<;>intros<;>(try conv=>cbv))
  all_goals (try clear hN2)
  all_goals first
    |omega
    |exact hos2.trans (congrArg (List.map b8) (hrs _ _ (by omega) hc (by assumption)).symm)
    |(refine hK _ ?_;rw [hs,show (i+1).toNat=0 by omega,List.drop_zero,bytesOf_tb,hdd];unfold decS;rw [itoa_nn h.1];rfl)
open Go.Sort Go.Shelf Go.Proofs
def On (w w':World):Prop:=Below w.heap.size w w'/\w.drawn<=w'.drawn
theorem On.trans {a b c:World} (h:On a b) (k:On b c):On a c:=⟨h.1.trans (k.1.mono h.1.size),Nat.le_trans h.2 k.2⟩
theorem frz_old {w w':World} (h:∀x,x<w.heap.size->w'.heap[x]? =w.heap[x]?) (a:Addr) (ha:a.block<w.heap.size):w'.frozen? a=w.frozen? a:=by
  unfold World.frozen?
  rw [h _ ha]
theorem On.keeps {w w':World} (h:On w w'):Keeps (λ_=>False) w w':=
  ⟨h.1.os,h.1.tape,h.1.output,h.1.size,λx hx _=>h.1.block x hx,λa ha=>frz_old h.1.block a ha,DrawLe.of h.2⟩
theorem grow_on (w:World) (k:Nat) (os:Array Go.Obj):On w (grow (w.drewN k) os):=
  ⟨⟨rfl,rfl,rfl,by simp [grow,World.drewN],λx hx=>by simp [grow,World.drewN,Array.getElem?_append,hx]⟩,by simp [grow,World.drewN]⟩
theorem On.refl (w:World):On w w:=⟨Below.refl _ _,Nat.le_refl _⟩
theorem AC.onto {P:Program} {f:FuncId} {us:List AV} {α:Type} {R:α->AV} {x:α} (hent:Enters P f) (h:∀w vs,GOK w->RelL w (λb=>b<w.heap.size) us vs->∃v,(∀w',XRel w' (λ_=>False) (R x) v (λ_=>False))/\Calls P f vs w λe w'=>e= .returned v/\On w w'):AC P f us R x:=
  ⟨hent,λw vs hg hr=>by
    obtain ⟨v,h1,h3⟩:=h w vs hg hr
    refine h3.mono ?_
    rintro e w' ⟨rfl,hk⟩
    exact ⟨v,λ_=>False,rfl,hk.keeps,h1 w',λ_ h=>h.elim⟩⟩
theorem formatInt_ (n:Int) (h: -9223372036854775808<=n/\n<=9223372036854775807):AC Tryz.prog 145 [.int .i64 n,.int .i64 10] AV.str (decS n):=
  AC.onto (λxs w=>enters_go Tryz.func145 (by kernel_rfl) rfl xs w) λw vs hg hr=>by
    obtain ⟨u,v,rfl,h1,h2⟩:=rel2 hr
    cases h1
    cases h2
    refine ⟨_,λw'=> .pure _ _ _ (.str _ (Nat.le_trans (decS_size h) (by decide))) rfl (λ_ h=>h),(Any.strconv_FormatInt_10 Tryz.formatInt n h.1 h.2 w hg.pow10).mono ?_⟩
    rintro e w' ⟨rfl,k,os,rfl⟩
    exact ⟨rfl,grow_on _ _ _⟩
theorem decimal_ (n:Int) (h: -9223372036854775808<=n/\n<=9223372036854775807):AC Tryz.prog 77 [.int .i64 n] AV.str (decS n):=by
  refine ac Tryz.func77 (.str _) λE K hE hK=>?_
  conv=>cbv
  repeat' first
    |((first
   |refine q0 hE ?_
   |refine callI hE (formatInt_ _ h) (λ_ _=>?_)
   |refine B0 hE ?_|refine B1 hE ?_ ?_|refine B2 hE ?_)<;>intros<;>(try conv=>cbv))
  all_goals exact hK _ (by simp [atup, *])
theorem mulP {E:Env} {np:Nat} {P:Program} (hE:E=stdE np P) (A B:Int) {a b:Int} {K:Int->Prop} (h:(0<=a/\a<=A)/\0<=b/\b<=B) (hB:A*B<=9223372036854775807) (hk:∀m,m=a*b->0<=m->m<=A*B->K m):E.mul .i64 a b K:=by
  have h1:=Int.mul_nonneg h.1.1 h.2.1
  have h2:=Int.mul_le_mul h.1.2 h.2.2 h.2.1 (Int.le_trans h.1.1 h.1.2)
  exact mul64 hE (by omega) λm hm=>hk m hm (by omega) (by omega)
theorem shr20 {E:Env} {np:Nat} {P:Program} (hE:E=stdE np P) {a:Int} {K:Int->Prop} (hk:∀n,n=a / 1048576->K n):E.shr .i64 a 20 K:=by
  subst hE
  exact hk _ (by
    rw [show (2:Int) ^ (Nat.min (20:Int).toNat IntKind.i64.bits)=1048576 from by decide]
    exact Int.fdiv_eq_ediv_of_nonneg _ (by decide))
theorem prod20 (a b:Int):a*b=1048576*(a / 1048576*b)+a % 1048576*b:=by
  have e:=Int.mul_ediv_add_emod a 1048576
  generalize a / 1048576=u at*
  generalize a % 1048576=v at*
  rw [←e,Int.add_mul,Int.mul_assoc]
theorem prod6 (a b:Int):a*b=1000000000000*(a / 1000000*(b / 1000000))+((a / 1000000*(b % 1000000)+a % 1000000*(b / 1000000))*1000000+a % 1000000*(b % 1000000)):=by
  have e:=Int.mul_ediv_add_emod a 1000000
  have k:=Int.mul_ediv_add_emod b 1000000
  generalize a / 1000000=u at*
  generalize a % 1000000=v at*
  generalize b / 1000000=s at*
  generalize b % 1000000=t at*
  rw [←e,←k]
  grind
theorem product_ (a b:Int) (ha:0<=a/\a<=1099511627775) (hb:0<=b/\b<=1099511627775):AC Tryz.prog 259 [.int .i64 a,.int .i64 b] two (a*b / 1048576,a*b % 1048576):=by
  refine ac Tryz.func259 (.two _) λE K hE hK=>?_
  conv=>cbv
  have e:=prod20 a b
  repeat' first
    |((first
   |refine mulP hE 1048576 1099511627775 (by omega) (by omega) (λm hm _ _=>?_)
   |refine shr20 hE (λm hm=>?_)
   |refine q0 hE ?_
   |refine B0 hE ?_|refine B1 hE ?_ ?_|refine B2 hE ?_)<;>intros<;>(try conv=>cbv))
  all_goals first
    |(refine hK _ ?_;show two (_,_)=two _;refine congrArg two (Prod.ext ?_ ?_)<;>(subst_vars;simp only;omega))
theorem atMost_ (a b c d:Int) (ha:0<=a/\a<=1099511627775) (hb:0<=b/\b<=1099511627775) (hc:0<=c/\c<=1099511627775) (hd:0<=d/\d<=1099511627775):AC Tryz.prog 207 [.int .i64 a,.int .i64 b,.int .i64 c,.int .i64 d] AV.bool (bP (a*b<=c*d)):=by
  refine ac Tryz.func207 (.bool _) λE K hE hK=>?_
  conv=>cbv
  refine callII hE (product_ a b ha hb) λq z hq hz=>?_
  conv=>cbv
  refine callII hE (product_ c d hc hd) λq2 z2 hq2 hz2=>?_
  conv=>cbv
  generalize a*b=x at*
  generalize c*d=y at*
  repeat' first
    |((first
   |refine q0 hE ?_
   |refine B0 hE ?_|refine B1 hE ?_ ?_|refine B2 hE ?_)<;>intros<;>(try conv=>cbv))
  all_goals first
    |exact finB hK (bP_true.2 (by omega))
    |exact finB hK (bP_false.2 (by omega))
theorem l02Product_ (a b:Int) (ha:0<=a/\a<=999999999999) (hb:0<=b/\b<=999999999999):AC Tryz.prog 276 [.int .i64 a,.int .i64 b] two (a*b / 1000000000000,a*b % 1000000000000):=by
  refine ac Tryz.func276 (.two _) λE K hE hK=>?_
  conv=>cbv
  have e:=prod6 a b
  repeat' first
    |((first
   |refine mulP hE 1000000 1000000 (by omega) (by omega) (λm hm _ _=>?_)
   |refine mulP hE 2000000000000 1000000 (by omega) (by omega) (λm hm _ _=>?_)
   |refine q0 hE ?_
   |refine B0 hE ?_|refine B1 hE ?_ ?_|refine B2 hE ?_)<;>intros<;>(try conv=>cbv))
  all_goals first
    |(refine hK _ ?_;show two (_,_)=two _;refine congrArg two (Prod.ext ?_ ?_)<;>(subst_vars;simp only;omega))
def IsFar (x n r:Int):Prop:=0<=r/\r*r*n<=x*x/\x*x<(r+1)*(r+1)*n
theorem far_mono {a b n:Int} (hn:0<n) (h0:0<=a) (h:a<=b):a*a*n<=b*b*n:=Int.mul_le_mul_of_nonneg_right (sq_mono h0 h) (by omega)
theorem IsFar.uniq {x n r s:Int} (hn:0<n) (h:IsFar x n r) (k:IsFar x n s):r=s:=by
  obtain ⟨h1,h2,h3⟩:=h
  obtain ⟨k1,k2,k3⟩:=k
  rcases Int.lt_trichotomy r s with h|h|h
  · have:=far_mono (a:=r+1) (b:=s) hn (by omega) (by omega);omega
  · exact h
  · have:=far_mono (a:=s+1) (b:=r) hn (by omega) (by omega);omega
noncomputable def farR (x n:Int):Int:=if h:∃r,IsFar x n r then h.choose else 0
theorem farR_eq {x n r:Int} (hn:0<n) (h:IsFar x n r):farR x n=r:=by
  unfold farR
  rw [dif_pos ⟨r,h⟩]
  exact (Exists.choose_spec (⟨r,h⟩:∃r,IsFar x n r)).uniq hn h
theorem far_top {x n B:Int} (hn:0<n) (hx:x*x<=80000000000*n) (hB:80000000000<B):x*x<B*n:=by
  have:=Int.mul_lt_mul_of_pos_right hB hn
  omega
def crsR (ax ay bx by' cx cy:Int):Int:=(bx - ax)*(cy - ay) - (by' - ay)*(cx - ax)
def dotR (ax ay bx by' px py:Int):Int:=(px - ax)*(bx - ax)+(py - ay)*(by' - ay)
theorem crs_bd {ax ay bx by' cx cy:Int} (h:PtOk ax ay) (k:PtOk bx by') (l:PtOk cx cy): -80000000000<=crsR ax ay bx by' cx cy/\crsR ax ay bx by' cx cy<=80000000000:=by
  unfold PtOk at*
  unfold crsR
  have h1:=mul_bd (a:=bx - ax) (b:=cy - ay) (B:=200000) (by omega)
  have h2:=mul_bd (a:=by' - ay) (b:=cx - ax) (B:=200000) (by omega)
  omega
theorem cauchy (ax ay bx by' px py:Int):crsR ax ay bx by' px py*crsR ax ay bx by' px py+dotR ax ay bx by' px py*dotR ax ay bx by' px py=sqd ax ay bx by'*sqd ax ay px py:=by
  unfold crsR dotR sqd
  grind
theorem crs_sq {ax ay bx by' px py:Int} (h:PtOk ax ay) (k:PtOk bx by') (l:PtOk px py):crsR ax ay bx by' px py*crsR ax ay bx by' px py<=80000000000*sqd ax ay bx by':=by
  have h1:=cauchy ax ay bx by' px py
  have h2:=sq_nn (dotR ax ay bx by' px py)
  have h3:=(sqd_bd h l).2
  have h4:=Int.mul_le_mul_of_nonneg_left h3 (sqd_bd h k).1
  rw [Int.mul_comm 80000000000]
  omega
theorem cross_ (ax ay bx by' cx cy:Int) (h:PtOk ax ay) (k:PtOk bx by') (l:PtOk cx cy):AC Tryz.prog 206 [.agg [.int .i64 ax,.int .i64 ay],.agg [.int .i64 bx,.int .i64 by'],.agg [.int .i64 cx,.int .i64 cy]] (AV.int .i64) (crsR ax ay bx by' cx cy):=by
  refine ac Tryz.func206 (.int _ _) λE K hE hK=>?_
  conv=>cbv
  unfold PtOk at h k l
  repeat' first
    |((first
   |refine mulC hE 200000 (by omega) (by omega) (λm hm _ _=>?_)
   |refine q0 hE ?_
   |refine B0 hE ?_|refine B1 hE ?_ ?_|refine B2 hE ?_)<;>intros<;>(try conv=>cbv))
  all_goals (refine hK _ ?_;subst_vars;rfl)
theorem l02Cross_ (ax ay bx by' cx cy:Int) (h:PtOk ax ay) (k:PtOk bx by') (l:PtOk cx cy):AC Tryz.prog 230 [.agg [.int .i64 ax,.int .i64 ay],.agg [.int .i64 bx,.int .i64 by'],.agg [.int .i64 cx,.int .i64 cy]] (AV.int .i64) (crsR ax ay bx by' cx cy):=by
  refine ac Tryz.func230 (.int _ _) λE K hE hK=>?_
  conv=>cbv
  unfold PtOk at h k l
  repeat' first
    |((first
   |refine mulC hE 200000 (by omega) (by omega) (λm hm _ _=>?_)
   |refine q0 hE ?_
   |refine B0 hE ?_|refine B1 hE ?_ ?_|refine B2 hE ?_)<;>intros<;>(try conv=>cbv))
  all_goals (refine hK _ ?_;subst_vars;rfl)
noncomputable def sgI (n:Int):Int:=if 0<n then 1 else if n<0 then -1 else 0
theorem pts3 {ax ay bx by' cx cy:Int} (h:PtOk ax ay) (k:PtOk bx by') (l:PtOk cx cy):∀p∈([⟨ax,ay⟩,⟨bx,by'⟩,⟨cx,cy⟩]:List Pnt),PtOk p.x p.y:=λp hp=>by
  simp only [List.mem_cons,List.not_mem_nil,or_false] at hp
  rcases hp with rfl|rfl|rfl
  · exact h
  · exact k
  · exact l
theorem sideOf_ (ax ay bx by' cx cy:Int) (h:PtOk ax ay) (k:PtOk bx by') (l:PtOk cx cy):AC Tryz.prog 144 [.agg [.int .i64 ax,.int .i64 ay],.agg [.int .i64 bx,.int .i64 by'],.agg [.int .i64 cx,.int .i64 cy]] (AV.int .i64) (sgI (crsR ax ay bx by' cx cy)):=by
  refine ac Tryz.func144 (.int _ _) λE K hE hK=>?_
  conv=>cbv
  refine callPT hE (arePoints_ (l:=[(⟨ax,ay⟩:Pnt),⟨bx,by'⟩,⟨cx,cy⟩]) (by rfl)) (pts3 h k l) ?_
  conv=>cbv
  repeat' first
    |((first
   |refine q0 hE ?_
   |refine callI hE (cross_ _ _ _ _ _ _ h k l) (λ_ _=>?_)
   |refine B0 hE ?_|refine B1 hE ?_ ?_|refine B2 hE ?_)<;>intros<;>(try conv=>cbv))
  all_goals (refine hK _ ?_;show AV.int _ _=AV.int _ _;congr 1;unfold sgI;(repeat' split)<;>omega)
theorem l02Side_ (ax ay bx by' cx cy:Int) (h:PtOk ax ay) (k:PtOk bx by') (l:PtOk cx cy):AC Tryz.prog 171 [.agg [.int .i64 ax,.int .i64 ay],.agg [.int .i64 bx,.int .i64 by'],.agg [.int .i64 cx,.int .i64 cy]] (AV.int .i64) (sgI (crsR ax ay bx by' cx cy)):=by
  refine ac Tryz.func171 (.int _ _) λE K hE hK=>?_
  conv=>cbv
  repeat' first
    |((first
   |refine q0 hE ?_
   |refine callI hE (l02Cross_ _ _ _ _ _ _ h k l) (λ_ _=>?_)
   |refine B0 hE ?_|refine B1 hE ?_ ?_|refine B2 hE ?_)<;>intros<;>(try conv=>cbv))
  all_goals (refine hK _ ?_;show AV.int _ _=AV.int _ _;congr 1;unfold sgI;(repeat' split)<;>omega)
noncomputable def absI (x:Int):Int:=max x (-x)
theorem absI_sq (x:Int):absI x*absI x=x*x:=by
  unfold absI
  rcases Int.le_total 0 x with h|h
  · rw [show max x (-x)=x by omega]
  · rw [show max x (-x)= -x by omega,Int.neg_mul_neg]
noncomputable def gapD (ax ay bx by' px py:Int):Int:=if dotR ax ay bx by' px py<=0 then distR ax ay px py else if sqd ax ay bx by'<=dotR ax ay bx by' px py then distR bx by' px py else farR (absI (crsR ax ay bx by' px py)) (sqd ax ay bx by')
theorem far_fin {x n lo hi:Int} (h0:0<=lo) (h1:lo*lo*n<=x*x) (h2:x*x<(hi+1)*(hi+1)*n) (e:lo=hi):IsFar x n lo:=⟨h0,h1,by rw [e];exact h2⟩
theorem far_le {x n c:Int} {ax ay bx by' px py:Int} (h:PtOk ax ay) (k:PtOk bx by') (l:PtOk px py) (hx:x=absI c) (hc:c=crsR ax ay bx by' px py) (hn:n=sqd ax ay bx by'):x*x<=80000000000*n:=by
  rw [hx,absI_sq,hn,hc]
  exact crs_sq h k l
theorem distanceToSegment_ (ax ay bx by' px py:Int) (h:PtOk ax ay) (k:PtOk bx by') (l:PtOk px py):AC Tryz.prog 143 [.agg [.int .i64 ax,.int .i64 ay],.agg [.int .i64 bx,.int .i64 by'],.agg [.int .i64 px,.int .i64 py]] (AV.int .i64) (gapD ax ay bx by' px py):=by
  refine ac Tryz.func143 (.int _ _) λE K hE hK=>?_
  conv=>cbv
  refine callPT hE (arePoints_ (l:=[(⟨ax,ay⟩:Pnt),⟨bx,by'⟩,⟨px,py⟩]) (by rfl)) (pts3 h k l) ?_
  conv=>cbv
  refine callI hE (squared_ _ _ _ _ h k) λn hn=>?_
  have hnb:=sqd_bd h k
  have hcb:=crs_bd h k l
  have hh:=h
  have hk2:=k
  have hl2:=l
  unfold PtOk at hh hk2 hl2
  conv=>cbv
  repeat' first
    |((refine loop2 hE [7,9] [10,11] (λ(lo hi0:Int)=>([(10,.int .i64 lo),(11,.int .i64 hi0)],[],hi0 - lo,(0<=lo/\lo<=hi0/\hi0<=400000)/\lo*lo*n<=x*x/\x*x<(hi0+1)*(hi0+1)*n)) [] ((0,400000)) rfl rfl (by dsimp only;exact ⟨by omega,by have:=sq_nn x;omega,far_top (by omega) hfl (by decide)⟩) λlo hi0 hi2 Kn2 hN2=>?_;(try dsimp only at hi2);conv=>cbv);obtain ⟨h0,h1,h2⟩:=hi2)
    |(refine hN2 (_,_) _ [] (by decide) rfl ⟨?_,?_,?_⟩ ?_<;>(try dsimp only))
    |((first
   |refine mulC hE 200000 (by omega) (by omega) (λm hm _ _=>?_)
   |(refine add64 hE (by omega) (λd hd=>?_);(have hdd:d=dotR ax ay bx by' px py:=(by subst_vars;unfold dotR;grind)))
   |refine leI hE (λhle=>?_) (λhle=>?_)
   |refine callI hE (cross_ _ _ _ _ _ _ h k l) (λc hc=>?_)
   |(refine maxI hE (λx hx=>?_);(have hxa:x=absI c:=(by unfold absI;omega));have hfl:=far_le h k l hxa hc hn)
   |refine mulP hE 400000 400000 (by omega) (by omega) (λm hm _ _=>?_)
   |refine q0 hE ?_
   |refine callI hE (distance_ _ _ _ _) (λ_ _=>?_)
   |refine callP hE (atMost_ _ n x x (by omega) (by omega) (by omega) (by omega)) (λ_=>?_) (λ_=>?_)
   |refine B0 hE ?_|refine B1 hE ?_ ?_|refine B2 hE ?_)<;>intros<;>(try conv=>cbv))
  all_goals (try clear hN2)
  all_goals first
    |omega
    |(subst_vars;assumption)
    |(refine hK _ (congrArg (AV.int .i64) ?_);rw [gapD,if_pos (by omega)];assumption)
    |(refine hK _ (congrArg (AV.int .i64) ?_);rw [gapD,if_neg (by omega),if_pos (by omega)];assumption)
    |(refine hK _ (congrArg (AV.int .i64) ?_);rw [gapD,if_neg (by omega),if_neg (by omega),←hn,←hc,←hxa,farR_eq (by omega) (far_fin h0.1 h1 h2 (by omega))])
    |(rename_i hnm y hy;rw [hy,show ∀a:Int,a - 1+1=a from λa=>by omega,←hm];exact Int.not_le.1 hnm)
theorem l02Far_ (x n:Int) (hx:0<=x/\x<=80000000000) (hn:0<n/\n<=80000000000) (hb:x*x<=80000000000*n):AC Tryz.prog 231 [.int .i64 x,.int .i64 n] (AV.int .i64) (farR x n):=by
  refine ac Tryz.func231 (.int _ _) λE K hE hK=>?_
  conv=>cbv
  refine callII hE (l02Product_ x x (by omega) (by omega)) λq z hq hz=>?_
  conv=>cbv
  refine loop2 hE [1,5,6] [7,8] (λ(lo hi0:Int)=>([(7,.int .i64 lo),(8,.int .i64 hi0)],[],hi0 - lo,(0<=lo/\lo<=hi0/\hi0<=300000)/\lo*lo*n<=x*x/\x*x<(hi0+1)*(hi0+1)*n)) [] ((0,300000)) rfl rfl (by dsimp only;exact ⟨by omega,by have:=sq_nn x;omega,far_top hn.1 hb (by decide)⟩) λlo hi0 hi Kn hN=>?_
  (try dsimp only at hi)
  conv=>cbv
  obtain ⟨h0,h1,h2⟩:=hi
  repeat' first
    |(refine hN (_,_) _ [] (by decide) rfl ⟨?_,?_,?_⟩ ?_<;>(try dsimp only))
    |((first
   |refine mulP hE 300000 300000 (by omega) (by omega) (λm hm _ _=>?_)
   |refine callII hE (l02Product_ _ n (by omega) (by omega)) (λu v hu hv=>?_)
   |refine q0 hE ?_
   |refine B0 hE ?_|refine B1 hE ?_ ?_|refine B2 hE ?_)<;>intros<;>(try conv=>cbv))
  all_goals (try clear hN)
  all_goals first
    |omega
    |(refine hK _ ?_;rw [farR_eq hn.1 (far_fin h0.1 h1 h2 (by omega))];rfl)
    |(simp only at hq hz hu hv;rw [←hm];clear h1 h2 hb;generalize m*n=A at *;generalize x*x=B at *;omega)
    |(rename_i hr;simp only at hq hz hu hv;rw [hr,show ∀a:Int,a - 1+1=a from λa=>by omega,←hm];clear h1 h2 hb;generalize m*n=A at *;generalize x*x=B at *;omega)
theorem l02Max_ (a b:Int):AC Tryz.prog 232 [.int .i64 a,.int .i64 b] (AV.int .i64) (max a b):=by
  refine ac Tryz.func232 (.int _ _) λE K hE hK=>?_
  conv=>cbv
  repeat' first
    |((first
   |refine q0 hE ?_
   |refine B0 hE ?_|refine B1 hE ?_ ?_|refine B2 hE ?_)<;>intros<;>(try conv=>cbv))
  all_goals (refine hK _ ?_;show AV.int _ _=AV.int _ _;congr 1;omega)
theorem l02Gap_ (ax ay bx by' px py:Int) (h:PtOk ax ay) (k:PtOk bx by') (l:PtOk px py):AC Tryz.prog 170 [.agg [.int .i64 ax,.int .i64 ay],.agg [.int .i64 bx,.int .i64 by'],.agg [.int .i64 px,.int .i64 py]] (AV.int .i64) (gapD ax ay bx by' px py):=by
  refine ac Tryz.func170 (.int _ _) λE K hE hK=>?_
  conv=>cbv
  have hnb:=sqd_bd h k
  have hcb:=crs_bd h k l
  have hh:=h
  have hk2:=k
  have hl2:=l
  unfold PtOk at hh hk2 hl2
  repeat' first
    |((first
   |refine mulC hE 200000 (by omega) (by omega) (λm hm _ _=>?_)
   |(refine add64 hE (by omega) (λd hd=>?_);(have hdd:d=dotR ax ay bx by' px py:=(by subst_vars;unfold dotR;grind)))
   |refine callI hE (l02Square_ _ _ _ _ h k) (λn hn=>?_)
   |refine leI hE (λhle=>?_) (λhle=>?_)
   |refine callI hE (l02Cross_ _ _ _ _ _ _ h k l) (λc hc=>?_)
   |(refine callI hE (l02Max_ c _) (λx hx=>?_);(have hxa:x=absI c:=(by unfold absI;omega)))
   |refine callI hE (l02Far_ x n (by omega) (by omega) (far_le h k l hxa hc hn)) (λr hr=>?_)
   |refine q0 hE ?_
   |refine callI hE (l02Apart_ _ _ _ _ h l) (λ_ _=>?_)
   |refine callI hE (l02Apart_ _ _ _ _ k l) (λ_ _=>?_)
   |refine B0 hE ?_|refine B1 hE ?_ ?_|refine B2 hE ?_)<;>intros<;>(try conv=>cbv))
  all_goals first
    |(refine hK _ (congrArg (AV.int .i64) ?_);rw [gapD,if_pos (by omega)];assumption)
    |(refine hK _ (congrArg (AV.int .i64) ?_);rw [gapD,if_neg (by omega),if_pos (by omega)];assumption)
    |(refine hK _ (congrArg (AV.int .i64) ?_);rw [gapD,if_neg (by omega),if_neg (by omega),←hn,←hc,←hxa];exact hr)
theorem farR_nn (x n:Int):0<=farR x n:=by
  unfold farR
  split
  · rename_i h;exact h.choose_spec.1
  · omega
theorem gapD_nn (ax ay bx by' px py:Int):0<=gapD ax ay bx by' px py:=by
  unfold gapD
  split
  · exact (distR_bd _ _ _ _).1
  · split
    · exact (distR_bd _ _ _ _).1
    · exact farR_nn _ _
noncomputable section
def gaps (x y:Int):List Pnt->List Int
  |p::q::l=>gapD p.x p.y q.x q.y x y::gaps x y (q::l)
  |_=>[]
def nearF:List Int->Int->Int×Int->Int×Int
  |[],_,q=>q
  |g::gs,i,q=>nearF gs (i+1) (if q.2<0∨g<q.2 then (i,g) else q)
def nearR (l:List Pnt) (x y:Int):Int×Int:=nearF (gaps x y l) 0 (0, -1)
def pntA (l:List Pnt) (k:Nat):Pnt:=l.getD k ⟨0,0⟩
def sideR (l:List Pnt) (x y:Int):Int:=sgI (crsR (pntA l (nearR l x y).1.toNat).x (pntA l (nearR l x y).1.toNat).y (pntA l ((nearR l x y).1.toNat+1)).x (pntA l ((nearR l x y).1.toNat+1)).y x y)
end
theorem pntA_eq {l:List Pnt} {k:Nat} {p:Pnt} (h:l[k]? =some p):pntA l k=p:=by unfold pntA;rw [List.getD_eq_getElem?_getD,h];rfl
theorem gaps_len (x y:Int):∀l:List Pnt,(gaps x y l).length=l.length - 1
  |[]=>rfl
  |[_]=>rfl
  |p::q::l=>by simp only [gaps,List.length_cons,gaps_len x y (q::l)];omega
theorem gaps_get (x y:Int):∀(l:List Pnt) (i:Nat) (p q:Pnt),l[i]? =some p->l[i+1]? =some q->(gaps x y l)[i]? =some (gapD p.x p.y q.x q.y x y)
  |[],i,p,q,h,_=>by simp at h
  |[_],i,p,q,_,h=>by simp at h
  | a::b::l,0,p,q,h,k=>by
    simp at h k;subst h;subst k;rfl
  | a::b::l,i+1,p,q,h,k=>by
    have:=gaps_get x y (b::l) i p q (by simpa using h) (by simpa using k)
    simpa [gaps] using this
theorem nearF_step {gs:List Int} {i:Nat} {g:Int} (h:gs[i]? =some g) (k:Int) (q:Int×Int):nearF (gs.drop i) k q=nearF (gs.drop (i+1)) (k+1) (if q.2<0∨g<q.2 then (k,g) else q):=by
  obtain ⟨hl,he⟩:=List.getElem?_eq_some_iff.1 h
  rw [List.drop_eq_getElem_cons hl,he,nearF]
theorem nearF_bd {M:Int}:∀(gs:List Int) (i:Int) (q:Int×Int),0<=i->(0<=q.1/\q.1<=M)->i+gs.length<=M+1->0<=(nearF gs i q).1/\(nearF gs i q).1<=M
  |[],_,_,_,h,_=>h
  | g::gs,i,q,h0,h,h1=>by
    rw [List.length_cons] at h1
    rw [nearF]
    refine nearF_bd gs (i+1) _ (by omega) ?_ (by omega)
    split
    · show 0<=i/\i<=M;omega
    · exact h
theorem nearR_bd {l:List Pnt} (h2:2<=l.length) (x y:Int):0<=(nearR l x y).1/\(nearR l x y).1+1<l.length:=by
  have:=nearF_bd (M:=l.length - 2) (gaps x y l) 0 (0, -1) (by omega) (by show (0:Int)<=0/\(0:Int)<=l.length - 2;omega) (by rw [gaps_len];omega)
  unfold nearR
  omega
def NearInv (l:List Pnt) (x y i b m:Int):Prop:=(1<=i/\i<=l.length)/\nearR l x y=nearF ((gaps x y l).drop (i - 1).toNat) (i - 1) (b,m)
theorem NearInv.start {l:List Pnt} (h2:2<=l.length) (x y:Int):NearInv l x y 1 0 (-1):=⟨by omega,by simp [nearR]⟩
theorem NearInv.step {l:List Pnt} {x y i b m k n:Int} {p q:Pnt} (h:NearInv l x y i b m) (hk:k=i - 1) (hp:l[k.toNat]? =some p) (hq:l[i.toNat]? =some q) (hn:n=i+1):
    ((m<0∨gapD p.x p.y q.x q.y x y<m)->NearInv l x y n k (gapD p.x p.y q.x q.y x y))/\(¬(m<0∨gapD p.x p.y q.x q.y x y<m)->NearInv l x y n b m):=by
  obtain ⟨h1,h2⟩:=h
  have hl:=(List.getElem?_eq_some_iff.1 hq).1
  have hs:(gaps x y l)[(i - 1).toNat]? =some (gapD p.x p.y q.x q.y x y):=by
    rw [show (i - 1).toNat=k.toNat by omega]
    exact gaps_get x y l k.toNat p q hp (by rw [show k.toNat+1=i.toNat by omega];exact hq)
  rw [nearF_step hs] at h2
  subst hn
  unfold NearInv
  rw [show (i+1 - 1).toNat=(i - 1).toNat+1 by omega,show i+1 - 1=i - 1+1 by omega]
  constructor
  · intro hc
    rw [if_pos hc,←hk] at h2
    exact ⟨by omega,by rw [h2,hk]⟩
  · intro hc
    rw [if_neg hc] at h2
    exact ⟨by omega,h2⟩
theorem NearInv.fin {l:List Pnt} {x y i b m:Int} (h:NearInv l x y i b m) (h2:l.length<=i):nearR l x y=(b,m):=by
  rw [h.2,List.drop_of_length_le (by rw [gaps_len];omega)];rfl
theorem nearest_ (n:ByteArray) (w x y:Int) {rl:List (List AV)} {t:Bool} {l:List Pnt} (hl:rl=l.map Pnt.cs) (hok:LnOk l) (h12:2<=l.length/\l.length<=12) (hpt:PtOk x y):AC Tryz.prog 74 [.agg [.str n,.sl t 2 rl,.int .i64 w],.agg [.int .i64 x,.int .i64 y]] two (nearR l x y):=by
  refine ac Tryz.func74 (.two _) λE K hE hK=>?_
  conv=>cbv
  refine loop3 hE [2,3] [8,6,7] (λ(i b m:Int)=>([(8,.int .i64 i),(6,.int .i64 b),(7,.int .i64 m)],[.box [.str n,.sl t 2 rl,.int .i64 w],.box [.int .i64 x,.int .i64 y]],l.length - i,NearInv l x y i b m)) [0,1] ((1,0, -1)) rfl rfl (by dsimp only;exact NearInv.start h12.1 x y) λi b m hi Kn hN=>?_
  (try dsimp only at hi)
  conv=>cbv
  have h1:=hi.1
  refine lenL hE hl λz hz _=>?_
  conv=>cbv
  refine ltI hE (λhlt=>?_) (λhge=>?_)<;>conv=>cbv
  · refine sub64 hE (by omega) λk hk=>?_
    conv=>cbv
    refine idxL (R:=Pnt.cs) hE hl (by omega) λp hp=>?_
    have hst:=λq hq n hn=>hi.step (q:=q) (n:=n) hk hp hq hn
    have hpp:=hok.pt hp
    obtain ⟨p1,p2⟩:=p
    conv=>cbv
    refine idxL (R:=Pnt.cs) hE hl (by omega) λq hq=>?_
    have hst:=hst q hq
    have hqq:=hok.pt hq
    obtain ⟨q1,q2⟩:=q
    conv=>cbv
    repeat' first
      |(refine hN (_,_,_) _ [0,1] (by decide) rfl ?_ ?_<;>(try dsimp only))
      |((first
     |refine callI hE (distanceToSegment_ p1 p2 q1 q2 x y hpp hqq hpt) (λg hg=>?_)
     |refine q0 hE ?_
     |refine B0 hE ?_|refine B1 hE ?_ ?_|refine B2 hE ?_)<;>intros<;>(try conv=>cbv))
    all_goals (try clear hN)
    all_goals first
      |omega
      |(rw [hg];exact (hst _ (by assumption)).1 (by omega))
      |(have hh:=(hst _ (by assumption)).1 (by simp only;omega);rw [←hg] at hh;first|exact hh|(rename_i j e1 _ _;rw [show j=k by omega];exact hh))
      |exact (hst _ (by assumption)).2 (by simp only;omega)
  · exact hK _ (by rw [hi.fin (by omega)];rfl)
theorem l13Nearest_ (x y:Int) {rl:List (List AV)} {t:Bool} {l:List Pnt} (hl:rl=l.map Pnt.cs) (hok:LnOk l) (h12:2<=l.length/\l.length<=12) (hpt:PtOk x y):AC Tryz.prog 108 [.sl t 2 rl,.agg [.int .i64 x,.int .i64 y]] two ((nearR l x y).1+1,(nearR l x y).2):=by
  refine ac Tryz.func108 (.two _) λE K hE hK=>?_
  conv=>cbv
  refine idxL (R:=Pnt.cs) hE hl (by omega) λp hp=>?_
  have hst0:=λq hq=>((NearInv.start h12.1 x y).step (k:=0) (q:=q) (n:=2) (by decide) hp hq (by decide)).1 (by omega)
  have hpp:=hok.pt hp
  obtain ⟨p1,p2⟩:=p
  conv=>cbv
  refine idxL (R:=Pnt.cs) hE hl (by omega) λq hq=>?_
  have hst0:=hst0 q hq
  have hqq:=hok.pt hq
  obtain ⟨q1,q2⟩:=q
  have hnn:=gapD_nn p1 p2 q1 q2 x y
  conv=>cbv
  refine callI hE (l02Gap_ p1 p2 q1 q2 x y hpp hqq hpt) λg0 hg0=>?_
  simp only at hst0
  rw [←hg0] at hst0 hnn
  conv=>cbv
  refine loop3 hE [0,3] [8,6,7] (λ(i b m:Int)=>([(8,.int .i64 i),(6,.int .i64 b),(7,.int .i64 m)],[.box [.int .i64 x,.int .i64 y]],l.length - i,2<=i/\0<=m/\NearInv l x y i (b - 1) m)) [0] ((2,1,g0)) rfl rfl (by dsimp only;exact ⟨by omega,hnn,hst0⟩) λi b m hi Kn hN=>?_
  (try dsimp only at hi)
  conv=>cbv
  obtain ⟨h2,hm0,hinv⟩:=hi
  have h1:=hinv.1
  refine lenL hE hl λz hz _=>?_
  conv=>cbv
  refine ltI hE (λhlt=>?_) (λhge=>?_)<;>conv=>cbv
  · refine sub64 hE (by omega) λk hk=>?_
    conv=>cbv
    clear hp hq hst0 hpp hqq hg0
    refine idxL (R:=Pnt.cs) hE hl (by omega) λp hp=>?_
    have hst:=λq hq n hn=>hinv.step (q:=q) (n:=n) hk hp hq hn
    have hpp:=hok.pt hp
    obtain ⟨r1,r2⟩:=p
    conv=>cbv
    refine idxL (R:=Pnt.cs) hE hl (by omega) λq hq=>?_
    have hst:=hst q hq
    have hqq:=hok.pt hq
    obtain ⟨s1,s2⟩:=q
    have hnn2:=gapD_nn r1 r2 s1 s2 x y
    conv=>cbv
    repeat' first
      |(refine hN (_,_,_) _ [0] (by decide) rfl ⟨?_,?_,?_⟩ ?_<;>(try dsimp only))
      |((first
     |(refine callI hE (l02Gap_ r1 r2 s1 s2 x y hpp hqq hpt) (λg hg=>?_);simp only at hst;rw [←hg] at hst hnn2)
     |refine q0 hE ?_
     |refine B0 hE ?_|refine B1 hE ?_ ?_|refine B2 hE ?_)<;>intros<;>(try conv=>cbv))
    all_goals (try clear hN)
    all_goals first
      |omega
      |(rw [←hk];exact (hst _ (by assumption)).1 (.inr (by assumption)))
      |exact (hst _ (by assumption)).2 (by omega)
  · exact hK _ (by rw [hinv.fin (by omega)];show two (b,m)=two (b - 1+1,m);rw [show b - 1+1=b by omega])
theorem side_ (n:ByteArray) (w x y:Int) {rl:List (List AV)} {t:Bool} {l:List Pnt} (hl:rl=l.map Pnt.cs) (hok:LnOk l) (h12:2<=l.length/\l.length<=12) (hpt:PtOk x y):AC Tryz.prog 76 [.agg [.str n,.sl t 2 rl,.int .i64 w],.agg [.int .i64 x,.int .i64 y]] (AV.int .i64) (sideR l x y):=by
  refine ac Tryz.func76 (.int _ _) λE K hE hK=>?_
  conv=>cbv
  have hbd:=nearR_bd h12.1 x y
  refine callII hE (nearest_ n w x y hl hok h12 hpt) λk d hk _=>?_
  conv=>cbv
  repeat' first
    |((first
   |(refine idxL (R:=Pnt.cs) hE hl (by omega) (λp hp=>?_);have hpe:=pntA_eq hp;have hpp:=hok.pt hp;obtain ⟨p1,p2⟩:=p;(try conv=>cbv);refine add64 hE (by omega) (λk2 hk2=>?_);(try conv=>cbv);refine idxL (R:=Pnt.cs) hE hl (by omega) (λq hq=>?_);have hqe:=pntA_eq hq;have hqq:=hok.pt hq;obtain ⟨q1,q2⟩:=q)
   |refine q0 hE ?_
   |refine callI hE (sideOf_ _ _ _ _ _ _ hpp hqq hpt) (λ_ _=>?_)
   |refine B0 hE ?_|refine B1 hE ?_ ?_|refine B2 hE ?_)<;>intros<;>(try conv=>cbv))
  all_goals first
    |(refine hK _ ?_;unfold sideR;rw [←hk,hpe,show k.toNat+1=k2.toNat by omega,hqe];subst_vars;rfl)
theorem l13Side_ (n:ByteArray) (w x y:Int) {rl:List (List AV)} {t:Bool} {l:List Pnt} (hl:rl=l.map Pnt.cs) (hok:LnOk l) (h12:2<=l.length/\l.length<=12) (hpt:PtOk x y):AC Tryz.prog 109 [.pp [.str n,.sl t 2 rl,.int .i64 w],.agg [.int .i64 x,.int .i64 y]] (AV.int .i64) (sideR l x y):=by
  refine ac Tryz.func109 (.int _ _) λE K hE hK=>?_
  conv=>cbv
  have hbd:=nearR_bd h12.1 x y
  repeat' first
    |((first
   |(refine callII hE (l13Nearest_ x y hl hok h12 hpt) (λk d hk _=>?_);simp only at hk)
   |(refine sub64 hE (by omega) (λk2 hk2=>?_);(try conv=>cbv);refine idxL (R:=Pnt.cs) hE hl (by omega) (λp hp=>?_);have hpe:=pntA_eq hp;have hpp:=hok.pt hp;obtain ⟨p1,p2⟩:=p;(try conv=>cbv);refine idxL (R:=Pnt.cs) hE hl (by omega) (λq hq=>?_);have hqe:=pntA_eq hq;have hqq:=hok.pt hq;obtain ⟨q1,q2⟩:=q)
   |refine q0 hE ?_
   |refine callI hE (l02Side_ _ _ _ _ _ _ hpp hqq hpt) (λ_ _=>?_)
   |refine B0 hE ?_|refine B1 hE ?_ ?_|refine B2 hE ?_)<;>intros<;>(try conv=>cbv))
  all_goals first
    |(refine hK _ ?_;unfold sideR;rw [show (nearR l x y).1=k2 by omega,hpe,show k2.toNat+1=k.toNat by omega,hqe];subst_vars;rfl)
theorem indexBuoy2_ {rs:List (List AV)} {t:Bool} {l:List Buo} {g:FuncId} {c0:List AV} {c1:List AV} {p:Buo->Prop} (hl:rs=l.map Buo.cs) (hp:∀atX atY kind,AC Tryz.prog g (.agg [.int .i64 atX,.int .i64 atY,.int .i64 kind]::[.pp c0,.pp c1]) AV.bool (bP (p ⟨atX,atY,kind⟩))):AC Tryz.prog 201 [.sl t 3 rs,.fn g [.pp c0,.pp c1]] (AV.int .i64) (firstI p l):=by
  refine ac Tryz.func201 (.int _ _) λE K hE hK=>?_
  conv=>cbv
  refine lenL hE hl λn hn hb=>?_
  conv=>cbv
  refine loop1 hE [0,1,7] [8] (λ(i:Int)=>([(8,.int .i64 i)],[],l.length - i,0<=i/\Up (λj=>∀v,l[j]? =some v->¬p v) i)) [] (0) rfl rfl (by dsimp only;exact ⟨by omega,.zero (by omega)⟩) λi hi Kn hN=>?_
  (try dsimp only at hi)
  conv=>cbv
  obtain ⟨h0,hinv⟩:=hi
  repeat' first
    |(refine hN _ _ [] (by decide) rfl ⟨?_,?_⟩ ?_<;>(try dsimp only))
    |((first
   |refine q0 hE ?_
   |refine callP hE (hp _ _ _) (λ_=>?_) (λ_=>?_)
   |(refine idxL (R:=Buo.cs) hE (by assumption) (by first|omega|(simp only [List.length_set,mix_len];omega)) ?_;rintro ⟨⟩ _)
   |refine B0 hE ?_|refine B1 hE ?_ ?_|refine B2 hE ?_)<;>intros<;>(try conv=>cbv))
  · refine hK _ ?_
    rw [firstI_in h0 (by assumption) (by assumption) hinv];rfl
  · omega
  · refine hinv.succ ?_ (by assumption)
    clear hN;simp_all
  · omega
  · refine hK _ ?_
    rw [firstI_out (by omega) hinv];rfl
theorem containsBuoy2_ {rs:List (List AV)} {t:Bool} {l:List Buo} {g:FuncId} {c0:List AV} {c1:List AV} {p:Buo->Prop} (hl:rs=l.map Buo.cs) (hp:∀atX atY kind,AC Tryz.prog g (.agg [.int .i64 atX,.int .i64 atY,.int .i64 kind]::[.pp c0,.pp c1]) AV.bool (bP (p ⟨atX,atY,kind⟩))):AC Tryz.prog 138 [.sl t 3 rs,.fn g [.pp c0,.pp c1]] AV.bool (bP (∃v∈l,p v)):=by
  refine ac Tryz.func138 (.bool _) λE K hE hK=>?_
  conv=>cbv
  refine callI hE (indexBuoy2_ hl hp) λy hy=>?_
  conv=>cbv
  refine leI hE (λh=>?_) (λh=>?_)<;>conv=>cbv
  · exact finB hK (bP_true.2 (firstI_ge.1 (by omega)))
  · exact finB hK (bP_false.2 λh'=>by have:=firstI_ge.2 h';omega)
theorem deleteBuoy2_ {rs:List (List AV)} {l:List Buo} {g:FuncId} {c0:List AV} {c1:List AV} {p:Buo->Prop} (hl:rs=l.map Buo.cs) (hbl:l.length<=1048576) (hp:∀atX atY kind,AC Tryz.prog g (.agg [.int .i64 atX,.int .i64 atY,.int .i64 kind]::[.pp c0,.pp c1]) AV.bool (bP (p ⟨atX,atY,kind⟩))):ACM Tryz.prog 136 [.sl true 3 rs,.fn g [.pp c0,.pp c1]] (λr ys=>∃rs',rs'=(rej p l).map Buo.cs/\r= .sl true 3 rs'/\ys=[.any,.any]):=by
  refine acm 1 Tryz.func136 (λr ys ⟨rs',h1,h2,h3⟩=>⟨by rw [h2,h1];exact .rows .oBuo,by rw [h3];simp;exact .any⟩) λE K hE hK=>?_
  conv=>cbv
  refine callI hE (indexBuoy2_ hl hp) λy hy=>?_
  conv=>cbv
  rcases firstI_spec p l with ⟨g1,g2,⟨v0,g3,g4⟩,g5⟩|⟨g1,g2⟩
  · rw [←hy] at g1 g2 g3 g5
    refine eqF hE (by omega) ?_
    conv=>cbv
    refine add64 hE (by omega) λn1 hn1=>?_
    conv=>cbv
    refine loop3 hE [1] [5,6,0] (λ(i j:Int) (es:List (List AV))=>([(5,.int .i64 i),(6,.int .i64 j),(0,.ob 0)],[.row 3 es],l.length - j,∃m:List Buo,es=m.map Buo.cs/\m.length=l.length/\(0<=i/\i<j/\j<=l.length)/\m.take i.toNat=(l.take j.toNat).filter (λv=>decide (¬p v))/\m.drop j.toNat=l.drop j.toNat)) [0] ((y,n1,rs)) rfl rfl (by dsimp only;exact ⟨l,hl,rfl,by omega,filt_start g1 (by omega) g3 g4 g5,rfl⟩) λi j es hi Kn hN=>?_
    (try dsimp only at hi)
    conv=>cbv
    obtain ⟨m,h2,h3,⟨h0,h1,h1'⟩,h4,h5⟩:=hi
    have hes:es.length=m.length:=by rw [h2];exact List.length_map ..
    repeat' first
      |(refine hN (_,_,_) _ [0] (by decide) rfl ⟨_,by assumption,?_,?_,?_,?_⟩ ?_<;>(try dsimp only))
      |((first
     |(refine idxL hE h2 (by omega) (λv hv=>?_);have hv2:=filt_get h5 hv;have hv3:=hv;obtain ⟨atX,atY,kind⟩:=v)
     |(refine updL hE (v':=(⟨_,_,_⟩:Buo)) (by assumption) (by omega) (List.getElem?_eq_getElem (by omega)) (by exact Nat.le_of_ble_eq_true rfl) (by first|rfl|((conv=>lhs;cbv);rfl)) (λ_ _=>?_))
     |refine q0 hE ?_
     |refine callP hE (hp _ _ _) (λ_=>?_) (λ_=>?_)
     |refine subL hE h2 (by simp only [Option.getD_some,Option.getD_none];omega) (λ_ _=>?_)
     |refine clrG hE (by omega) (λes2 hl2 ht2=>?_)
     |refine subG hE (by simp only [Option.getD_some,Option.getD_none];omega) (λ_ _=>?_)
     |refine B0 hE ?_|refine B1 hE ?_ ?_|refine B2 hE ?_)<;>intros<;>(try conv=>cbv))
    all_goals first
      |omega
      |(simp only [List.length_set];omega)
      |exact hK _ _ ⟨_,filt_done h2 ht2 h4 (by omega) (by assumption),rfl,rfl⟩
      |exact filt_skip (by omega) hv2 (by assumption) (by assumption) h4
      |exact filt_keep (by omega) (by omega) hv2 (by assumption) (by assumption) (by assumption) h4
      |exact filt_drop (by omega) (by assumption) h5
      |exact filt_dropS (by omega) (by assumption) h5
  · rw [←hy] at g1
    refine eqT hE g1 ?_
    conv=>cbv
    exact hK _ _ ⟨rs,by rw [hl,filt_none g2],rfl,rfl⟩
def Buo.ok (v:Buo):Prop:=PtOk v.atX v.atY/\1<=v.kind/\v.kind<=9
def BuosOk (b:List Buo):Prop:=(∀v∈b,v.ok)/\b.length<=64
theorem validBuoys_ {rs:List (List AV)} {t:Bool} {l:List Buo} (hl:rs=l.map Buo.cs) (hok:BuosOk l):AC Tryz.prog 133 [.sl t 3 rs] AV.bool true:=by
  refine ac Tryz.func133 (.bool _) λE K hE hK=>?_
  conv=>cbv
  have h64:=hok.2
  refine lenL hE hl λn hn _=>?_
  conv=>cbv
  refine loop1 hE [0,5,6] [7] (λ(i:Int)=>([(7,.int .i64 i)],[],n - i,0<=i)) [] (0) rfl rfl (by dsimp only;exact by omega) λi hi Kn hN=>?_
  (try dsimp only at hi)
  conv=>cbv
  repeat' first
    |(refine hN _ _ [] (by decide) rfl ?_ ?_<;>(try dsimp only))
    |((first
   |(refine idxL (R:=Buo.cs) hE hl (by omega) (λv hv=>?_);have hvo:=hok.1 _ (List.mem_of_getElem? hv);obtain ⟨v1,v2,v3⟩:=v)
   |refine callPT hE (validPoint_ _ _) hvo.1 ?_
   |refine callPT hE (isMarkKind_ _) hvo.2 ?_
   |refine q0 hE ?_
   |refine callP hE (few_ _ _) (λ_=>?_) (λ_=>?_)
   |refine B0 hE ?_|refine B1 hE ?_ ?_|refine B2 hE ?_)<;>intros<;>(try conv=>cbv))
  all_goals (try clear hN)
  all_goals first
    |omega
    |exact hK _ rfl
theorem l13List_ {rs:List (List AV)} {t:Bool} {l:List Buo} (hl:rs=l.map Buo.cs) (hok:BuosOk l):AC Tryz.prog 167 [.sl t 3 rs] AV.bool true:=by
  refine ac Tryz.func167 (.bool _) λE K hE hK=>?_
  conv=>cbv
  have h64:=hok.2
  refine loop1 hE [0] [3] (λ(i:Int)=>([(3,.int .i64 i)],[],l.length - i,0<=i)) [] (0) rfl rfl (by dsimp only;exact by omega) λi hi Kn hN=>?_
  (try dsimp only at hi)
  conv=>cbv
  repeat' first
    |(refine hN _ _ [] (by decide) rfl ?_ ?_<;>(try dsimp only))
    |((first
   |refine lenL hE hl (λn hn _=>?_)
   |(refine idxL (R:=Buo.cs) hE hl (by omega) (λv hv=>?_);have hvo:=hok.1 _ (List.mem_of_getElem? hv);obtain ⟨v1,v2,v3⟩:=v)
   |refine callPT hE (l02Ok_ _ _) hvo.1 ?_
   |refine callPT hE (l11Kind_ _) hvo.2 ?_
   |refine q0 hE ?_
   |refine B0 hE ?_|refine B1 hE ?_ ?_|refine B2 hE ?_)<;>intros<;>(try conv=>cbv))
  all_goals (try clear hN)
  all_goals first
    |omega
    |exact hK _ rfl
theorem buoysFor_ (n:ByteArray) (w s:Int) {rl:List (List AV)} {t:Bool} {l:List Pnt} (hl:rl=l.map Pnt.cs):AC Tryz.prog 135 [.agg [.str n,.sl t 2 rl,.int .i64 w],.int .i64 s] buoLI (buoysR n l w s):=by
  refine ac Tryz.func135 (.buoLI _) λE K hE hK=>?_
  conv=>cbv
  have hg32:=gatesR_code n l w s
  refine callLI (R:=Gat.cs) (k:=5) hE (gatesFor_ n w s hl) λrs c hrs hc=>?_
  conv=>cbv
  refine eqI hE (λh=>?_) (λh=>?_)<;>conv=>cbv
  · refine lenL hE hrs λm hm hmb=>?_
    conv=>cbv
    repeat' first
      |((refine loop2 hE [21,22] [23,8] (λ(i:Int) (es:List (List AV))=>([(23,.int .i64 i),(8,.ob 1)],[.row 5 rs,.row 3 es],(gatesR n l w s).1.length - i,(0<=i/\i<=(gatesR n l w s).1.length)/\es=(buoysOf ((gatesR n l w s).1.take i.toNat)).map Buo.cs)) [1,2] ((0,[])) rfl rfl (by dsimp only;exact ⟨by omega,by rfl⟩) λi es hi2 Kn2 hN2=>?_;(try dsimp only at hi2);conv=>cbv);obtain ⟨⟨h0,h1⟩,h2⟩:=hi2)
      |(refine hN2 (_,_) _ [0,3] (by decide) rfl ⟨?_,?_⟩ ?_<;>(try dsimp only))
      |(refine hN2 (_,_) _ [0,2] (by decide) rfl ⟨?_,?_⟩ ?_<;>(try dsimp only))
      |(refine hN2 (_,_) _ [0,4] (by decide) rfl ⟨?_,?_⟩ ?_<;>(try dsimp only))
      |((first
     |(refine idxL (R:=Gat.cs) hE hrs (by omega) (λg hg=>?_);obtain ⟨g1,g2,g3,g4,g5⟩:=g)
     |(refine catL hE (R:=Buo.cs) (m:=[⟨g2,g3,1⟩,⟨g4,g5,2⟩]) h2 rfl (by simp only [buoysOf_len,List.length_take,List.length_cons,List.length_nil];omega) (λes4 hes4=>?_))
     |refine q0 hE ?_
     |refine B0 hE ?_|refine B1 hE ?_ ?_|refine B2 hE ?_)<;>intros<;>(try conv=>cbv))
    all_goals (try clear hN2)
    all_goals first
      |omega
      |(rw [buoysOf_step h0 hg (by assumption),hes4])
      |(refine hK _ ?_;rw [buoysR,if_pos (by omega),h2,List.take_of_length_le (by omega)];rfl)
  · refine nilOwnI hE 3 ?_
    conv=>cbv
    exact hK _ (by rw [buoysR,if_neg (by omega),←hc];rfl)
theorem gatesR_chn {n:ByteArray} {l:List Pnt} {w s:Int} (h:(gatesR n l w s).2=0):ChnOk n l w:=by
  unfold gatesR at h
  split at h
  · assumption
  · exact absurd h (by decide)
theorem buoysR_len (n:ByteArray) (l:List Pnt) (w s:Int):(buoysR n l w s).1.length<=64:=by
  have:=gatesR_code n l w s
  unfold buoysR
  split
  · simp only [buoysOf_len];omega
  · simp
def hasB (b:List Buo) (t:Int) (w:Buo):Prop:=∃v∈b,v.kind=w.kind/\distR v.atX v.atY w.atX w.atY<=t
noncomputable def missR (n:ByteArray) (l:List Pnt) (w s t:Int) (b:List Buo):List Buo:=rej (hasB b t) (buoysR n l w s).1
theorem missing11_ (x y k x' y' k' t:Int):AC Tryz.prog 139 [.agg [.int .i64 x,.int .i64 y,.int .i64 k],.pp [.int .i64 x',.int .i64 y',.int .i64 k'],.pp [.int .i64 t]] AV.bool (bP ((λv:Buo=>v.kind=k'/\distR v.atX v.atY x' y'<=t) ⟨x,y,k⟩)):=by
  refine ac Tryz.func139 (.bool _) λE K hE hK=>?_
  conv=>cbv
  repeat' first
    |((first
   |refine q0 hE ?_
   |refine callI hE (distance_ _ _ _ _) (λ_ _=>?_)
   |refine B0 hE ?_|refine B1 hE ?_ ?_|refine B2 hE ?_)<;>intros<;>(try conv=>cbv))
  all_goals first
    |exact finB hK (bP_true.2 ⟨by assumption,by simp only;omega⟩)
    |(refine finB hK (bP_false.2 λh=>?_);obtain ⟨h1,h2⟩:=h;simp only at h1 h2;omega)
theorem missing1_ (x y k t:Int) {rs:List (List AV)} {tb:Bool} {b:List Buo} (hb:rs=b.map Buo.cs):AC Tryz.prog 137 [.agg [.int .i64 x,.int .i64 y,.int .i64 k],.pp [.sl tb 3 rs],.pp [.int .i64 t]] AV.bool (bP (hasB b t ⟨x,y,k⟩)):=by
  refine ac Tryz.func137 (.bool _) λE K hE hK=>?_
  conv=>cbv
  repeat' first
    |((first
   |refine q0 hE ?_
   |refine callP hE (containsBuoy2_ (p:=λv:Buo=>v.kind=k/\distR v.atX v.atY x y<=t) hb (λx1 y1 k1=>missing11_ x1 y1 k1 x y k t)) (λ_=>?_) (λ_=>?_)
   |refine B0 hE ?_|refine B1 hE ?_ ?_|refine B2 hE ?_)<;>intros<;>(try conv=>cbv))
  all_goals first
    |exact finB hK (bP_true.2 (by assumption))
    |exact finB hK (bP_false.2 (by assumption))
theorem missingBuoys_ (n:ByteArray) (w s t:Int) {rl rb:List (List AV)} {tl tb:Bool} {l:List Pnt} {b:List Buo} (hl:rl=l.map Pnt.cs) (hb:rb=b.map Buo.cs) (hB:BuosOk b) (hc:(gatesR n l w s).2=0) (ht:0<=t/\t<=5000):AC Tryz.prog 71 [.agg [.str n,.sl tl 2 rl,.int .i64 w],.int .i64 s,.sl tb 3 rb,.int .i64 t] buoLI (missR n l w s t b,0):=by
  refine ac Tryz.func71 (.buoLI _) λE K hE hK=>?_
  conv=>cbv
  have h64:=buoysR_len n l w s
  refine callPT hE (validChannel_ n w hl) (gatesR_chn hc) ?_
  conv=>cbv
  refine callI hE (validBuoys_ hb hB) λy hy=>?_
  subst hy
  conv=>cbv
  refine callPT hE (within_ _ _ _) ht ?_
  conv=>cbv
  refine callLI (R:=Buo.cs) (k:=3) hE (buoysFor_ n w s hl) λrs c hrs hcc=>?_
  rw [buoysR_code,hc] at hcc
  conv=>cbv
  refine eqT hE hcc ?_
  conv=>cbv
  refine callMI hE (deleteBuoy2_ (p:=hasB b t) hrs (by omega) λx y k=>missing1_ x y k t hb) ?_
  rintro r ys ⟨rs',hrs',rfl,rfl⟩
  conv=>cbv
  exact hK _ (by rw [hrs'];rfl)
theorem l13Has_ (x y k t:Int) {rs:List (List AV)} {tb:Bool} {b:List Buo} (hb:rs=b.map Buo.cs) (hB:BuosOk b) (hp:PtOk x y):AC Tryz.prog 169 [.sl tb 3 rs,.agg [.int .i64 x,.int .i64 y,.int .i64 k],.int .i64 t] AV.bool (bP (hasB b t ⟨x,y,k⟩)):=by
  refine ac Tryz.func169 (.bool _) λE K hE hK=>?_
  conv=>cbv
  refine loop1 hE [0,2,4] [7] (λ(i:Int)=>([(7,.int .i64 i)],[.box [.int .i64 x,.int .i64 y,.int .i64 k]],b.length - i,0<=i/\Up (λj=>∀v,b[j]? =some v->¬(v.kind=k/\distR v.atX v.atY x y<=t)) i)) [0] (0) rfl rfl (by dsimp only;exact ⟨by omega,.zero (by omega)⟩) λi hi Kn hN=>?_
  (try dsimp only at hi)
  conv=>cbv
  obtain ⟨h0,hinv⟩:=hi
  repeat' first
    |(refine hN _ _ [0] (by decide) rfl ⟨?_,?_⟩ ?_<;>(try dsimp only))
    |((first
   |refine lenL hE hb (λn hn _=>?_)
   |refine idxV (R:=Buo.cs) hE hb (by omega) hv ?_
   |(refine idxL (R:=Buo.cs) hE hb (by omega) (λv hv=>?_);have hvm:=List.mem_of_getElem? hv;have hvo:=hB.1 _ hvm;obtain ⟨v1,v2,v3⟩:=v)
   |refine callI hE (l02Apart_ _ _ _ _ hvo.1 hp) (λd hd=>?_)
   |refine q0 hE ?_
   |refine B0 hE ?_|refine B1 hE ?_ ?_|refine B2 hE ?_)<;>intros<;>(try conv=>cbv))
  all_goals (try clear hN)
  all_goals first
    |omega
    |exact finB hK (bP_true.2 ⟨_,hvm,by assumption,by simp only;omega⟩)
    |(refine finB hK (bP_false.2 ?_);rintro ⟨v,h1,h2⟩;obtain ⟨j,hj⟩:=List.getElem?_of_mem h1;exact hinv j (by have:=(List.getElem?_eq_some_iff.1 hj).1;omega) v hj h2)
    |(refine hinv.succ (λu hu=>?_) (by assumption);rw [hv] at hu;cases hu;simp only;omega)
theorem gatesR_ok {n:ByteArray} {l:List Pnt} {w s:Int}:∀g∈(gatesR n l w s).1,g.ok:=λg hg=>by
  unfold gatesR at hg
  split at hg
  · split at hg
    · split at hg
      · split at hg
        · rename_i h
          obtain ⟨d,hd,rfl⟩:=List.mem_map.1 hg
          exact h d hd
        · cases hg
      · cases hg
    · cases hg
  · cases hg
theorem buoysR_pt {n:ByteArray} {l:List Pnt} {w s:Int} {v:Buo} (h:v∈(buoysR n l w s).1):PtOk v.atX v.atY/\(v.kind=1∨v.kind=2):=by
  unfold buoysR at h
  split at h
  · obtain ⟨g,hg,hv⟩:=List.mem_flatMap.1 h
    have hok:=gatesR_ok g hg
    simp only [List.mem_cons,List.not_mem_nil,or_false] at hv
    rcases hv with rfl|rfl
    · exact ⟨hok.1,.inl rfl⟩
    · exact ⟨hok.2,.inr rfl⟩
  · cases h
theorem l13Missing_ (n:ByteArray) (w s t:Int) {rl rb:List (List AV)} {tl tb:Bool} {l:List Pnt} {b:List Buo} (hl:rl=l.map Pnt.cs) (hb:rb=b.map Buo.cs) (hB:BuosOk b) (hc:(gatesR n l w s).2=0) (ht:0<=t/\t<=5000):AC Tryz.prog 105 [.pp [.str n,.sl tl 2 rl,.int .i64 w],.int .i64 s,.sl tb 3 rb,.int .i64 t] buoLI (missR n l w s t b,0):=by
  refine ac Tryz.func105 (.buoLI _) λE K hE hK=>?_
  conv=>cbv
  have h64:=buoysR_len n l w s
  refine callPT hE (l13Ok_ n w hl) (gatesR_chn hc) ?_
  conv=>cbv
  refine callI hE (l13List_ hb hB) λy hy=>?_
  subst hy
  conv=>cbv
  refine callPT hE (in_ _ _ _) ht ?_
  conv=>cbv
  refine callLI (R:=Buo.cs) (k:=3) hE (l13Buoys_ n w s hl) λrs c hrs hcc=>?_
  rw [buoysR_code,hc] at hcc
  conv=>cbv
  refine eqT hE hcc ?_
  conv=>cbv
  obtain ⟨A,hA⟩:∃A,A=(buoysR n l w s).1:=⟨_,rfl⟩
  have hpt:∀v∈A,PtOk v.atX v.atY:=λv hv=>(buoysR_pt (by rw [←hA];exact hv)).1
  have hmr:missR n l w s t b=rej (hasB b t) A:=by rw [hA];rfl
  rw [←hA] at hrs h64
  repeat' first
    |((refine loop2 hE [2,3,10] [13,12] (λ(i:Int) (es:List (List AV))=>([(13,.int .i64 i),(12,.ob 1)],[.row 3 rs,.row 3 es],A.length - i,(0<=i/\i<=A.length)/\es=(rej (hasB b t) (A.take i.toNat)).map Buo.cs)) [0,1] ((0,[])) rfl rfl (by dsimp only;exact ⟨by omega,by rfl⟩) λi es hi2 Kn2 hN2=>?_;(try dsimp only at hi2);conv=>cbv);obtain ⟨⟨h0,h1⟩,h2⟩:=hi2;have hrl:=rej_len (hasB b t) (A.take i.toNat);rw [List.length_take] at hrl)
    |(refine hN2 (_,_) _ [0,1] (by decide) rfl ⟨?_,?_⟩ ?_<;>(try dsimp only))
    |(refine hN2 (_,_) _ [0,2] (by decide) rfl ⟨?_,?_⟩ ?_<;>(try dsimp only))
    |(refine hN2 (_,_) _ [0,3] (by decide) rfl ⟨?_,?_⟩ ?_<;>(try dsimp only))
    |((first
   |refine lenL hE hrs (λm hm hmb=>?_)
   |refine idxV (R:=Buo.cs) hE hrs (by omega) hv ?_
   |(refine idxL (R:=Buo.cs) hE hrs (by omega) (λv hv=>?_);have hvp:=hpt _ (List.mem_of_getElem? hv);have hst:=λm hm2=>rej_step (hasB b t) (n:=m) h0 hv hm2;obtain ⟨v1,v2,v3⟩:=v)
   |refine callP hE (l13Has_ v1 v2 v3 t hb hB hvp) (λhh=>?_) (λhh=>?_)
   |refine catP (R:=Buo.cs) (v:=(⟨v1,v2,v3⟩:Buo)) hE h2 rfl (by omega) (λes4 hes4=>?_)
   |refine q0 hE ?_
   |refine B0 hE ?_|refine B1 hE ?_ ?_|refine B2 hE ?_)<;>intros<;>(try conv=>cbv))
  all_goals (try clear hN2)
  all_goals first
    |omega
    |exact h2.trans (congrArg (List.map Buo.cs) ((hst _ (by assumption)).1 hh).symm)
    |exact hes4.trans (congrArg (List.map Buo.cs) ((hst _ (by assumption)).2 hh).symm)
    |(refine hK _ ?_;rw [hmr,h2,List.take_of_length_le (by omega)];rfl)
end Go.Proofs.YtpfddoikhmbebaaGreatDoor
