/- Contracts: decimals by the reference; Contracts: numbers in decimal (over the shelf), the reference's decimals; Contracts: the distance of a point from a segment, sides of a line; Contracts: the segment of a channel that is nearest, its side; buoys that are missing; Findings of channels: plain laws, names and texts, the findings of a fairway. -/
import Derived.Test.YtnlhnideeaobpaaGreatDoorFA
import Derived.Lib.ItoaNum
import Derived.Lib.ItoaLen
import Derived.Test.YtnlhnideeaobpaaGreatDoorQi
import Derived.Shelf.Strconv.Itoa4
import Derived.Test.YtnlhnideeaobpaaGreatDoorFB
import Derived.Test.YtnlhnideeaobpaaGreatDoorQh
import Derived.Test.YtnlhnideeaobpaaGreatDoorQl
namespace Go.Proofs.YtnlhnideeaobpaaGreatDoor
open Go Go.RowKit Classical
set_option maxRecDepth 100000
set_option maxHeartbeats 2000000
set_option linter.unusedVariables false
set_option linter.unusedSimpArgs false
def lI (n:Int):ByteArray:=⟨(Lib.itoa n).toArray⟩
theorem oG {n:Int} (h: -9223372036854775808<=n/\n<=9223372036854775807):(lI n).size<=21:=by
 have:=Lib.itoa_length_le n h.1 h.2;show (Lib.itoa n).toArray.size<=21;simpa using this
def tb (l:List Int):List UInt8:=l.map λc=>UInt8.ofNat c.toNat
theorem Uf:∀(l:List Int) (r:ByteArray),l.foldl (λr n=>r.push (UInt8.ofNat n.toNat)) r=⟨r.data++(tb l).toArray⟩
 |[],r=>by simp [tb]
 | c::l,r=>by
   rw [mf,Uf l];simp [tb,ByteArray.push]
theorem TL (l:List Int):bytesOf l=⟨(tb l).toArray⟩:=by
 rw [bytesOf,Uf];simp
theorem wm {u:Nat} (h:u<10):Lib.decDigits u=[UInt8.ofNat (48+u)]:=by rw [Lib.decDigits,dif_pos h]
theorem Vt {u:Nat} (h:¬u<10):Lib.decDigits u=Lib.decDigits (u / 10)++[UInt8.ofNat (48+u % 10)]:=by rw [Lib.decDigits,dif_neg h]
theorem DU {n:Int} (h:0<=n):Lib.itoa n=Lib.decDigits n.toNat:=by unfold Lib.itoa;rw [if_neg (by omega)]
theorem Yi:lI 0=⟨#[48]⟩:=by
 unfold lI;rw [DU (by decide),wm (by decide)];rfl
def vo (n m:Int) (ds:List Int):Prop:=(0<=m/\m<=n)/\(m≠0->Lib.decDigits m.toNat++tb ds.reverse=Lib.decDigits n.toNat)/\(m=0->tb ds.reverse=Lib.decDigits n.toNat)
theorem vo.start {n:Int} (h:0<=n) (h0:n≠0):vo n n []:=⟨⟨h,jn _⟩,λ_=>by simp [tb],λe=>absurd e h0⟩
theorem vo.step {n m c k:Int} {ds:List Int} (h:vo n m ds) (hm:m≠0) (hc:c=48+m % 10) (hk:k=m / 10):vo n k (ds++[c]):=by
 obtain ⟨h1,h2,_⟩:=h;have h2:=h2 hm
 have e:tb (ds++[c]).reverse=UInt8.ofNat (48+m.toNat % 10)::tb ds.reverse:=by
  rw [List.reverse_append];show UInt8.ofNat c.toNat::tb ds.reverse=_;rw [show c.toNat=48+m.toNat % 10 by omega]
 refine ⟨by omega,λhk0=>?_,λhk0=>?_⟩
 ·rw [e,←h2,Vt (by omega:¬m.toNat<10),show k.toNat=m.toNat / 10 by omega];simp
 ·rw [e,←h2,wm (by omega:m.toNat<10),show m.toNat % 10=m.toNat by omega];simp
theorem vo.len {n m:Int} {ds:List Int} (h:vo n m ds) (hn:n<=9223372036854775807):ds.length<=21:=by
 obtain ⟨h1,h2,h3⟩:=h;have hl:=Lib.itoa_length_le n (by omega) hn;rw [DU (by omega)] at hl;have hd:(tb ds.reverse).length=ds.length:=by simp [tb]
 by_cases h0:m=0
 ·have:=congrArg List.length (h3 h0);omega
 ·have:=congrArg List.length (h2 h0);rw [am] at this;omega
def b8 (n:Int):List AV:=[.int .u8 n]
theorem Zx {ds:List Int} {i k:Int} {c:Int} (h0:0<=i) (hc:ds[i.toNat]? =some c) (hk:k=i - 1):(ds.drop (k+1).toNat).reverse=(ds.drop (i+1).toNat).reverse++[c]:=by
 obtain ⟨hl,he⟩:=aa.1 hc;rw [show (k+1).toNat=i.toNat by omega,show (i+1).toNat=i.toNat+1 by omega,ck hl,he,List.reverse_cons]
theorem DT [St] (n:Int) (h:0<=n/\n<=9223372036854775807):AP 124 [.int .i64 n] AV.str (lI n):=by
  refine a0 Tryz.func124 λE K hE hK=>?_;refine eqI (λh0=>?_) (λh0=>?_)<;>conv=>cbv
  ·exact hK _ (by rw [h0,Yi];rfl)
  refine iR [0] [4,3] (λ(m:Int) (ds:List Int) (es:List (List AV))=>([(4,.int .i64 m),(3,.ob 0)],[.row 1 es],m,vo n m ds/\es=ds.map b8)) [0] ((n,[],[])) (by dsimp only;exact ⟨.start (by omega) h0,rfl⟩) λm ds es hi Kn hN=>?_;obtain ⟨hinv,h2⟩:=hi;have hm:=hinv.1;have hlen:=hinv.len h.2;have hst:=λc k=>hinv.step (c:=c) (k:=k);refine eqI (λe=>?_) (λhm0=>?_)<;>conv=>cbv
  rotate_left
  ·skip
   repeat' first
     |(refine hN _ (ds++[c2]) _ [0] rfl ⟨?_,?_⟩)
     |(refine hN _ (ds++[c2]) _ [1] rfl ⟨?_,?_⟩)
     |(refine hN _ (ds++[c2]) _ [2] rfl ⟨?_,?_⟩)
     |((first
    |refine qM (by omega) (λd hd=>?_)
    |refine yO (by omega) (λk hk=>?_)
    |refine iH (by omega) (λc hc=>?_)
    |(refine YJ (by omega) (λc2 hc2=>?_);(try conv=>cbv);(try refine jA (R:=b8) (v:=c2) h2 rfl (by omega) (λes2 gG=>?_)))
    |refine B0 ?_|refine B1 ?_ ?_)<;>intros<;>(try conv=>cbv))
   all_goals (try clear hN)
   all_goals first
    |omega
    |exact hst _ _ hm0 (by omega) (by omega)
    |assumption
  have hdd:=hinv.2.2 e;refine ltF (by omega) ?_;conv=>cbv
  refine bn h2 λz hz _=>?_;conv=>cbv
  refine eX (by omega) λz1 hz1=>?_;conv=>cbv
  repeat' first
    |((refine bO [] [7,3,6] (λ(i:Int) (os:List (List AV))=>([(7,.int .i64 i),(3,.ob 0),(6,.ob 1)],[.row 1 es,.row 1 os],i+1,(-1<=i/\i<ds.length)/\os=((ds.drop (i+1).toNat).reverse).map b8)) [0,1] ((z1,[])) (by dsimp only;exact ⟨by omega,by rw [fw (by omega)];rfl⟩) λi os hi2 Kn2 hN2=>?_);obtain ⟨⟨i0,i1⟩,h3⟩:=hi2;(have hl3:((ds.drop (i+1).toNat).reverse).length<=ds.length:=(by simp));have hrs:=λc k=>Zx (ds:=ds) (i:=i) (c:=c) (k:=k))
    |(refine hN2 _ _ [0,1] rfl ⟨?_,?_⟩)
    |(refine hN2 _ _ [0,2] rfl ⟨?_,?_⟩)
    |(refine hN2 _ _ [0,3] rfl ⟨?_,?_⟩)
    |((first
   |refine bQ (R:=b8) h2 (by omega) (λc hc=>?_)
   |refine jA (R:=b8) (v:=c) h3 rfl (by omega) (λos2 ad3=>?_)
   |refine QT _ h3 (λs hs _=>?_)
   |refine B0 ?_|refine B1 ?_ ?_)<;>intros<;>(try conv=>cbv))
  all_goals (try clear hN2)
  all_goals first
   |omega
   |exact ad3.trans (congrArg (List.map b8) (hrs _ _ (by omega) hc (by assumption)).symm)
   |(refine hK _ ?_;rw [hs,show (i+1).toNat=0 by omega,dC,TL,hdd];unfold lI;rw [DU h.1];rfl)
open Go.Sort Go.Shelf Go.Proofs
def On (w w':World):Prop:=Below w.heap.size w w'/\w.drawn<=w'.drawn
theorem On.trans {a b c:World} (h:On a b) (k:On b c):On a c:=⟨h.1.trans (k.1.mono h.1.size),cE h.2 k.2⟩
theorem Vo {w w':World} (h:∀x,x<w.heap.size->w'.heap[x]? =w.heap[x]?) (a:Addr) (ha:a.block<w.heap.size):w'.frozen? a=w.frozen? a:=by
 unfold World.frozen?;rw [h _ ha]
theorem On.keeps [St] {w w':World} (h:On w w'):Keeps (λ_=>False) w w':=
 ⟨h.1.os,h.1.tape,h.1.output,h.1.size,λx hx _=>h.1.block x hx,λa ha=>Vo h.1.block a ha,eu.of h.2⟩
theorem aef (w:World) (k:Nat) (os:Array Go.Obj):On w (grow (w.drewN k) os):=
 ⟨⟨rfl,rfl,rfl,by simp [grow,World.drewN],λx hx=>by simp [grow,World.drewN,mN,hx]⟩,by simp [grow,World.drewN]⟩
theorem On.refl (w:World):On w w:=⟨Below.refl _ _,aq _⟩
theorem AC.onto [St] {P:Program} {f:FuncId} {us:List AV} {α:Type} {R:α->AV} {x:α} (hent:Enters P f) (h:∀w vs,GOK w->yh w (λb=>b<w.heap.size) us vs->∃v,(∀w',bB w' (λ_=>False) (R x) v (λ_=>False))/\Calls P f vs w λe w'=>e= .returned v/\On w w'):AC P f us R x:=
 ⟨hent,λw vs hg hr=>by
  obtain ⟨v,h1,h3⟩:=h w vs hg hr;refine h3.mono ?_;rintro e w' ⟨rfl,hk⟩
  exact ⟨v,λ_=>False,rfl,hk.keeps,h1 w',λ_ h=>h.elim⟩⟩
theorem SQ [St] (n:Int) (h: -9223372036854775808<=n/\n<=9223372036854775807):AC Tryz.prog 81 [.int .i64 n,.int .i64 10] AV.str (lI n):=
 AC.onto (λxs w=>fF Tryz.func81 (by kernel_rfl) rfl xs w) λw vs hg hr=>by
  obtain ⟨u,v,rfl,h1,h2⟩:=ZC hr;cases h1;cases h2;refine ⟨_,λw'=> .pure _ _ _ (.str _ (cE (oG h) (by decide))) rfl (λ_ h=>h),(Any.strconv_FormatInt_10 Tryz.formatInt n h.1 h.2 w hg.pow10).mono ?_⟩;rintro e w' ⟨rfl,k,os,rfl⟩;exact ⟨rfl,aef _ _ _⟩
theorem rz [St] (n:Int) (h: -9223372036854775808<=n/\n<=9223372036854775807):AP 34 [.int .i64 n] AV.str (lI n):=by
  refine a0 Tryz.func34 λE K hE hK=>?_
  repeat' first
    |((first
   |refine aQ (SQ _ h) (λ_ _=>?_)
   |refine B0 ?_|refine B1 ?_ ?_)<;>intros<;>(try conv=>cbv))
  all_goals exact hK _ (by simp [gP, *])
def V5 (x n r:Int):Prop:=0<=r/\r*r*n<=x*x/\x*x<(r+1)*(r+1)*n
theorem PX {a b n:Int} (hn:0<n) (h0:0<=a) (h:a<=b):a*a*n<=b*b*n:=fe (vC h0 h) (by omega)
theorem V5.uniq {x n r s:Int} (hn:0<n) (h:V5 x n r) (k:V5 x n s):r=s:=by
 obtain ⟨h1,h2,h3⟩:=h;obtain ⟨k1,k2,k3⟩:=k;rcases eL r s with h|h|h
 ·have:=PX (a:=r+1) (b:=s) hn (by omega) (by omega);omega
 ·exact h
 ·have:=PX (a:=s+1) (b:=r) hn (by omega) (by omega);omega
noncomputable def aju (x n:Int):Int:=if h:∃r,V5 x n r then h.choose else 0
def ajv (ax ay bx by' cx cy:Int):Int:=(bx - ax)*(cy - ay) - (by' - ay)*(cx - ax)
def ais (ax ay bx by' px py:Int):Int:=(px - ax)*(bx - ax)+(py - ay)*(by' - ay)
noncomputable def ajz (x:Int):Int:=max x (-x)
noncomputable def X8 (ax ay bx by' px py:Int):Int:=if ais ax ay bx by' px py<=0 then gL ax ay px py else if sqd ax ay bx by'<=ais ax ay bx by' px py then gL bx by' px py else aju (ajz (ajv ax ay bx by' px py)) (sqd ax ay bx by')
noncomputable section
def gaps (x y:Int):List Pnt->List Int
 |p::q::l=>X8 p.x p.y q.x q.y x y::gaps x y (q::l)
 |_=>[]
def IL:List Int->Int->Int×Int->Int×Int
 |[],_,q=>q
 |g::gs,i,q=>IL gs (i+1) (if q.2<0∨g<q.2 then (i,g) else q)
def ZQ (l:List Pnt) (x y:Int):Int×Int:=IL (gaps x y l) 0 (0, -1)
end
theorem PO (x y:Int):∀l:List Pnt,(gaps x y l).length=l.length - 1
 |[]=>rfl
 |[_]=>rfl
 |p::q::l=>by simp only [gaps,bi,PO x y (q::l)];omega
theorem PS (x y:Int):∀(l:List Pnt) (i:Nat) (p q:Pnt),l[i]? =some p->l[i+1]? =some q->(gaps x y l)[i]? =some (X8 p.x p.y q.x q.y x y)
 |[],i,p,q,h,_=>by simp at h
 |[_],i,p,q,_,h=>by simp at h
 | a::b::l,0,p,q,h,k=>by
   simp at h k;subst h;subst k;rfl
 | a::b::l,i+1,p,q,h,k=>by
   have:=PS x y (b::l) i p q (by simpa using h) (by simpa using k);simpa [gaps] using this
theorem RG {gs:List Int} {i:Nat} {g:Int} (h:gs[i]? =some g) (k:Int) (q:Int×Int):IL (gs.drop i) k q=IL (gs.drop (i+1)) (k+1) (if q.2<0∨g<q.2 then (k,g) else q):=by
 obtain ⟨hl,he⟩:=aa.1 h;rw [ck hl,he,IL]
def nZ (l:List Pnt) (x y i b m:Int):Prop:=(1<=i/\i<=l.length)/\ZQ l x y=IL ((gaps x y l).drop (i - 1).toNat) (i - 1) (b,m)
theorem nZ.start {l:List Pnt} (h2:2<=l.length) (x y:Int):nZ l x y 1 0 (-1):=⟨by omega,by simp [ZQ]⟩
theorem nZ.step {l:List Pnt} {x y i b m k n:Int} {p q:Pnt} (h:nZ l x y i b m) (hk:k=i - 1) (hp:l[k.toNat]? =some p) (hq:l[i.toNat]? =some q) (hn:n=i+1):
  ((m<0∨X8 p.x p.y q.x q.y x y<m)->nZ l x y n k (X8 p.x p.y q.x q.y x y))/\(¬(m<0∨X8 p.x p.y q.x q.y x y<m)->nZ l x y n b m):=by
 obtain ⟨h1,h2⟩:=h;have hl:=(aa.1 hq).1
 have hs:(gaps x y l)[(i - 1).toNat]? =some (X8 p.x p.y q.x q.y x y):=by
  rw [show (i - 1).toNat=k.toNat by omega];exact PS x y l k.toNat p q hp (by rw [show k.toNat+1=i.toNat by omega];exact hq)
 rw [RG hs] at h2;subst hn;unfold nZ;rw [show (i+1 - 1).toNat=(i - 1).toNat+1 by omega,show i+1 - 1=i - 1+1 by omega];constructor
 ·intro hc;rw [if_pos hc,←hk] at h2;exact ⟨by omega,by rw [h2,hk]⟩
 ·intro hc;rw [if_neg hc] at h2;exact ⟨by omega,h2⟩
theorem nZ.fin {l:List Pnt} {x y i b m:Int} (h:nZ l x y i b m) (h2:l.length<=i):ZQ l x y=(b,m):=by
 rw [h.2,fw (by rw [PO];omega)];rfl
def Buo.ok (v:Buo):Prop:=dZ v.atX v.atY/\1<=v.kind/\v.kind<=9
def hasB (b:List Buo) (t:Int) (w:Buo):Prop:=∃v∈b,v.kind=w.kind/\gL v.atX v.atY w.atX w.atY<=t
noncomputable def ahr (n:ByteArray) (l:List Pnt) (w s t:Int) (b:List Buo):List Buo:=rej (hasB b t) (Bt n l w s).1
set_option maxHeartbeats 4000000
def mkN:List ByteArray:=["none", "left", "right", "north", "east", "south", "west", "danger", "safe", "special"].map String.toUTF8
theorem ZV {s:ByteArray} (h:s∈mkN):s.size<=10:=by
 have:∀s∈mkN,s.size<=10:=by decide +kernel
 exact this s h
theorem Iy (k:Int):(eG k mkN).size<=10:=by
 unfold eG;split
 ·rename_i h;rw [ad,ag (by omega)];exact ZV (er _)
 ·exact (by decide:(⟨#[]⟩:ByteArray).size<=10)
theorem Xd [St] (k:Int):AP 35 [.int .i64 k] AV.str (eG k mkN):=by
  refine a0 Tryz.func35 λE K hE hK=>?_
  repeat' first
    |((first
   |refine aQ (EO (es:=mkN) k (by rfl)) (λ_ _=>?_)
   |refine B0 ?_|refine B1 ?_ ?_)<;>intros<;>(try conv=>cbv))
  exact hK _ (by simp_all [gP])
theorem Xw [St]:AP 119 [] (λl:List ByteArray=> .sl true 1 (l.map iQ)) mkN:=by
  refine ac Tryz.func119 (.strs _) λE K hE hK=>?_
  repeat' first
    |((first
   |refine B0 ?_|refine B1 ?_ ?_)<;>intros<;>(try conv=>cbv))
  exact hK _ rfl
noncomputable section
def Fwy.miss (f:Fwy) (l:List Aid):List Buo:=ahr f.name f.line f.width f.dL f.aK (agQ l l.length)
end
theorem afJ {k:Int} {s:ByteArray} (h0:0<=k/\k<10) (hs:mkN[k.toNat]? =some s):s=eG k mkN:=by
 unfold eG;rw [if_pos (by exact ⟨h0.1,h0.2⟩),ad,hs];rfl
end Go.Proofs.YtnlhnideeaobpaaGreatDoor
