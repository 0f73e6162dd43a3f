/- Soundness of the operations that only read. -/
import Derived.Test.YtnlhnideeaobpaaGreatDoorAxA
import Derived.RowKit3
import Derived.Laws.BytesString
import Derived.Laws.StructEq
import Derived.ChangeKeysEq
namespace Go.Proofs.YtnlhnideeaobpaaGreatDoor
set_option linter.unusedVariables false
set_option linter.unusedSimpArgs false
open Go Go.RowKit
structure WM where
 w:World
 ch:Nat->Prop
 pin:List (Nat×Value)
 rd:Nat->Prop
def WM.new (W:WM) (x:Nat):Prop:=W.w.heap.size<=x∨W.ch x
structure HY [St] (W:WM) (w':World):Prop where
 os:w'.os=W.w.os
 tape:w'.tape=W.w.tape
 output:w'.output=W.w.output
 size:W.w.heap.size<=w'.heap.size
 block:∀x,x<W.w.heap.size->¬W.ch x->w'.heap[x]? =W.w.heap[x]?
 frz:∀a:Addr,a.block<W.w.heap.size->w'.frozen? a=W.w.frozen? a
 drawn:eu W.w w'
 PL:GOK W.w/\∀x,W.ch x->NG<=x
theorem HY.keep [St] {W:WM} {w w':World} {G:Nat->Prop} (h:HY W w) (hk:Keeps G w w') (hG:∀x,G x->W.new x):HY W w':=
 ⟨hk.os.trans h.os,hk.tape.trans h.tape,hk.output.trans h.output,cE h.size hk.size,λx hx hm=>(hk.block x (bu hx h.size) (λhg=>(hG x hg).elim (λh'=>by omega) hm)).trans (h.block x hx hm),λa ha=>(hk.frz a (bu ha h.size)).trans (h.frz a ha),eu.trans h.drawn hk.drawn,h.PL⟩
theorem HY.gok [St] {W:WM} {w:World} (h:HY W w):GOK w:=h.PL.1.of h.size λx hx=>h.block x (bu hx h.PL.1.sz) λhc=>by have:=h.PL.2 x hc;omega
theorem HY.ng [St] {W:WM} {w:World} (h:HY W w) {x:Nat} (hx:W.new x):NG<=x:=hx.elim (λh'=>cE h.PL.1.sz h') (h.PL.2 x)
theorem HY.new [St] {W:WM} {w:World} (h:HY W w) {x:Nat} (hx:w.heap.size<=x):W.new x:= .inl (cE h.size hx)
structure CW [St] (W:WM) (w:World) (A:Nat->Prop) (os:List Obj) (hd:Nat->Value) (F:Nat->Nat->Prop):Prop where
 below:HY W w
 hA:∀x,A x->x<w.heap.size/\∀id,¬F id x
 fsz:∀id x,F id x->W.new x/\x<w.heap.size
 jH:∀i j x,F i x->F j x->i=j
 rows:∀(id:Nat) k es,os[id]? =some (.row k es)->bB w A (.sl true k es) (hd id) (F id)
 boxes:∀(id:Nat) cs,os[id]? =some (.box cs)->∃b T c,hd id= .pointer (some ⟨b,0,none⟩)/\w.heap[b]? =some (.cells c T (0,0))/\c.size=cs.length/\
  (∀(i:Nat) a,cs[i]? =some a->aU w A os hd a (c.getD i undef))/\F id b
 nN:∀(id:Nat) s p,os[id]? =some (.iter s p)->∃b,hd id= .pointer (some ⟨b,0,none⟩)/\w.heap[b]? =some (.stringIter s p)/\F id b
 pin:∀p∈W.pin,p.1<os.length/\hd p.1=p.2
 old:∀x,A x->x<W.w.heap.size->W.rd x
section inv
variable {w:World} {A:Nat->Prop} {os:List Obj} {hd:Nat->Value} {v:Value}
theorem aU.fJ {k n} (h:aU w A os hd (.int k n) v):v= .int k n:=by
 cases h with|pure _ _ h=>cases h;rfl
theorem aU.kg {b} (h:aU w A os hd (.bool b) v):v= .bool b:=by
 cases h with|pure _ _ h=>cases h;rfl
theorem aU.kT {b} (h:aU w A os hd (.str b) v):v= .string b/\b.size<=maxLen:=by
 cases h with|pure _ _ h=>cases h;exact ⟨rfl,‹_›⟩
theorem aU.mM (h:aU w A os hd .fV v):v= .slice none 0 0:=by
 cases h with|pure _ _ h=>cases h;rfl
theorem aU.ab5 (h:aU w A os hd .und v):v=undef:=by
 cases h with|pure _ _ h=>cases h;rfl
theorem aU.lW {t k es} (h:aU w A os hd (.sl t k es) v):Rel w A (.sl t k es) v:=by
 cases h with|pure _ _ h=>exact h
theorem aU.rT {cs} (h:aU w A os hd (.pp cs) v):Rel w A (.pp cs) v:=by
 cases h with|pure _ _ h=>exact h
theorem aU.uO {f cs} (h:aU w A os hd (.fn f cs) v):∃vs,v= .func (.func f) #[] vs/\vs.size=cs.length/\∀(i:Nat) a,cs[i]? =some a->aU w A os hd a (vs.getD i undef):=by
 cases h with
 |pure _ _ h=>cases h with|fn _ _ vs hn hc=>exact ⟨vs,rfl,hn,λi a ha=> .pure _ _ (hc i a ha)⟩
 |fn _ _ vs hn hc=>exact ⟨vs,rfl,hn,hc⟩
theorem aU.ZK {id off} (h:aU w A os hd (.pb id off) v):id<os.length:=by
 cases h with
 |pure _ _ h=>cases h
 |pb=>assumption
theorem aU.lX {id off cs} (h:aU w A os hd (.pb id off) v) (ho:os[id]? =some (.box cs)):∃b,hd id= .pointer (some ⟨b,0,none⟩)/\v= .pointer (some ⟨b,off,none⟩):=by
 cases h with
 |pure _ _ h=>cases h
 |pb _ _ _ _ h=>exact h cs ho
theorem aU.ahj {id i j} (h:aU w A os hd (.pe id i j) v):id<os.length:=by
 cases h with
 |pure _ _ h=>cases h
 |pe=>assumption
theorem aU.ED {id i j k es} (h:aU w A os hd (.pe id i j) v) (ho:os[id]? =some (.row k es)):
  ∃b n c,hd id= .slice (some ⟨b,0,none⟩) n c/\0<=i/\i.toNat<es.length/\v= .pointer (some ⟨b,i.toNat*k+j,none⟩):=by
 cases h with
 |pure _ _ h=>cases h
 |pe _ _ _ _ _ h=>exact h k es ho
theorem aU.afY {id s p} (h:aU w A os hd (.it id) v) (ho:os[id]? =some (.iter s p)):v=hd id:=by
 cases h with
 |pure _ _ h=>cases h
 |it _ _ _ h=>exact h s p ho
theorem aU.N9 {id} (h:aU w A os hd (.ob id) v):id<os.length:=by
 cases h with
 |pure _ _ h=>cases h
 |ob=>assumption
theorem aU.iI {id k es} (h:aU w A os hd (.ob id) v) (ho:os[id]? =some (.row k es)):v=hd id:=by
 cases h with
 |pure _ _ h=>cases h
 |ob _ _ _ h=>exact h k es ho
theorem aU.Ua {id lo hi} (h:aU w A os hd (.vs id lo hi) v):id<os.length:=by
 cases h with
 |pure _ _ h=>cases h
 |vs=>assumption
theorem aU.tH {id lo hi k es} (h:aU w A os hd (.vs id lo hi) v) (ho:os[id]? =some (.row k es)):0<=lo/\lo<=hi/\hi<=es.length/\∃p cap,v= .slice p (hi - lo).toNat cap/\(hi - lo).toNat<=cap/\(lo<hi->∃b n c,hd id= .slice (some ⟨b,0,none⟩) n c/\p=some ⟨b,lo.toNat*k,none⟩)  /\(lo=0->∃n,hd id= .slice p n cap):=by
 cases h with
 |pure _ _ h=>cases h
 |vs _ _ _ _ _ h=>exact h k es ho
theorem aU.iP {cs} (h:aU w A os hd (.agg cs) v):∃vs,v= .agg vs/\vs.size=cs.length/\∀(i:Nat) a,cs[i]? =some a->aU w A os hd a (vs.getD i undef):=by
 cases h with
 |pure _ _ h=>cases h with|agg _ vs hn hc=>exact ⟨vs,rfl,hn,λi a ha=> .pure _ _ (hc i a ha)⟩
 |agg _ vs hn hc=>exact ⟨vs,rfl,hn,hc⟩
theorem aU.ab6 {cs} (h:aU w A os hd (.tup cs) v):∃vs,v= .tuple vs/\vs.size=cs.length/\∀(i:Nat) a,cs[i]? =some a->aU w A os hd a (vs.getD i undef):=by
 cases h with
 |pure _ _ h=>cases h with|tup _ vs hn hc=>exact ⟨vs,rfl,hn,λi a ha=> .pure _ _ (hc i a ha)⟩
 |tup _ vs hn hc=>exact ⟨vs,rfl,hn,hc⟩
theorem aU.ZP (x:Value):aU w A os hd (AV.ofValue x) x:=by
 unfold AV.ofValue;split
 ·exact .pure _ _ (.int _ _)
 ·exact .pure _ _ (.bool _)
 ·split
  ·exact .pure _ _ (.str _ (by unfold maxLen;omega))
  ·exact .pure _ _ (.any _)
 ·exact .pure _ _ .fV
 ·exact .pure _ _ .mR
 ·exact .pure _ _ (.any _)
end inv
theorem nY {l:List AV} (h:AV.jv l=true) {i:Nat} {x:AV} (hx:l[i]? =some x):x.isPure=true:=by
 induction l generalizing i with
 |nil=>simp at hx
 | cons y l ih=>
  unfold AV.jv at h;split at h
  ·cases i with
   |zero=>simp at hx;subst hx;assumption
   |succ i=>simp at hx;exact ih h hx
  ·cases h
theorem aU.WO {w:World} {A:Nat->Prop} {os:List Obj} {hd:Nat->Value} {x:AV} {v:Value} (h:aU w A os hd x v) (hx:match x with| .ob _| .vs .. | .pb .. | .pe .. | .it _| .agg _| .tup _| .fn .. =>False|_=>True):Rel w A x v:=by
 cases h with
 |pure _ _ h=>exact h
 |_=>exact hx.elim
theorem J5:∀l m:List UInt8,(!Op.bytesLess m l)=(Op.bytesLess l m || l == m)
 |[],[]=>rfl
 |[],_::_=>rfl
 |_::_,[]=>rfl
 | a ::l,b::m=>by
  have ih:=J5 l m;simp only [Op.bytesLess];by_cases h:a=b
  ·subst h;have h1:¬a<a:=UInt8.lt_irrefl a;simp [h1,ih]
  ·(have h2:(a == b)=false:=by simpa using h);(have h3:(b == a)=false:=by simpa using Ne.symm h);rcases UInt8.lt_or_lt_of_ne h with h4|h4
   ·have h5:¬b<a:=UInt8.lt_asymm h4;simp [h2,h3,h4,h5]
   ·have h5:¬a<b:=UInt8.lt_asymm h4;simp [h2,h3,h4,h5]
theorem D6 (b:Bool):Dm b= !b:=by cases b<;>rfl
section lay
variable {P:Program} {L:Lay} (hL:L.ty=bR P) {t:TypeId}
include hL
theorem Fp (h:(L.ty t).d≠ .other):∃i,P.info? t=some i/\(L.ty t).n=i.size/\(L.ty t).bytes=i.bytes/\(L.ty t).zero=Z.N7 i.zero:=by
 rw [hL] at*;unfold bR TyI.of at*
 cases hi:P.info? t with
 |none=>simp [hi] at h
 |some i=>exact ⟨i,rfl,rfl,rfl,rfl⟩
theorem Fq (h:(L.ty t).d≠ .other):(L.ty t).d=D.of (P.underlying t)/\(L.ty t).agg=(D.of (P.underlying t)).isAgg:=by
 rw [hL] at*;unfold bR TyI.of at*
 cases hi:P.info? t with
 |none=>simp [hi] at h
 |some i=>exact ⟨rfl,rfl⟩
theorem Fv (h:(L.ty t).d= .bool):P.underlying t=some .bool:=by
 have h1:=(Fq hL (by rw [h];simp)).1;rw [h] at h1;unfold D.of at h1;split at h1<;>simp_all
theorem y8 {k} (h:(L.ty t).d= .int k):P.underlying t=some (.int k):=by
 have h1:=(Fq hL (by rw [h];simp)).1;rw [h] at h1;unfold D.of at h1;split at h1<;>simp_all
theorem y7 (h:(L.ty t).d= .str):P.underlying t=some .string:=by
 have h1:=(Fq hL (by rw [h];simp)).1;rw [h] at h1;unfold D.of at h1;split at h1<;>simp_all
theorem gI {e} (h:(L.ty t).d= .slice e):P.underlying t=some (.slice e):=by
 have h1:=(Fq hL (by rw [h];simp)).1;rw [h] at h1;unfold D.of at h1;split at h1<;>simp_all
theorem xD {fs} (h:(L.ty t).d= .struct fs):∃gs,P.underlying t=some (.struct gs)/\fs=gs.toList.map λf=>(f.offset,f.type):=by
 have h1:=(Fq hL (by rw [h];simp)).1;rw [h] at h1;unfold D.of at h1;split at h1<;>simp_all
theorem vS {n e} (h:(L.ty t).d= .array n e):P.underlying t=some (.array n e):=by
 have h1:=(Fq hL (by rw [h];simp)).1;rw [h] at h1;unfold D.of at h1;split at h1<;>simp_all
end lay
section ops
variable {P:Program} {np:Nat} {L:Lay} {W:WM} {w:World} {os:List Obj} {hd:Nat->Value} {F:Nat->Nat->Prop} {s:AS} {a:Act}
def Yields (P:Program) (w:World) (A:Nat->Prop) (os:List Obj) (hd:Nat->Value) (a:Act) (o:Oper) (K:AV->Prop):Prop:=
 ∃x v,K x/\aU w A os hd x v/\(execOp a.eval o).run P w= .ok (.value v) w
theorem addr_add (b off n:Nat):(⟨b,off,none⟩:Addr).add n=⟨b,off+n,none⟩:=by
 unfold Addr.add;split<;>simp_all
def Pt (w:World) (A:Nat->Prop) (os:List Obj) (hd:Nat->Value) (b off:Nat) (cs:List AV):Prop:=
 ∀(j:Nat) x,cs[j]? =some x->∃v,w.cell? ⟨b,off+j,none⟩=some v/\aU w A os hd x v
def PtR (w:World) (A:Nat->Prop) (b off:Nat) (cs:List AV):Prop:=
 ∀(j:Nat) x,cs[j]? =some x->∃v,w.cell? ⟨b,off+j,none⟩=some v/\Rel w A x v
theorem Pt.drop {A b off cs} (h:Pt w A os hd b off cs) (n:Nat):Pt w A os hd b (off+n) (cs.drop n):=λj x hx=>by
 rw [bv] at hx;have:=h (n+j) x hx;rwa [←fN] at this
theorem PtR.drop {A b off cs} (h:PtR w A b off cs) (n:Nat):PtR w A b (off+n) (cs.drop n):=λj x hx=>by
 rw [bv] at hx;have:=h (n+j) x hx;rwa [←fN] at this
theorem PtR.pt {A b off cs} (h:PtR w A b off cs):Pt w A os hd b off cs:=λj x hx=>let ⟨v,h1,h2⟩:=h j x hx;⟨v,h1,.pure _ _ h2⟩
theorem Rel.Iw {A:Nat->Prop} {b off cs} (hb:A b) (h:PtR w A b off cs):Rel w A (.pp cs) (.pointer (some ⟨b,off,none⟩)):=by
 refine .pp cs b off (λj=>(w.cell? ⟨b,off+j,none⟩).getD undef) hb (λj hj=>?_) (λj x hx=>?_)
 ·obtain ⟨v,h1,_⟩:=h j _ (ag hj);rw [h1];rfl
 ·obtain ⟨v,h1,h2⟩:=h j x hx;rw [h1];exact h2
theorem Rel.rT {A:Nat->Prop} {cs v} (h:Rel w A (.pp cs) v):∃b off,v= .pointer (some ⟨b,off,none⟩)/\A b/\PtR w A b off cs:=by
 cases h with
 |pp _ b off val hb hc hr=>exact ⟨b,off,rfl,hb,λj x hx=>⟨val j,hc j (aa.1 hx).1,hr j x hx⟩⟩
theorem Rel.Um {A:Nat->Prop} {t k es v} (h:Rel w A (.sl t k es) v) {i:Nat} {e:List AV} (he:es[i]? =some e):
  ∃b off cap,v= .slice (some ⟨b,off,none⟩) es.length cap/\A b/\PtR w A b (off+i*k) e:=by
 cases h with
 | sl _ _ _ p cap b off val hl hcap hp hk hc h1c hr=>
  have hi:=(aa.1 he).1;have hne:es≠[]:=by rintro rfl;simp at hi
  obtain ⟨rfl,hA⟩:=hp hne;refine ⟨b,off,cap,rfl,hA,λj x hx=>⟨val i j,?_,hr i j e x he hx⟩⟩;have hj:=(aa.1 hx).1;rw [hk e (ae he)] at hj;rw [fN];exact hc i j hi hj
theorem Rel.jY {A:Nat->Prop} {t k es v} (h:Rel w A (.sl t k es) v):∃p cap,v= .slice p es.length cap/\es.length<=maxLen/\es.length<=cap:=by
 cases h with
 |sl _ _ _ p cap b off val hl hcap hp hk hc h1c hr=>exact ⟨p,cap,rfl,hl,hcap⟩
theorem bB.flat {A:Nat->Prop} {x v} {G:Nat->Prop} (h:bB w A x v G) (hx:x.flat=true):Rel w A x v:=by
 cases h with
 |pure _ _ _ h _ _=>exact h
 |nil=>simp [AV.flat] at hx
 |sl=>simp [AV.flat] at hx
 |bx=>simp [AV.flat] at hx
 |agg=>simp [AV.flat] at hx
 |tup=>simp [AV.flat] at hx
theorem QE {l:List AV} (h:AV.D7 l=true) {i:Nat} {x:AV} (hx:l[i]? =some x):x.flat=true:=by
 induction l generalizing i with
 |nil=>simp at hx
 | cons y l ih=>
  unfold AV.D7 at h;split at h
  ·cases i with
   |zero=>simp at hx;subst hx;assumption
   |succ i=>simp at hx;exact ih h hx
  ·cases h
theorem YC {l:List AV} (h:AV.VX l=true) {i:Nat} {x:AV} (hx:l[i]? =some x):x.dF=false:=by
 induction l generalizing i with
 |nil=>simp at hx
 | cons y l ih=>
  unfold AV.VX at h;split at h
  ·cases i with
   |zero=>simp at hx;subst hx;assumption
   |succ i=>simp at hx;exact ih h hx
  ·cases h
theorem bB.IJ {A:Nat->Prop} {x v} {G:Nat->Prop} (h:bB w A x v G) (hx:x.dF=false):Rel w A x v:=by
 cases h with
 |pure _ _ _ h _ _=>exact h
 |nil=>simp [AV.dF] at hx
 |sl=>simp [AV.dF] at hx
 |bx=>simp [AV.dF] at hx
 |agg=>simp [AV.dF] at hx
 |tup=>simp [AV.dF] at hx
theorem bB.Ns {A:Nat->Prop} {k es v} {G:Nat->Prop} (h:bB w A (.sl true k es) v G) {i:Nat} {e:List AV} (he:es[i]? =some e):
  ∃ b T c cap,v= .slice (some ⟨b,0,none⟩) es.length cap/\G b/\w.heap[b]? =some (.cells c T (0,0))/\e.length=k/\i*k+k<=c.size/\
   ∀(j:Nat) x,e[j]? =some x->w.cell? ⟨b,i*k+j,none⟩=some (c.getD (i*k+j) undef)/\∃G',bB w A x (c.getD (i*k+j) undef) G':=by
 cases h with
 |pure _ _ _ h ho hF=>simp [AV.dF] at ho
 |nil=>simp at he
 | sl _ _ cap b T c F G hb hl hcap hsz hk h1c hr hF h0 hd=>
  have hi:=(aa.1 he).1;have hke:=hk e (ae he)
  have h1:i*k+k<=c.size:=by
   have:(i+1)*k<=cap*k:=bc k (by omega);rw [bz] at this;omega
  refine ⟨b,T,c,cap,rfl,(hF b).2 (.inl rfl),hb,hke,h1,λj x hx=>⟨?_,_,hr i j e x he hx⟩⟩;have hj:=(aa.1 hx).1;have h2:i*k+j<c.size:=by omega
  simp [World.cell?,hb,h2]
theorem run_loadCellsFrom {a:Addr} {f:Nat->Value}:∀(n i:Nat) (acc:Array Value),(∀j,i<=j->j<i+n->w.cell? (a.add j)=some (f j))->
  (loadCellsFrom a i n acc).run P w= .ok (acc++((List.range' i n).map f).toArray) w
 |0,i,acc,_=>by simp [loadCellsFrom,go_sem]
 | n+1,i,acc,h=>by
  have h0:=h i (aq _) (by omega);have ih:=run_loadCellsFrom n (i+1) (acc.push (f i)) (λj h1 h2=>h j (by omega) (by omega));simp only [loadCellsFrom,List.range'_succ];simp [go_sem,h0,ih]
theorem qK (hL:L.ty=bR P) {t:TypeId} (h:(L.ty t).d≠ .other):(isAgg t).run P w= .ok (L.ty t).agg w:=by
 obtain ⟨h1,h2⟩:=Fq hL h;rw [h2];rw [h1] at h;unfold isAgg
 cases hu:P.underlying t with
 |none=>simp [hu,D.of] at h
 |some d=>cases d<;>simp [go_sem,hu,D.of,D.isAgg,underlying]
theorem run_sizeOf (hL:L.ty=bR P) {t:TypeId} (h:(L.ty t).d≠ .other):(sizeOf t).run P w= .ok (L.ty t).n w:=by
 obtain ⟨i,h1,h2,_⟩:=Fp hL h;rw [h2];simp [sizeOf,typeInfo,go_sem,h1]
theorem zK (ns:List Int):(bytesOf ns).size=ns.length:=by
 have:∀(ns:List Int) (r:ByteArray),(ns.foldl (λr n=>r.push (UInt8.ofNat n.toNat)) r).size=r.size+ns.length:=by
  intro ns
  induction ns with
  |nil=>intro r;rfl
  |cons n ns ih=>intro r;simp only [mf,ih,bi];rw [ByteArray.size_push];omega
 simpa [bytesOf] using this ns ByteArray.empty
theorem Il {A:Nat->Prop} {t k v} {ns:List Int} (h:Rel w A (.sl t k (ns.map λn=>[AV.int .u8 n])) v):(Conv.bytesToString v).run P w= .ok (.string (bytesOf ns)) w/\(bytesOf ns).size<=maxLen:=by
 rw [zK]
 cases h with
 | sl _ _ _ p cap b off val hl hcap hp hk hc h1c hr=>
  refine ⟨?_,by simpa using hl⟩
  cases ns with
  | nil=>
   cases p with
   |none=>rfl
   | some a=>
    refine run_bytesToString w a _ cap [] ?_;rfl
  | cons n ns=>
   obtain ⟨rfl,_⟩:=hp (by simp);(have hk1:k=1:=by have:=hk [AV.int .u8 n] (by simp);simpa using this.symm);subst hk1
   have hv:∀i m,(n::ns)[i]? =some m->val i 0= .int .u8 m:=λi m hm=>by
    have:=hr i 0 [AV.int .u8 m] (.int .u8 m) (by rw [ai,hm];rfl) rfl;generalize val i 0=q at this;cases this;rfl
   refine run_bytesToString w _ _ cap (n::ns) ?_;unfold loadCells
   rw [run_loadCellsFrom (f:=λi=>val i 0) _ 0 #[] (λj _ hj=>by
    rw [addr_add];have:=hc j 0 (by simpa using hj) (by omega)
    simpa using this)]
   congr 1;simp only [al];rw [Array.empty_append,←m3];congr 1;refine cC λi=>?_;rw [ai,ai];by_cases hi:i<(n::ns).length
   ·rw [cM hi,ag hi];simp only [cF];rw [hv i _ (ag hi)]
   ·rw [ar (by simpa using Nat.le_of_not_lt hi),ar (by omega)];rfl
theorem mG (hL:L.ty=bR P) {A:Nat->Prop} {t:TypeId} {b off:Nat} {cs:List AV} {K:AV->Prop} (hp:Pt w A os hd b off cs) (hk:gH L t cs K):
  ∃x v,K x/\aU w A os hd x v/\(loadVar t ⟨b,off,none⟩).run P w= .ok v w:=by
 unfold gH at hk;split at hk
 ·exact hk.elim
 ·have ha:(L.ty t).agg=true:=by assumption
  have hd':(L.ty t).d≠ .other:=by intro e;simp_all
  split at hk
  ·rename_i hn;have h1:=qK (w:=w) hL hd';rw [ha] at h1
   have h2:(loadCellsFrom ⟨b,off,none⟩ 0 (L.ty t).n #[]).run P w= .ok ((List.range (L.ty t).n).map λj=>(w.cell? ⟨b,off+j,none⟩).getD undef).toArray w:=by
    rw [run_loadCellsFrom (f:=λj=>(w.cell? ⟨b,off+j,none⟩).getD undef)]
    ·simp [m3]
    ·intro j _ hj;obtain ⟨v,hv,_⟩:=hp j _ (ag (by omega:j<cs.length));rw [addr_add,hv];rfl
   refine ⟨_,_,hk,.agg _ ((List.range (L.ty t).n).map λj=>(w.cell? ⟨b,off+j,none⟩).getD undef).toArray (by simp;omega) (λi x hx=>?_),?_⟩
   ·rw [be] at hx;split at hx
    ·rename_i hi;obtain ⟨v,hv,hr⟩:=hp i x hx;simpa [Array.getD,hi,hv] using hr
    ·cases hx
   ·simp [loadVar,go_sem,h1,h2,run_sizeOf hL hd']
  ·exact hk.elim
 ·have ha:(L.ty t).agg=false:=by assumption
  have hd':(L.ty t).d≠ .other:=by intro e;simp_all
  split at hk
  ·rename_i c _;obtain ⟨v,hv,hr⟩:=hp 0 c (by simp);have h1:=qK (w:=w) hL hd';rw [ha] at h1;refine ⟨_,v,hk,hr,?_⟩;simp only [em] at hv;simp [loadVar,go_sem,h1,hv]
  ·exact hk.elim
theorem wJ {α:Type} {x:Sem α} {v:α} (h:x.run P w= .ok v w) (f:α->Sem Next):(x >>= f).run P w=(f v).run P w:=by
 rw [aE,h];rfl
theorem pK {t:TypeId} {x:Operand} {A:Addr} {v:Value} {dst:Option Tmp} {ty:TypeId} {pos:String} {af:Array Edge} {g:Option (Nat×Bool)}
  (hp:a.eval x= .pointer (some A)) (h:(loadVar t A).run P w= .ok v w):(execOp a.eval ⟨dst,.load t x,ty,pos,af,g⟩).run P w= .ok (.value v) w:=by
 simp only [execOp,hp,Instr.loadAt,Instr.sureAddr];rw [aE];have h1:(do loadVar t (←(pure A:Sem Addr)):Sem Value).run P w= .ok v w:=h;rw [h1];rfl
theorem I6 (hL:L.ty=bR P) {t f off ft} (h:sK L t f=some (off,ft)):
  ∃gs g,P.underlying t=some (.struct gs)/\gs[f]? =some g/\g.offset=off/\g.type=ft/\(L.ty ft).n≠0:=by
 unfold sK at h;split at h
 ·rename_i fs hd';obtain ⟨gs,h1,h2⟩:=xD hL hd';subst h2;split at h
  ·rename_i o t' hf;rw [ai] at hf;rw [bd] at hf
   cases hg:gs[f]? with
   |none=>simp [hg] at hf
   | some g=>
    simp [hg] at hf;split at h
    ·cases h
    ·cases h;obtain ⟨h3,h4⟩:=hf;exact ⟨gs,g,h1,hg,h3,h4,by assumption⟩
  ·cases h
 ·cases h
theorem OM (hL:L.ty=bR P) {t:TypeId} (h:(L.ty t).n≠0):∃i,P.info? t=some i/\(L.ty t).n=i.size:=by
 rw [hL] at*;unfold bR TyI.of at*
 cases hi:P.info? t with
 |none=>simp [hi] at h
 |some i=>exact ⟨i,rfl,rfl⟩
theorem uh (hL:L.ty=bR P) {t f off ft b o} (h:sK L t f=some (off,ft)):
  (Instr.fieldAt t (.pointer (some ⟨b,o,none⟩)) f).run P w= .ok (.pointer (some ⟨b,o+off,none⟩)) w:=by
 obtain ⟨gs,g,h1,h2,h3,h4,h5⟩:=I6 hL h;obtain ⟨i,h6,h7⟩:=OM hL h5;subst h3 h4;have h8:i.size≠0:=by omega
 have hg:⟨b,o,none⟩=(⟨b,o,none⟩:Addr):=rfl;simp [Instr.fieldAt,underlying,go_sem,h1,h2,Instr.sureAddr,fieldPlace,sizeOf,typeInfo,h6,h8,addr_add]
theorem jo (hL:L.ty=bR P) {t k} (h:uQ L t=some k):∃e,P.underlying t=some (.slice e)/\∀w,(sizeOf e).run P w= .ok k w:=by
 unfold uQ at h;split at h
 ·rename_i e hd';split at h
  ·cases h
  ·cases h;exact ⟨e,gI hL hd',λw=>run_sizeOf hL (by assumption)⟩
 ·cases h
theorem Eo (hL:L.ty=bR P) {A:Nat->Prop} {t:TypeId} {off:Nat} {cs:List AV} {vs:Array Value} {K:AV->Prop} (hn:vs.size=cs.length)
  (hc:∀(i:Nat) x,cs[i]? =some x->aU w A os hd x (vs.getD i undef)) (hk:gH L t (cs.drop off) K):
  ∃x v,K x/\aU w A os hd x v/\(part t vs off).run P w= .ok v w:=by
 unfold gH at hk;split at hk
 ·exact hk.elim
 ·have ha:(L.ty t).agg=true:=by assumption
  have hd':(L.ty t).d≠ .other:=by intro e;simp_all
  split at hk
  ·rename_i hl;rw [ct] at hl;have h1:=qK (w:=w) hL hd';rw [ha] at h1;have h2:=run_sizeOf (w:=w) hL hd';refine ⟨_,.agg (vs.extract off (off+(L.ty t).n)),hk,.agg _ _ (by simp;omega) (λi x hx=>?_),?_⟩
   ·rw [be] at hx;split at hx
    ·rw [bv] at hx;have:=hc (off+i) x hx;have h3:=(aa.1 hx).1;(have h4:off+i<vs.size:=by omega);(have h5:i<min (off+(L.ty t).n) vs.size - off:=by omega);simpa [Array.getD,h4,h5] using this
    ·cases hx
   ·unfold part;rw [aE,h1];simp only [cS,if_true];rw [aE,h2];rfl
  ·exact hk.elim
 ·have ha:(L.ty t).agg=false:=by assumption
  have hd':(L.ty t).d≠ .other:=by intro e;simp_all
  split at hk
  ·rename_i c l hcl
   have h0:cs[off]? =some c:=by
    (have:(cs.drop off)[0]? =some c:=by rw [hcl];rfl);rwa [bv] at this
   have h3:=(aa.1 h0).1;(have h4:off<vs.size:=by omega);have h1:=qK (w:=w) hL hd';rw [ha] at h1;refine ⟨_,_,hk,hc off c h0,?_⟩;unfold part;rw [aE,h1];(have h5:vs[off]? =some (vs.getD off undef):=by simp [Array.getD,h4]);simp only [cS,eV,if_false];rw [h5];rfl
  ·exact hk.elim
theorem Io (k:Nat):∀(n:Nat) (cs:List AV) (i:Nat) (e:List AV),(rowsOf k n cs)[i]? =some e->i<n/\e=(cs.drop (i*k)).take k
 |0,cs,i,e,h=>by simp [rowsOf] at h
 | n+1,cs,i,e,h=>by
  unfold rowsOf at h
  cases i with
  |zero=>simp at h;subst h;simp
  | succ i=>
   simp only [eg] at h;obtain ⟨h1,h2⟩:=Io k n _ i e h;refine ⟨by omega,?_⟩;rw [h2,my,bz,nq,Nat.add_comm]
theorem KG {t:TypeId} {cs:List AV} {K:AV->Prop} (h:gH L t (cs.take (L.ty t).n) K):gH L t cs K:=by
 unfold gH at h ⊢;generalize (L.ty t).d=d at h ⊢;generalize (L.ty t).agg=g at h ⊢;cases g
 ·cases d<;>first
   |exact h.elim
   | (cases cs with
    |nil=>simp at h
    | cons c l=>cases hn:(L.ty t).n with
     |zero=>rw [hn] at h;simp at h
     |succ n=>rw [hn] at h;simpa using h)
 ·cases d<;>first
   |exact h.elim
   | (simp only at h ⊢
      split at h
      ·rename_i hl;rw [ba] at hl;rw [if_pos (by omega)];rw [List.take_take,Nat.min_self] at h;exact h
      ·exact h.elim)
theorem adx (hL:L.ty=bR P) {t e:TypeId} {len:Nat} (h:(L.ty t).eq=true) (hu:P.underlying t=some (.array len e)):P.eqGuardType P.depth t=false:=by
 rw [hL] at h
 have h2:S9 P t=true:=by
  unfold bR TyI.of at h;split at h
  ·cases h
  ·exact h
 unfold S9 at h2;rw [hu] at h2;simpa using h2
theorem afO (hL:L.ty=bR P) {t:TypeId} {gs0:Array Field} (hs:P.underlying t=some (.struct gs0)) (h:(L.ty t).eq=true):P.underlying t=some (.struct (P.fieldsOf t))/\P.stoodInHeld t=false/\P.eqGuardType P.depth t=false/\∀g∈(P.fieldsOf t).toList,g.name≠ "_" :=by
 rw [hL] at h
 have h2:S9 P t=true:=by
  unfold bR TyI.of at h;split at h
  ·cases h
  ·exact h
 unfold S9 at h2;split at h2
 ·rename_i gs hgs;have e:P.fieldsOf t=gs:=by unfold Program.fieldsOf;rw [hgs]
  rw [e];simp only [gg,Bool.not_eq_true',lO] at h2;exact ⟨hgs,h2.1.1,h2.1.2,λg hg=>by simpa using h2.2 g hg⟩
 ·rename_i hu;rw [hs] at hu;cases hu
 ·cases h2
theorem vG (hL:L.ty=bR P) {A:Nat->Prop} {t:TypeId} {off:Nat} {cs:List AV} {vs:Array Value} {x:AV} (hn:vs.size=cs.length)
  (hc:∀(i:Nat) x,cs[i]? =some x->aU w A os hd x (vs.getD i undef)) (hk:Vw L t (cs.drop off)=some x):
  ∃v,aU w A os hd x v/\(part t vs off).run P w= .ok v w:=by
 have h2:gH L t (cs.drop off) (·=x):=by
  unfold Vw at hk;unfold gH;generalize (L.ty t).d=d at hk ⊢;generalize (L.ty t).agg=g at hk ⊢;cases g
  ·generalize cs.drop off=l at hk ⊢;cases d<;>cases l<;>first|(cases hk;done)|(simp only [cH] at hk;exact hk)|(cases hk;rfl)
  ·cases d<;>simp only at hk ⊢ <;>first|cases hk|(split at hk<;>first|(rename_i h;rw [if_pos h];simpa using hk)|cases hk)
 obtain ⟨y,v,h3,h4,h5⟩:=Eo hL hn hc h2;subst h3;exact ⟨v,h4,h5⟩
theorem F5 (hL:L.ty=bR P) {A:Nat->Prop} {f:TypeId->AV->AV->Option (List (AV×AV))} {d:Nat} {cs ds:List AV} {xs ys:Array Value} (n1:xs.size=cs.length) (n2:ys.size=ds.length)
  (c1:∀(i:Nat) x,cs[i]? =some x->aU w A os hd x (xs.getD i undef)) (c2:∀(i:Nat) x,ds[i]? =some x->aU w A os hd x (ys.getD i undef))
  (hf:∀t x y u v ps,aU w A os hd x u->aU w A os hd y v->f t x y=some ps->(Op.equalIn d t u v).run P w= .ok (ps.all kY) w):
  ∀(gs:List Field) (ps:List (AV×AV)),(∀g∈gs,g.name≠ "_")->Lx L f (gs.map λf=>(f.offset,f.type)) cs ds=some ps->(Op.eqFields d xs ys gs).run P w= .ok (ps.all kY) w
 | [],ps,_,h=>by
  simp only [kd,Lx,cH] at h;subst h;simp [Op.eqFields]
 | g ::gs,ps,hg,h=>by
  simp only [dj,Lx] at h;split at h
  ·rename_i x y hx hy;split at h
   ·rename_i a b ha hb;cases h;obtain ⟨u,h1,h2⟩:=vG (w:=w) hL n1 c1 hx;obtain ⟨v,h3,h4⟩:=vG (w:=w) hL n2 c2 hy;have h5:=hf _ _ _ _ _ _ h1 h3 ha;have ih:=F5 hL n1 n2 c1 c2 hf gs b (λg hg'=>hg g (ew _ hg')) hb;simp only [Op.eqFields];rw [if_pos (hg g (ep ..))];simp only [aE,h2,h4,h5,cS];cases he:a.all kY
    ·simp [he]
    ·simp only [Bool.not_true,eV,if_false,ih,mh,he,Bool.true_and]
   ·cases h
  ·cases h
theorem wS (hL:L.ty=bR P) {A:Nat->Prop} {f:TypeId->AV->AV->Option (List (AV×AV))} {d n:Nat} {e:TypeId} {cs ds:List AV} {xs ys:Array Value} (n1:xs.size=cs.length) (n2:ys.size=ds.length)
  (c1:∀(i:Nat) x,cs[i]? =some x->aU w A os hd x (xs.getD i undef)) (c2:∀(i:Nat) x,ds[i]? =some x->aU w A os hd x (ys.getD i undef))
  (hf:∀t x y u v ps,aU w A os hd x u->aU w A os hd y v->f t x y=some ps->(Op.equalIn d t u v).run P w= .ok (ps.all kY) w):
  ∀(is:List Nat) (ps:List (AV×AV)),Lx L f (is.map λi=>(i*n,e)) cs ds=some ps->(Op.eqItems d e n xs ys is).run P w= .ok (ps.all kY) w
 | [],ps,h=>by
  simp only [kd,Lx,cH] at h;subst h;simp [Op.eqItems]
 | i ::is,ps,h=>by
  simp only [dj,Lx] at h;split at h
  ·rename_i x y hx hy;split at h
   ·rename_i a b ha hb;cases h;obtain ⟨u,h1,h2⟩:=vG (w:=w) hL n1 c1 hx;obtain ⟨v,h3,h4⟩:=vG (w:=w) hL n2 c2 hy;have h5:=hf _ _ _ _ _ _ h1 h3 ha;have ih:=wS hL n1 n2 c1 c2 hf is b hb;simp only [Op.eqItems,aE,h2,h4,h5,cS];cases he:a.all kY
    ·simp [he]
    ·simp only [Bool.not_true,eV,if_false,ih,mh,he,Bool.true_and]
   ·cases h
  ·cases h
theorem vY (hL:L.ty=bR P) {A:Nat->Prop}:∀(d:Nat) (t:TypeId) (x y:AV) (u v:Value) (ps:List (AV×AV)),d<=8->aU w A os hd x u->aU w A os hd y v->eqL L d t x y=some ps->
  (∀D,d<=D->(Op.equalIn D t u v).run P w= .ok (ps.all kY) w)/\(x=x->(∃cs,x= .agg cs)->P.eqGuardType P.depth t=false)
 |0,t,x,y,u,v,ps,_,hx,hy,h=>by simp [eqL] at h
 | d +1,t,x,y,u,v,ps,hd8,hx,hy,h=>by
  unfold eqL at h;split at h
  ·rename_i k0 k a k' b ht;split at h
   ·rename_i e;subst e;cases h;refine ⟨λD hD=>?_,λ_ ⟨cs,e⟩=>by cases e⟩;(obtain ⟨D,rfl⟩:∃D',D=D'+1:=⟨D - 1,by omega⟩);rw [hx.fJ,hy.fJ,run_equalIn_int w D t k k0 a b (y8 hL ht)];simp [kY]
   ·cases h
  ·rename_i a b ht;cases h;refine ⟨λD hD=>?_,λ_ ⟨cs,e⟩=>by cases e⟩;(obtain ⟨D,rfl⟩:∃D',D=D'+1:=⟨D - 1,by omega⟩);rw [hx.kg,hy.kg,run_equalIn_bool' w D t a b (Fv hL ht)];simp [kY]
  ·rename_i a b ht;cases h;refine ⟨λD hD=>?_,λ_ ⟨cs,e⟩=>by cases e⟩;(obtain ⟨D,rfl⟩:∃D',D=D'+1:=⟨D - 1,by omega⟩);rw [hx.kT.1,hy.kT.1,run_equalIn_string w D t a b (y7 hL ht)];simp [kY]
  ·rename_i fs cs ds ht;split at h
   ·rename_i heq;obtain ⟨xs,rfl,n1,c1⟩:=hx.iP;obtain ⟨ys,rfl,n2,c2⟩:=hy.iP;obtain ⟨gs,g1,g2⟩:=xD hL ht;obtain ⟨h1,h2,h3,h4⟩:=afO hL g1 heq;(have e:P.fieldsOf t=gs:=by unfold Program.fieldsOf;rw [g1]);refine ⟨λD hD=>?_,λ_ _=>h3⟩;(obtain ⟨D,rfl⟩:∃D',D=D'+1:=⟨D - 1,by omega⟩);rw [run_equalIn_agg w D t xs ys h1 h2];rw [g2] at h;rw [e] at h4 ⊢;exact F5 hL n1 n2 c1 c2 (λt x y u v ps hx hy hf=>(vY hL d t x y u v ps (by omega) hx hy hf).1 D (by omega)) gs.toList ps h4 h
   ·cases h
  ·rename_i len e cs ds ht;split at h
   ·cases h
   ·rename_i heq hne;obtain ⟨xs,rfl,n1,c1⟩:=hx.iP;obtain ⟨ys,rfl,n2,c2⟩:=hy.iP;have hu:=vS hL ht;obtain ⟨i,h1,h2,_⟩:=Fp hL (t:=e) hne;(have hco:P.cellsOf e=(L.ty e).n:=by rw [h2];simp [Program.cellsOf,h1]);refine ⟨λD hD=>?_,λ_ _=>adx hL heq hu⟩;(obtain ⟨D,rfl⟩:∃D',D=D'+1:=⟨D - 1,by omega⟩);rw [run_equalIn_array w D xs ys hu h1,hco];exact wS hL n1 n2 c1 c2 (λt x y u v ps hx hy hf=>(vY hL d t x y u v ps (by omega) hx hy hf).1 D (by omega)) _ ps h
   ·cases h
  ·cases h
theorem CO {op:BinOp} {dst:Option Tmp} {ty:TypeId} {pos:String} {af:Array Edge} {g:Option (Nat×Bool)} {t t':TypeId} {x y:Operand} {xs ys:Array Value} (hx:a.eval x= .agg xs) (hy:a.eval y= .agg ys) (h:P.eqGuardType P.depth t=false) {b:Value} (hb:(binOp op t (.agg xs) (.agg ys)).run P w= .ok b w):
  (execOp a.eval ⟨dst,.binOp op t x y t',ty,pos,af,g⟩).run P w= .ok (.value b) w:=by
 simp only [execOp,hx,hy];simp [aE,run_eqGuard_agg w op t x y xs ys h,hb]
theorem V6 [St] (hL:L.ty=bR P) {A:Nat->Prop} (d:Option Tmp) (ty:TypeId) (pos:String) (af:Array Edge) (g:Option (Nat×Bool)) (op:BinOp) (t t':TypeId) (x y:Operand) (K:AV->Prop)
  (hx:aU w A os hd (s.get x) (a.eval x)) (hy:aU w A os hd (s.get y) (a.eval y)) (hk:Hz (bG np P) L op t (s.get x) (s.get y) K):
  Yields P w A os hd a ⟨d,.binOp op t x y t',ty,pos,af,g⟩ K:=by
 generalize s.get x=p at*;generalize s.get y=q at*;unfold Hz at hk;split at hk
 ·rename_i k m k' n;have e1:=hx.fJ;have e2:=hy.fJ;split at hk
  ·obtain ⟨hz,hk⟩:=hk
   exact ⟨_,_,hk,.pure _ _ (.int _ _),by
    simp only [execOp,e1,e2]
    simp [go_sem,eqGuard,binOp,Op.shift,Int.not_lt.2 hz,Nat.min]⟩
  split at hk
  ·subst k';unfold MF at hk;unfold Yields;cases op<;>simp only [bG] at hk
   case add|sub|mul=>exact ⟨_,_,hk,.pure _ _ (.int _ _),by simp only [execOp,e1,e2];simp [go_sem,eqGuard,binOp,Op.intArith]⟩
   case and|or|xor=>exact ⟨_,_,hk,.pure _ _ (.int _ _),by simp only [execOp,e1,e2];simp [go_sem,eqGuard,binOp,Op.intBits,bitsOf]⟩
   case quo|rem=>obtain ⟨hz,hk⟩:=hk;exact ⟨_,_,hk,.pure _ _ (.int _ _),by
    simp only [execOp,e1,e2]
    simp [go_sem,eqGuard,binOp,Op.intDiv,hz]⟩
   case lss|leq|gtr|geq|eql|neq=>exact ⟨_,_,hk,.pure _ _ (.bool _),by simp only [execOp,e1,e2];simp [go_sem,eqGuard,binOp,Op.intCmp,bne,D6]⟩
   all_goals exact hk.elim
  ·exact hk.elim
 ·rename_i u v';obtain ⟨e1,h1⟩:=hx.kT;obtain ⟨e2,h2⟩:=hy.kT;unfold MC at hk;unfold Yields;cases op<;>simp only [bG] at hk
  case add=>exact ⟨_,_,hk.2,.pure _ _ (.str _ (by rw [dl];exact hk.1)),by
   have hm:=hk.1;unfold maxLen at hm;simp only [execOp,e1,e2]
   simp [go_sem,eqGuard,binOp,Op.stringOp,IntKind.max,IntKind.signed,IntKind.bits];omega⟩
  case lss|geq|eql|neq=>exact ⟨_,_,hk,.pure _ _ (.bool _),by
   simp only [execOp,e1,e2];simp [go_sem,eqGuard,binOp,Op.stringOp,D6]⟩
  case leq=>exact ⟨_,_,hk,.pure _ _ (.bool _),by
   simp only [execOp,e1,e2];simp only [D6,J5];simp [go_sem,eqGuard,binOp,Op.stringOp]⟩
  case gtr=>
   have e3:Op.bytesLess v'.toList u.toList= !(Op.bytesLess u.toList v'.toList || u.toList == v'.toList):=by rw [←J5];simp
   exact ⟨_,_,hk,.pure _ _ (.bool _),by
    simp only [execOp,e1,e2];rw [e3];simp [go_sem,eqGuard,binOp,Op.stringOp]⟩
  all_goals exact hk.elim
 ·rename_i b c;have e1:=hx.kg;have e2:=hy.kg;unfold Yields;split at hk
  ·have ht:=Fv hL (by assumption);exact ⟨_,_,hk,.pure _ _ (.bool _),by simp only [execOp,e1,e2];cases b<;>cases c<;>simp [go_sem,eqGuard,aeH,Dm,run_eql_bool,ht]⟩
  ·have ht:=Fv hL (by assumption);exact ⟨_,_,hk,.pure _ _ (.bool _),by simp only [execOp,e1,e2];cases b<;>cases c<;>simp [go_sem,eqGuard,aeH,Dm,binOp,run_equal_bool,ht]⟩
  ·exact hk.elim
 ·rename_i cs ds;obtain ⟨xs,e1,n1,c1⟩:=hx.iP;obtain ⟨ys,e2,n2,c2⟩:=hy.iP;unfold Yields;split at hk
  ·rename_i ps hps;obtain ⟨h1,h2⟩:=vY (w:=w) (A:=A) (os:=os) (hd:=hd) hL 8 t _ _ _ _ _ (by omega) hx hy hps;rw [e1,e2] at h1;exact ⟨_,_,hk,.pure _ _ (.bool _),CO e1 e2 (h2 rfl ⟨_,rfl⟩) (by rw [run_eql_struct,h1 10000 (by omega)];rfl)⟩
  ·rename_i ps hps;obtain ⟨h1,h2⟩:=vY (w:=w) (A:=A) (os:=os) (hd:=hd) hL 8 t _ _ _ _ _ (by omega) hx hy hps;rw [e1,e2] at h1;exact ⟨_,_,hk,.pure _ _ (.bool _),CO e1 e2 (h2 rfl ⟨_,rfl⟩) (by rw [run_neq_struct,h1 10000 (by omega),D6];rfl)⟩
  ·exact hk.elim
 ·exact hk.elim
theorem run_indexAt {t e k:Nat} {b off len cap:Nat} {kk:IntKind} {i:Int} (he:P.underlying t=some (.slice e)) (hn:∀w,(sizeOf e).run P w= .ok k w) (h0:0<=i) (hlt:i.toNat<len):
  (Instr.indexAt t (.slice (some ⟨b,off,none⟩) len cap) (.int kk i)).run P w= .ok (.pointer (some ⟨b,off+i.toNat*k,none⟩)) w:=by
 have hlt':i<(len:Int):=by omega
 have h1:=λw=>run_underlying (P:=P) he w;unfold Instr.indexAt;simp only [asIntOf,pure_bind];simp [h1,hn,h0,hlt',addr_add]
theorem bB.afN {A:Nat->Prop} {k:Nat} {es:List (List AV)} {v:Value} {G:Nat->Prop} (h:bB w A (.sl true k es) v G):es.length<=maxLen:=by
 cases h with
 |pure _ _ _ _ ho _=>simp [AV.dF] at ho
 |nil=>simp
 |sl _ _ cap b T c _ G hb hl=>exact hl
theorem Sn {i:Int} {len:Nat} {d:D} (h:aaI i len d=true):0<=i/\i<(len:Int)/\d≠ .other:=by
 unfold aaI at h;split at h
 ·cases h
 ·rename_i n hd;refine ⟨Int.natCast_nonneg _,?_,hd⟩;have:n<len:=by simpa [Nat.blt_eq] using h
  show (n:Int)<len;omega
 ·cases h
theorem Kr {t e k:Nat} {b off len:Nat} {kk:IntKind} {i:Int} (he:P.underlying t=some (.array len e)) (hn:(sizeOf e).run P w= .ok k w) (h0:0<=i) (hlt:i<(len:Int)):
  (Instr.indexAt t (.pointer (some ⟨b,off,none⟩)) (.int kk i)).run P w= .ok (.pointer (some ⟨b,off+i.toNat*k,none⟩)) w:=by
 have h1:=λw=>run_underlying (P:=P) he w;unfold Instr.indexAt;simp only [asIntOf,pure_bind];simp [h1,hn,h0,hlt,addr_add,Instr.sureAddr]
theorem xK (hL:L.ty=bR P) {t} (h:isStr L t=true):P.underlying t=some .string:=by
 unfold isStr at h;split at h
 ·exact y7 hL (by assumption)
 ·cases h
theorem uj {c:Call} {b:Builtin} {v:Value} {dst:Option Tmp} {ty:TypeId} {pos:String} {af:Array Edge} {g:Option (Nat×Bool)} (hc:c.callee= .builtin b)
  (h:(builtin b c.argTypes ty (c.args.map fun| .const _=>true|_=>false) (c.args.map a.eval)).run P w= .ok (.value v) w):
  (execOp a.eval ⟨dst,.call c,ty,pos,af,g⟩).run P w= .ok (.value v) w:=by
 obtain ⟨ce,as',ts⟩:=c;cases hc;exact h
theorem run_sliceBound {k:IntKind} {i:Int} {y:Nat} {code:BoundsCode} (h0:0<=i) (h1:i<=y):(Instr.sliceBound (.int k i) y code).run P w= .ok i.toNat w:=by
 simp [Instr.sliceBound,asIntOf,go_sem,h0,h1]
theorem iA {kl kh:IntKind} {lo hi:Option Int} {b:Bool} {len cap:Nat} (h0:0<=lo.getD 0) (h1:lo.getD 0<=hi.getD len) (h2:hi.getD len<=len) (h3:len<=cap):
  (Instr.sliceBounds b len cap (lo.map (.int kl)) (hi.map (.int kh)) none).run P w= .ok ((lo.getD 0).toNat,(hi.getD len).toNat,cap) w:=by
 unfold Instr.sliceBounds
 cases lo with
 | none=>
  cases hi with
  |none=>simp [go_sem]
  | some h=>
   simp at h1 h2;have e:=λc=>run_sliceBound (P:=P) (w:=w) (k:=kh) (code:=c) h1 (by omega:h<=cap);simp [e,go_sem]
 | some l=>
  cases hi with
  | none=>
   simp at h0 h1;have e:=λc=>run_sliceBound (P:=P) (w:=w) (k:=kl) (code:=c) h0 h1;simp [e,go_sem]
  | some h=>
   simp at h0 h1 h2;have e1:=λc=>run_sliceBound (P:=P) (w:=w) (k:=kh) (code:=c) (by omega:0<=h) (by omega:h<=cap);have e2:=λc=>run_sliceBound (P:=P) (w:=w) (k:=kl) (y:=h.toNat) (code:=c) h0 (by omega);simp only [cF,aE];rw [show Sem.run P (pure cap) w= .ok cap w from rfl];simp only [cS];rw [e1];simp only [cS];rw [e2];rfl
theorem eF {A:Nat->Prop} {lo:Option Operand} {lo':Option Int} (h:AA s lo=some lo') (hx:∀y∈lo,aU w A s.os hd (s.get y) (a.eval y)):∃k,lo.map a.eval=lo'.map (.int k):=by
 unfold AA at h;split at h
 ·cases h;exact ⟨.i64,rfl⟩
 ·rename_i x;split at h
  ·rename_i k n hg;cases h;have:=hx x rfl;rw [hg] at this;exact ⟨k,by simp [this.fJ]⟩
  ·cases h
theorem Rel.Zg {A:Nat->Prop} {own k es p cap} (h:Rel w A (.sl own k es) (.slice p es.length cap)) {l m:Nat} (h1:l<=m) (h2:m<=es.length):
  Rel w A (.sl false k ((es.take m).drop l)) (.slice (if cap=l then p else p.map (·.add (l*k))) (m - l) (cap - l)):=by
 have hlen:((es.take m).drop l).length=m - l:=by simp;omega
 rw [←hlen]
 cases h with
 | sl _ _ _ _ _ b off val hl hcap hp hk hc h1c hr=>
  refine .sl false k _ _ _ b (off+l*k) (λi j=>val (l+i) j) (by omega) (by omega) (λhne=>?_) (λe he=>hk e (dd (du he))) (λi j hi hj=>?_) (λi j hi hj=>?_) (λi j e a he ha=>?_)
  ·(have h3:0<m - l:=by rw [←hlen];exact fh.2 hne);(have hne':es≠[]:=by rintro rfl;simp at h2;omega);obtain ⟨rfl,hA⟩:=hp hne';rw [if_neg (by omega)];exact ⟨by simp [addr_add],hA⟩
  ·rw [hlen] at hi;have:=hc (l+i) j (by omega) hj;rw [←this,bz];congr 2;omega
  ·rw [hlen] at hi;exact h1c (l+i) j (by omega) hj
  ·rw [bv,be] at he;split at he
   ·exact hr (l+i) j e a he ha
   ·cases he
theorem qF {A:Nat->Prop} {k es} {v:Value} {G:Nat->Prop} (h:bB w A (.sl true k es) v G):
  ∃p cap,v= .slice p es.length cap/\es.length<=cap/\(∀l m:Nat,l<=m->m<=es.length->l<m->∃b,v= .slice (some ⟨b,0,none⟩) es.length cap/\(if cap=l then p else p.map (·.add (l*k)))=some ⟨b,l*k,none⟩)/\p.map (·.add (0*k))=p:=by
 cases h with
 |pure _ _ _ h ho hF=>simp [AV.dF] at ho
 |nil=>exact ⟨none,0,rfl,by simp,λl m h1 h2 h3=>by simp at h2;omega,rfl⟩
 | sl _ _ cap b T c F G hb hl hcap hsz hk h1c hr hF h0 hd=>
  refine ⟨_,cap,rfl,hcap,λl m h1 h2 h3=>⟨b,rfl,?_⟩,by simp [addr_add]⟩;rw [if_neg (by omega)];simp [addr_add]
theorem jK {t e k len cap l h:Nat} {p:Option Addr} {lo hi:Option Value} (he:P.underlying t=some (.slice e)) (hn:∀w,(sizeOf e).run P w= .ok k w)
  (hb:(Instr.sliceBounds true len cap lo hi none).run P w= .ok (l,h,cap) w):
  (Instr.sliceAt t (.slice p len cap) lo hi none).run P w= .ok (.slice (if cap=l then p else p.map (·.add (l*k))) (h - l) (cap - l)) w:=by
 unfold Instr.sliceAt;rw [aE,run_underlying he];show (Instr.slice t _ lo hi none).run P w=_;unfold Instr.slice;rw [aE,run_underlying he];show ((Instr.sliceBounds true len cap lo hi none) >>= _).run P w=_;rw [aE,hb];show ((sizeOf e) >>= _).run P w=_;rw [aE,hn];rfl
theorem Am {kl kh km:IntKind} {l h m:Int} {len cap:Nat} (h0:0<=l) (h1:l<=h) (h2:h<=m) (h3:m<=cap):
  (Instr.sliceBounds true len cap (some (.int kl l)) (some (.int kh h)) (some (.int km m))).run P w= .ok (l.toNat,h.toNat,m.toNat) w:=by
 unfold Instr.sliceBounds;have e0:=λc=>run_sliceBound (P:=P) (w:=w) (k:=km) (y:=cap) (code:=c) (by omega:0<=m) h3;have e1:=λc=>run_sliceBound (P:=P) (w:=w) (k:=kh) (y:=m.toNat) (code:=c) (by omega:0<=h) (by omega);have e2:=λc=>run_sliceBound (P:=P) (w:=w) (k:=kl) (y:=h.toNat) (code:=c) h0 (by omega);simp only [aE];rw [e0];simp only [cS];rw [e1];simp only [cS];rw [e2];rfl
theorem Db {t e k len cap l h m:Nat} {p:Option Addr} {lo hi mx:Option Value} (he:P.underlying t=some (.slice e)) (hn:∀w,(sizeOf e).run P w= .ok k w)
  (hb:(Instr.sliceBounds true len cap lo hi mx).run P w= .ok (l,h,m) w):
  (Instr.sliceAt t (.slice p len cap) lo hi mx).run P w= .ok (.slice (if m=l then p else p.map (·.add (l*k))) (h - l) (m - l)) w:=by
 unfold Instr.sliceAt;rw [aE,run_underlying he];show (Instr.slice t _ lo hi mx).run P w=_;unfold Instr.slice;rw [aE,run_underlying he];show ((Instr.sliceBounds true len cap lo hi mx) >>= _).run P w=_;rw [aE,hb];show ((sizeOf e) >>= _).run P w=_;rw [aE,hn];rfl
theorem Da {t l h:Nat} {b:ByteArray} {lo hi:Option Value} (he:P.underlying t=some .string)
  (hb:(Instr.sliceBounds false b.size b.size lo hi none).run P w= .ok (l,h,b.size) w):
  (Instr.sliceAt t (.string b) lo hi none).run P w= .ok (.string (b.extract l h)) w:=by
 unfold Instr.sliceAt;rw [aE,run_underlying he];show (Instr.slice t _ lo hi none).run P w=_;unfold Instr.slice;rw [aE,run_underlying he];show ((Instr.sliceBounds false b.size b.size lo hi none) >>= _).run P w=_;rw [aE,hb];rfl
theorem kM [St] {A:Nat->Prop} (hL:L.ty=bR P) (hw:CW W w A s.os hd F) {dst:Option Tmp} {op:Op} {ty:TypeId} {pos:String} {af:Array Edge} {g:Option (Nat×Bool)} {K:AV->Prop}
  (hx:∀y∈op.operands,aU w A s.os hd (s.get y) (a.eval y)) (hk:eT (bG np P) L s op K):
  Yields P w A s.os hd a ⟨dst,op,ty,pos,af,g⟩ K:=by
 unfold Yields;cases op
 case move x=>exact ⟨_,_,hk,hx x (by simp [Op.operands]),by simp only [execOp];rfl⟩
 case assign x=>exact ⟨_,_,hk,hx x (by simp [Op.operands]),by simp only [execOp];rfl⟩
 case pick c x y=>
  simp only [eT] at hk;have hc:=hx c (by simp [Op.operands]);split at hk
  ·rename_i b hb;rw [hb] at hc;have ec:=hc.kg;split at hk
   ·exact ⟨_,_,hk,hx x (by simp [Op.operands]),by simp only [execOp,ec];simp [go_sem,asBool, *]⟩
   ·exact ⟨_,_,hk,hx y (by simp [Op.operands]),by simp only [execOp,ec];simp [go_sem,asBool, *]⟩
  ·exact hk.elim
 case binOp op t x y t'=>exact V6 hL dst ty pos af g op t t' x y K (hx x (by simp [Op.operands])) (hx y (by simp [Op.operands])) hk
 case unOp op t x=>
  have h1:=hx x (by simp [Op.operands]);cases op<;>simp only [eT] at hk
  case not=>
   split at hk
   ·rename_i b hb;rw [hb] at h1;exact ⟨_,_,hk,.pure _ _ (.bool _),by simp only [execOp,h1.kg];cases b<;>simp [go_sem,Op.unary,Dm]⟩
   ·exact hk.elim
  case neg=>
   split at hk
   ·rename_i k n hb;rw [hb] at h1;exact ⟨_,_,hk,.pure _ _ (.int _ _),by simp only [execOp,h1.fJ];simp [go_sem,Op.unary,bG,Op.intArith]⟩
   ·exact hk.elim
 case nilCheck x=>
  have h1:=hx x (by simp [Op.operands]);simp only [eT] at hk;split at hk
  ·rename_i cs hb;rw [hb] at h1;obtain ⟨b,off,e,_,_⟩:=h1.rT.rT;exact ⟨_,_,hk,h1,by simp only [execOp,e];simp [go_sem]⟩
  ·rename_i id off hb;rw [hb] at h1;split at hk
   ·rename_i cs ho;obtain ⟨b,e,e'⟩:=h1.lX ho;exact ⟨_,_,hk,h1,by simp only [execOp,e'];rfl⟩
   ·exact hk.elim
  ·rename_i id i j hb;rw [hb] at h1;split at hk
   ·rename_i k es ho;obtain ⟨b,n,c,e,_,_,e'⟩:=h1.ED ho;exact ⟨_,_,hk,h1,by simp only [execOp,e'];rfl⟩
   ·exact hk.elim
  ·exact hk.elim
 case load t x=>
  have h1:=hx x (by simp [Op.operands]);simp only [eT] at hk;split at hk
  ·rename_i cs hb;rw [hb] at h1;obtain ⟨b,off,e,_,hp⟩:=h1.rT.rT;obtain ⟨x',v,h2,h3,h4⟩:=mG hL (hp.pt (os:=s.os) (hd:=hd)) hk;exact ⟨x',v,h2,h3,pK e h4⟩
  ·rename_i id off hb;rw [hb] at h1;split at hk
   ·rename_i cs ho;obtain ⟨b,T,c,e1,e2,e3,e4,_⟩:=hw.boxes id cs ho
    have hp:Pt w A s.os hd b 0 cs:=λj y hy=>by
     have hj:=(aa.1 hy).1;refine ⟨c.getD j undef,?_,e4 j y hy⟩;(have h5:j<c.size:=by omega);simp [World.cell?,e2,h5]
    have hp':=hp.drop off;obtain ⟨x',v,h2,h3,h4⟩:=mG hL hp' hk
    cases h1 with
    |pure _ _ h=>cases h
    | pb _ _ _ _ h=>
     obtain ⟨b',e5,e6⟩:=h cs ho;rw [e1] at e5;cases e5;rw [bw] at h4;exact ⟨x',v,h2,h3,pK e6 h4⟩
   ·exact hk.elim
  ·rename_i id i j hb;rw [hb] at h1;split at hk
   ·rename_i k es ho;obtain ⟨hi,e,he,hk⟩:=hk;split at hk
    ·rename_i hfl;obtain ⟨b,T,c,cap,e1,e2,e3,e4,e5,e6⟩:=(hw.rows id k es ho).Ns he
     have hp:Pt w A s.os hd b (i.toNat*k+j) ((e.drop j).take (L.ty t).n):=λm y hy=>by
      have hy0:=hy;rw [be] at hy;split at hy
      ·rw [bv] at hy;obtain ⟨h7,G',h8⟩:=e6 (j+m) y hy;rw [←fN] at h7 h8;exact ⟨_,h7,.pure _ _ (h8.IJ (YC hfl hy0))⟩
      ·cases hy
     obtain ⟨x',v,h2,h3,h4⟩:=mG hL hp hk
     cases h1 with
     |pure _ _ h=>cases h
     | pe _ _ _ _ _ h=>
      obtain ⟨b',n',c',e7,_,_,e8⟩:=h k es ho;rw [e1] at e7;cases e7;exact ⟨x',v,h2,h3,pK e8 h4⟩
    ·exact hk.elim
   ·exact hk.elim
  ·exact hk.elim
 case fieldAddr t x f=>
  have h1:=hx x (by simp [Op.operands]);simp only [eT] at hk;split at hk
  ·rename_i off ft cs hf hb;rw [hb] at h1;obtain ⟨b,o,e,hA,hp⟩:=h1.rT.rT;exact ⟨_,_,hk,.pure _ _ (Rel.Iw hA (hp.drop off)),by simp only [execOp,e];rw [aE,uh hL hf];rfl⟩
  ·rename_i off ft id o hf hb;rw [hb] at h1;split at hk
   ·rename_i cs ho;obtain ⟨b,e,e'⟩:=h1.lX ho;refine ⟨_,_,hk,.pb _ _ _ h1.ZK (λcs' h'=>⟨b,e,rfl⟩),by simp only [execOp,e'];rw [aE,uh hL hf];rfl⟩
   ·exact hk.elim
  ·rename_i off ft id i j hf hb;rw [hb] at h1;split at hk
   ·rename_i k es ho;obtain ⟨b,n,c,e,e1,e2,e'⟩:=h1.ED ho;refine ⟨_,.pointer (some ⟨b,i.toNat*k+j+off,none⟩),hk,.pe _ _ _ _ h1.ahj (λk' es' h'=>?_),by simp only [execOp,e'];rw [aE,uh hL hf];rfl⟩;rw [ho] at h';cases h';exact ⟨b,n,c,e,e1,e2,by rw [fN]⟩
   ·exact hk.elim
  ·exact hk.elim
 case field t x f=>
  have h1:=hx x (by simp [Op.operands]);simp only [eT] at hk;split at hk
  ·rename_i off ft cs hf hb;rw [hb] at h1;obtain ⟨vs,e,hn,hc⟩:=h1.iP;obtain ⟨gs,g,h2,h3,h4,h5,h6⟩:=I6 hL hf;obtain ⟨x',v,h7,h8,h9⟩:=Eo hL hn hc hk;refine ⟨x',v,h7,h8,?_⟩;simp only [execOp,e];subst h4 h5
   have h10:(Instr.field t (.agg vs) f).run P w= .ok v w:=by
    unfold Instr.field;rw [aE,run_underlying h2];simp only [cS,h3];exact h9
   rw [aE,h10];rfl
  ·exact hk.elim
 case indexAddr t x ix=>
  have h1:=hx x (by simp [Op.operands]);have h2:=hx ix (by simp [Op.operands]);simp only [eT] at hk;split at hk
  ·rename_i own k es kk i hb hi;rw [hb] at h1;rw [hi] at h2;have e2:=h2.fJ;split at hk
   ·rename_i hk';obtain ⟨e,he,hn⟩:=jo hL hk';obtain ⟨h0,c,hc,hk⟩:=hk;obtain ⟨b,off,cap,e1,hA,hp⟩:=h1.lW.Um hc;refine ⟨_,_,hk,.pure _ _ (Rel.Iw hA hp),?_⟩;have hlt:=(aa.1 hc).1;simp only [execOp,e1,e2];rw [aE,run_indexAt he hn h0 hlt];rfl
   ·exact hk.elim
  ·rename_i id kk i hb hi;rw [hb] at h1;rw [hi] at h2;have e2:=h2.fJ;split at hk
   ·rename_i k es ho;split at hk
    ·rename_i hk';obtain ⟨e,he,hn⟩:=jo hL hk';obtain ⟨h0,c,hc,hk⟩:=hk;have e1:=h1.iI ho;obtain ⟨b,T,cc,cap,e3,e4,e5,e6,e7,e8⟩:=(hw.rows id k es ho).Ns hc;have hlt:=(aa.1 hc).1;refine ⟨_,.pointer (some ⟨b,i.toNat*k,none⟩),hk,.pe _ _ _ _ h1.N9 (λk' es' h'=>?_),?_⟩
     ·rw [ho] at h';cases h';exact ⟨b,_,_,e3,h0,hlt,by simp⟩
     ·rw [e3] at e1;simp only [execOp,e1,e2];rw [aE,run_indexAt he hn h0 hlt];simp [go_sem]
    ·exact hk.elim
   ·exact hk.elim
  ·rename_i id lo hi kk i hb hi';rw [hb] at h1;rw [hi'] at h2;have e2:=h2.fJ;split at hk
   ·rename_i k es ho;split at hk
    ·rename_i hk';obtain ⟨e,he,hn⟩:=jo hL hk';obtain ⟨⟨h0,hlt⟩,hk⟩:=hk;obtain ⟨e3,e4,e5,p,cap,e6,e7,e8,_⟩:=h1.tH ho;obtain ⟨b,n,c,e9,e10⟩:=e8 (by omega);have e11:=(hw.rows id k es ho).afN;have hwr:IntKind.i64.wrap (lo+i)=lo+i:=eA _ (by unfold maxLen at e11;constructor<;>omega);replace hk:K (.pe id (IntKind.i64.wrap (lo+i)) 0):=hk;rw [hwr] at hk;(have ajd:(lo+i).toNat=lo.toNat+i.toNat:=by omega);refine ⟨_,.pointer (some ⟨b,(lo+i).toNat*k,none⟩),hk,.pe _ _ _ _ h1.Ua (λk' es' h'=>?_),?_⟩
     ·rw [ho] at h';cases h';exact ⟨b,n,c,e9,by omega,by omega,by simp⟩
     ·subst e10;simp only [execOp,e6,e2];rw [aE,run_indexAt he hn h0 (by omega),ajd,bz];simp [go_sem]
    ·exact hk.elim
   ·exact hk.elim
  ·rename_i id o kk i hb hi;rw [hb] at h1;rw [hi] at h2;have e2:=h2.fJ;split at hk
   ·rename_i len e cs hd' ho;split at hk
    ·rename_i hin;have ht:=vS hL hd';obtain ⟨h0,hlt,hne⟩:=Sn hin;obtain ⟨b,e1,e'⟩:=h1.lX ho;refine ⟨_,.pointer (some ⟨b,o+i.toNat*(L.ty e).n,none⟩),hk,.pb _ _ _ h1.ZK (λcs' h'=>⟨b,e1,rfl⟩),?_⟩;simp only [execOp,e',e2];rw [aE,Kr ht (run_sizeOf (w:=w) hL hne) h0 hlt];simp [go_sem]
    ·exact hk.elim
   ·exact hk.elim
  ·exact hk.elim
 case index t x ix=>
  have h1:=hx x (by simp [Op.operands]);have h2:=hx ix (by simp [Op.operands]);simp only [eT] at hk;split at hk
  ·rename_i b kk i hb hi;rw [hb] at h1;rw [hi] at h2;have e2:=h2.fJ;have e1:=h1.kT.1;split at hk
   ·rename_i hs;have ht:=xK hL hs;obtain ⟨h0,hlt,hk⟩:=hk;refine ⟨_,_,hk,.pure _ _ (.int _ _),?_⟩;simp only [execOp,e1,e2];(have h3:b[i.toNat]? =some (b[i.toNat]'hlt):=by simp [hlt]);simp [go_sem,Instr.index,asIntOf,underlying,ht,h0,h3]
   ·exact hk.elim
  ·rename_i cs kk i hb hi;rw [hb] at h1;rw [hi] at h2;have e2:=h2.fJ;obtain ⟨vs,e1,n1,c1⟩:=h1.iP;split at hk
   ·rename_i len e hd';have ht:=vS hL hd';obtain ⟨h0,c,hc,hk⟩:=hk;obtain ⟨hlt,rfl⟩:=Io _ _ _ _ _ hc
    have hne:(L.ty e).d≠ .other:=by
     intro e0;unfold gH at hk;rw [e0] at hk;exact hk
    obtain ⟨x',v,g1,g2,g3⟩:=Eo (w:=w) hL n1 c1 (KG hk);have hsz:=run_sizeOf (w:=w) hL hne;refine ⟨_,_,g1,g2,?_⟩;have hb1:i<(len:Int):=by omega
    have hr:(Instr.index t (.agg vs) (.int kk i)).run P w= .ok v w:=by
     simp only [Instr.index,asIntOf,pure_bind,aE,run_underlying ht,cS];rw [if_pos ⟨h0,hb1⟩];simp only [aE,hsz,cS,g3]
    simp only [execOp,e1,e2];rw [aE,hr];rfl
   ·exact hk.elim
  ·exact hk.elim
 case convert src dst' x=>
  have h1:=hx x (by simp [Op.operands]);simp only [eT] at hk;split at hk
  ·rename_i k0 k k1 n hs hd' hb;rw [hb] at h1;have e1:=h1.fJ;refine ⟨_,_,hk,.pure _ _ (.int _ _),?_⟩;simp only [execOp,e1];simp [go_sem,convert,underlying,y8 hL hs,y8 hL hd',Conv.intToInt,bG]
  ·rename_i e t0 k0 es hs hd' hb;rw [hb] at h1;split at hk
   ·rename_i hu;obtain ⟨ns,rfl,hk⟩:=hk;obtain ⟨r1,r2⟩:=Il (P:=P) h1.lW;obtain ⟨p,cap,e1,_⟩:=h1.lW.jY;refine ⟨_,_,hk,.pure _ _ (.str _ r2),?_⟩
    have hu8:P.underlying e=some (.int .u8):=by
     unfold adQ at hu;split at hu
     ·exact y8 hL (by assumption)
     ·cases hu
    simp only [execOp];rw [e1] at r1 ⊢;rw [aE,run_convert_bytes_string w src dst' e _ _ _ (gI hL hs) hu8 (y7 hL hd'),r1];rfl
   ·exact hk.elim
  ·rename_i e id hs hd' hb;rw [hb] at h1;split at hk
   ·rename_i k0 es ho;split at hk
    ·rename_i hu;obtain ⟨ns,rfl,hk⟩:=hk;have hr:=(hw.rows id _ _ ho).rel (B:=λ_=>True) (λ_ _=>trivial) (λ_ _=>trivial);obtain ⟨r1,r2⟩:=Il (P:=P) hr;obtain ⟨p,cap,e1,_⟩:=hr.jY;refine ⟨_,_,hk,.pure _ _ (.str _ r2),?_⟩
     have hu8:P.underlying e=some (.int .u8):=by
      unfold adQ at hu;split at hu
      ·exact y8 hL (by assumption)
      ·cases hu
     simp only [execOp];rw [h1.iI ho];rw [e1] at r1 ⊢;rw [aE,run_convert_bytes_string w src dst' e _ _ _ (gI hL hs) hu8 (y7 hL hd'),r1];rfl
    ·exact hk.elim
   ·exact hk.elim
  ·exact hk.elim
 case extract x i=>
  have h1:=hx x (by simp [Op.operands]);simp only [eT] at hk;split at hk
  ·rename_i vs hb;rw [hb] at h1;obtain ⟨us,e,hn,hc⟩:=h1.ab6;split at hk
   ·rename_i v hv;have h2:=hc i v hv;have hlt:=(aa.1 hv).1;refine ⟨_,_,hk,h2,?_⟩;simp only [execOp,e]
    have h3:us[i]? =some (us.getD i undef):=by
     (have:i<us.size:=by omega);simp [Array.getD,this]
    rw [aE];unfold Instr.extract;simp only [h3];rfl
   ·exact hk.elim
  ·exact hk.elim
 case call c=>
  simp only [eT] at hk;split at hk
  ·rename_i hce;split at hk
   ·rename_i x t ha ht;(have ha':c.args=#[x]:=by rw [←dg (xs:=c.args),ha]);(have ht':c.argTypes=#[t]:=by rw [←dg (xs:=c.argTypes),ht]);have h1:=hx x (by simp [Op.operands,Call.operands,ha'])
    have run:∀n:Int,(Builtin.len_ #[t] ty #[a.eval x]).run P w= .ok (.int .i64 n) w->(execOp a.eval ⟨dst,.call c,ty,pos,af,g⟩).run P w= .ok (.value (.int .i64 n)) w:=λn h=>by
     refine uj hce ?_;rw [ha',ht',show (#[x]:Array Operand).map a.eval=#[a.eval x] from by simp];simp only [builtin];exact wJ h _
    split at hk
    ·rename_i e _ _ es hd' hb;rw [hb] at h1;obtain ⟨p,cap,e1,hl,_⟩:=h1.lW.jY;exact ⟨_,_,hk hl,.pure _ _ (.int _ _),run _ (by rw [e1];simp [Builtin.len_,go_sem,run_underlying (gI hL hd'),goInt])⟩
    ·rename_i e hd' hb;rw [hb] at h1;exact ⟨_,_,hk,.pure _ _ (.int _ _),run _ (by rw [h1.mM];simp [Builtin.len_,go_sem,run_underlying (gI hL hd'),goInt])⟩
    ·rename_i e id hd' hb;rw [hb] at h1;split at hk
     ·rename_i k es ho;have e1:=h1.iI ho;obtain ⟨p,cap,e2,hl,_⟩:=((hw.rows id k es ho).rel (B:=λ_=>True) (λ_ _=>trivial) (λ_ _=>trivial)).jY;exact ⟨_,_,hk hl,.pure _ _ (.int _ _),run _ (by rw [e1,e2];simp [Builtin.len_,go_sem,run_underlying (gI hL hd'),goInt])⟩
     ·exact hk.elim
    ·rename_i e id lo hi hd' hb;rw [hb] at h1;split at hk
     ·rename_i k es ho;obtain ⟨e1,e2,e3,p,cap,e4,_,_,_⟩:=h1.tH ho;obtain ⟨_,_,_,hl,_⟩:=((hw.rows id k es ho).rel (B:=λ_=>True) (λ_ _=>trivial) (λ_ _=>trivial)).jY;refine ⟨_,_,hk,.pure _ _ (.int _ _),run _ ?_⟩
      have e5:IntKind.i64.wrap (hi - lo)=((hi - lo).toNat:Int):=by
       unfold maxLen at hl;rw [eA _ ⟨by omega,by omega⟩];omega
      rw [e5,e4];simp [Builtin.len_,go_sem,run_underlying (gI hL hd'),goInt]
     ·exact hk.elim
    ·rename_i b hd' hb;rw [hb] at h1;obtain ⟨e1,hl⟩:=h1.kT;exact ⟨_,_,hk hl,.pure _ _ (.int _ _),run _ (by rw [e1];simp [Builtin.len_,go_sem,run_underlying (y7 hL hd'),goInt])⟩
    ·exact hk.elim
   ·exact hk.elim
  ·rename_i hce;split at hk
   ·rename_i x y ha;(have ha':c.args=#[x,y]:=by rw [←dg (xs:=c.args),ha]);have h1:=hx x (by simp [Op.operands,Call.operands,ha']);have h2:=hx y (by simp [Op.operands,Call.operands,ha']);split at hk
    ·rename_i hb1 hb2;rw [hb1] at h1;rw [hb2] at h2;refine ⟨_,_,hk,.pure _ _ (.int _ _),uj hce ?_⟩;rw [ha'];simp only [builtin];refine wJ ?_ _;simp [h1.fJ,h2.fJ,Builtin.max_,Builtin.max2,bG]
    ·exact hk.elim
   ·exact hk.elim
  ·rename_i hce;split at hk
   ·rename_i x y ha;(have ha':c.args=#[x,y]:=by rw [←dg (xs:=c.args),ha]);have h1:=hx x (by simp [Op.operands,Call.operands,ha']);have h2:=hx y (by simp [Op.operands,Call.operands,ha']);split at hk
    ·rename_i hb1 hb2;rw [hb1] at h1;rw [hb2] at h2;refine ⟨_,_,hk,.pure _ _ (.int _ _),uj hce ?_⟩;rw [ha'];simp only [builtin];refine wJ ?_ _;simp [h1.fJ,h2.fJ,Builtin.min_,Builtin.min2,bG]
    ·exact hk.elim
   ·exact hk.elim
  ·exact hk.elim
 case makeFunc fn first captured=>
  cases fn<;>simp only [eT] at hk
  case func f=>
   split at hk
   ·rename_i hf;(have hf':first=#[]:=by rw [←dg (xs:=first),hf]);refine ⟨_,.func (.func f) #[] (captured.map a.eval),hk,?_,by simp [execOp,hf',Instr.makeFunc,go_sem]⟩;refine .fn f _ _ (by simp) (λi x hx'=>?_);rw [ai,bd] at hx'
    cases hc:captured[i]? with
    |none=>simp [hc] at hx'
    | some y=>
     simp [hc] at hx';subst hx';have h3:=hx y (by simp [Op.operands];exact .inr (Array.mem_of_getElem? hc));have h4:i<captured.size:=(bj.1 hc).1;have h5:=(bj.1 hc).2;simpa [Array.getD,h4,h5] using h3
   ·rename_i y hf;(have hf':first=#[y]:=by rw [←dg (xs:=first),hf]);split at hk
    ·rename_i cs hcap hcs;(have aaU:captured=#[]:=by rw [←dg (xs:=captured),hcap]);split at hk
     ·rename_i hp;have h1:=hx y (by simp [Op.operands,hf']);rw [hcs] at h1;obtain ⟨vs,e1,e2,e3⟩:=h1.iP;refine ⟨_,.func (.func f) #[.agg vs] #[],hk,.pure _ _ (.fb f cs vs e2 λi x hx'=>?_),by generalize a.eval=ρ at e1 ⊢;simp [execOp,hf',aaU,e1,Instr.makeFunc,go_sem]⟩;have h2:=e3 i x hx';have h3:=nY hp hx';cases x<;>first|exact h2.WO trivial|cases h3
     ·exact hk.elim
    ·exact hk.elim
   ·exact hk.elim
  all_goals exact hk.elim
 case slice t x lo hi mx=>
  have h1:=hx x (by simp [Op.operands])
  cases mx with
  | some m=>
   simp only [eT] at hk;have PE:∀y∈lo,aU w A s.os hd (s.get y) (a.eval y):=λy hy=>hx y (by simp [Op.operands,kz.1 hy]);have PG:∀y∈hi,aU w A s.os hd (s.get y) (a.eval y):=λy hy=>hx y (by simp [Op.operands,kz.1 hy]);have hm:=hx m (by simp [Op.operands]);split at hk
   ·rename_i l h km m' id hl hh hmm hb;rw [hb] at h1;rw [hmm] at hm;obtain ⟨kl,e1⟩:=eF hl PE;obtain ⟨kh,e2⟩:=eF hh PG;have e3:=hm.fJ;split at hk
    ·rename_i k es ho;split at hk
     ·rename_i ht;obtain ⟨e,he,hn⟩:=jo hL ht;have e0:=h1.iI ho;obtain ⟨p,cap,h7,h9,_,_⟩:=qF (hw.rows id k es ho);obtain ⟨h4,h5,h6,h4',h5',h6',hk⟩:=hk;simp only [bp] at h4 h5 h6 h4' h5' h6';have hbd:=Am (P:=P) (w:=w) (kl:=kl) (kh:=kh) (km:=km) (len:=es.length) h4 h5 h5' (show m'<=(cap:Int) by omega);refine ⟨_,.slice (if m'.toNat=l.toNat then p else p.map (·.add (l.toNat*k))) (h.toNat - l.toNat) (m'.toNat - l.toNat),hk,.pure _ _ (.any _),?_⟩;simp only [execOp,e1,e2,e3,e0,h7,cF];exact wJ (Db he hn hbd) _
     ·exact hk.elim
    ·exact hk.elim
   ·exact hk.elim
  |none=>
  simp only [eT] at hk;have PE:∀y∈lo,aU w A s.os hd (s.get y) (a.eval y):=λy hy=>hx y (by simp [Op.operands,kz.1 hy]);have PG:∀y∈hi,aU w A s.os hd (s.get y) (a.eval y):=λy hy=>hx y (by simp [Op.operands,kz.1 hy]);split at hk
  ·rename_i l h b hl hh hb;rw [hb] at h1;obtain ⟨kl,e1⟩:=eF hl PE;obtain ⟨kh,e2⟩:=eF hh PG;obtain ⟨e3,hsz⟩:=h1.kT;split at hk
   ·rename_i ht;have ht':=xK hL ht;obtain ⟨h4,h5,h6,hk⟩:=hk;refine ⟨_,_,hk,.pure _ _ (.str _ (by rw [ByteArray.size_extract];omega)),?_⟩;simp only [execOp,e1,e2,e3];refine wJ (v:=Value.string _) ?_ _;exact Da ht' (iA h4 h5 h6 (aq _))
   ·exact hk.elim
  ·rename_i l h own k es hl hh hb;rw [hb] at h1;obtain ⟨kl,e1⟩:=eF hl PE;obtain ⟨kh,e2⟩:=eF hh PG;split at hk
   ·rename_i ht;obtain ⟨e,he,hn⟩:=jo hL ht;obtain ⟨h4,h5,h6,hk⟩:=hk;obtain ⟨p,cap,h7,h8,h9⟩:=h1.lW.jY;have:=iA (P:=P) (w:=w) (kl:=kl) (kh:=kh) (b:=true) h4 h5 h6 h9;refine ⟨_,.slice (if cap=(l.getD 0).toNat then p else p.map (·.add ((l.getD 0).toNat*k))) ((h.getD es.length).toNat - (l.getD 0).toNat) (cap - (l.getD 0).toNat),hk,.pure _ _ ?_,?_⟩
    ·have hr:=h1.lW;rw [h7] at hr;have hs:=hr.Zg (l:=(l.getD 0).toNat) (m:=(h.getD es.length).toNat) (by omega) (by omega);exact hs
    ·simp only [execOp,e1,e2,h7];refine wJ (v:=Value.slice _ _ _) ?_ _;exact jK he hn this
   ·exact hk.elim
  ·rename_i l h id hl hh hb;rw [hb] at h1;obtain ⟨kl,e1⟩:=eF hl PE;obtain ⟨kh,e2⟩:=eF hh PG;split at hk
   ·rename_i k es ho;split at hk
    ·rename_i ht;obtain ⟨e,he,hn⟩:=jo hL ht;have e0:=h1.iI ho;obtain ⟨p,cap,h7,h9,h10,SC⟩:=qF (hw.rows id k es ho);obtain ⟨h4,h5,h6,hk⟩:=hk;simp only [bp] at h4 h5 h6;have:=iA (P:=P) (w:=w) (kl:=kl) (kh:=kh) (b:=true) (lo:=some l) (hi:=some h) (len:=es.length) (cap:=cap) (by simp;try omega) (by simp;try omega) (by simp;try omega) h9;refine ⟨_,.slice (if cap=l.toNat then p else p.map (·.add (l.toNat*k))) (h - l).toNat (cap - l.toNat),hk,.vs _ _ _ _ h1.N9 (λk' es' h'=>?_),?_⟩
     ·rw [ho] at h';cases h';refine ⟨h4,h5,h6,_,_,rfl,by omega,λhlt=>?_,λh0=>⟨es.length,?_⟩⟩
      ·obtain ⟨b,h11,h12⟩:=h10 l.toNat h.toNat (by omega) (by omega) (by omega);exact ⟨b,_,_,by rw [h7,←h11,h7],h12⟩
      ·rw [h7];(try subst h0);simp only [ge,SC,ite_self,gR]
     ·simp only [execOp,e1,e2,e0,h7];refine wJ (v:=Value.slice _ _ _) ?_ _;(have h13:(h - l).toNat=h.toNat - l.toNat:=by omega);rw [h13];exact jK he hn this
    ·exact hk.elim
   ·exact hk.elim
  ·rename_i h id hl hh hb;rw [hb] at h1;obtain ⟨kl,e1⟩:=eF hl PE;obtain ⟨kh,e2⟩:=eF hh PG;split at hk
   ·rename_i k es ho;split at hk
    ·rename_i ht;obtain ⟨e,he,hn⟩:=jo hL ht;have e0:=h1.iI ho;obtain ⟨p,cap,h7,h9,h10,SC⟩:=qF (hw.rows id k es ho);obtain ⟨h4,h5,h6,hk⟩:=hk;simp only [bp] at h4 h5 h6;have:=iA (P:=P) (w:=w) (kl:=kl) (kh:=kh) (b:=true) (lo:=none) (hi:=some h) (len:=es.length) (cap:=cap) (by simp;try omega) (by simp;try omega) (by simp;try omega) h9;refine ⟨_,.slice (if cap=(0:Int).toNat then p else p.map (·.add ((0:Int).toNat*k))) (h - (0:Int)).toNat (cap - (0:Int).toNat),hk,.vs _ _ _ _ h1.N9 (λk' es' h'=>?_),?_⟩
     ·rw [ho] at h';cases h';refine ⟨h4,h5,h6,_,_,rfl,by omega,λhlt=>?_,λh0=>⟨es.length,?_⟩⟩
      ·obtain ⟨b,h11,h12⟩:=h10 (0:Int).toNat h.toNat (by omega) (by omega) (by omega);exact ⟨b,_,_,by rw [h7,←h11,h7],h12⟩
      ·rw [h7];(try subst h0);simp only [ge,SC,ite_self,gR]
     ·simp only [execOp,e1,e2,e0,h7];refine wJ (v:=Value.slice _ _ _) ?_ _;(have h13:(h - (0:Int)).toNat=h.toNat - (0:Int).toNat:=by omega);rw [h13];exact jK he hn this
    ·exact hk.elim
   ·exact hk.elim
  ·rename_i l id hl hh hb;rw [hb] at h1;obtain ⟨kl,e1⟩:=eF hl PE;obtain ⟨kh,e2⟩:=eF hh PG;split at hk
   ·rename_i k es ho;split at hk
    ·rename_i ht;obtain ⟨e,he,hn⟩:=jo hL ht;have e0:=h1.iI ho;obtain ⟨p,cap,h7,h9,h10,SC⟩:=qF (hw.rows id k es ho);obtain ⟨_,_,h14,h15,_⟩:=((hw.rows id k es ho).rel (B:=λ_=>True) (λ_ _=>trivial) (λ_ _=>trivial)).jY;obtain ⟨h4,h5,h6,hk⟩:=hk h15;simp only [bp] at h4 h5 h6;have:=iA (P:=P) (w:=w) (kl:=kl) (kh:=kh) (b:=true) (lo:=some l) (hi:=none) (len:=es.length) (cap:=cap) (by simp;try omega) (by simp;try omega) (by simp;try omega) h9;refine ⟨_,.slice (if cap=l.toNat then p else p.map (·.add (l.toNat*k))) ((es.length:Int) - l).toNat (cap - l.toNat),hk,.vs _ _ _ _ h1.N9 (λk' es' h'=>?_),?_⟩
     ·rw [ho] at h';cases h';refine ⟨h4,h5,h6,_,_,rfl,by omega,λhlt=>?_,λh0=>⟨es.length,?_⟩⟩
      ·obtain ⟨b,h11,h12⟩:=h10 l.toNat (es.length:Int).toNat (by omega) (by omega) (by omega);exact ⟨b,_,_,by rw [h7,←h11,h7],h12⟩
      ·rw [h7];(try subst h0);simp only [ge,SC,ite_self,gR]
     ·simp only [execOp,e1,e2,e0,h7];refine wJ (v:=Value.slice _ _ _) ?_ _;(have h13:((es.length:Int) - l).toNat=(es.length:Int).toNat - l.toNat:=by omega);rw [h13];exact jK he hn this
    ·exact hk.elim
   ·exact hk.elim
  ·rename_i l h id z hh0 hl hh hb;rw [hb] at h1;obtain ⟨kl,e1⟩:=eF hl PE;obtain ⟨kh,e2⟩:=eF hh PG;split at hk
   ·rename_i k es ho;split at hk
    ·rename_i hz0;subst hz0;split at hk
     ·rename_i ht;obtain ⟨e,he,hn⟩:=jo hL ht;obtain ⟨_,g2,g3,pv,agN,e0,g5,g6,g7⟩:=h1.tH ho;obtain ⟨nv,g8⟩:=g7 rfl;obtain ⟨p,cap,h7,h9,h10,SC⟩:=qF (hw.rows id k es ho);rw [g8] at h7 h10;cases h7;obtain ⟨h4,h5,h6,hk⟩:=hk;simp only [bp] at h4 h5 h6;have hbd:=iA (P:=P) (w:=w) (kl:=kl) (kh:=kh) (b:=true) (lo:=some l) (hi:=some h) (len:=es.length) (cap:=agN) (by simp;try omega) (by simp;try omega) (by simp;try omega) h9;refine ⟨_,.slice (if agN=l.toNat then pv else pv.map (·.add (l.toNat*k))) (h - l).toNat (agN - l.toNat),hk,.vs _ _ _ _ h1.Ua (λk' es' h'=>?_),?_⟩
      ·rw [ho] at h';cases h';refine ⟨h4,h5,h6,_,_,rfl,by omega,λhlt=>?_,λh0=>⟨es.length,?_⟩⟩
       ·obtain ⟨b,h11,h12⟩:=h10 l.toNat h.toNat (by omega) (by omega) (by omega);exact ⟨b,_,_,by rw [g8,←h11],h12⟩
       ·rw [g8];(try subst h0);simp only [ge,SC,ite_self,gR]
      ·simp only [execOp,e1,e2,e0];refine wJ (v:=Value.slice _ _ _) ?_ _;(have h13:(h - l).toNat=h.toNat - l.toNat:=by omega);rw [h13];exact jK he hn hbd
     ·exact hk.elim
    ·exact hk.elim
   ·exact hk.elim
  ·exact hk.elim
 all_goals (simp [eT] at hk)
end ops
section res
variable {P:Program} {np:Nat} {W:WM} {w:World} {A:Nat->Prop} {os:List Obj} {hd:Nat->Value} {F:Nat->Nat->Prop} {s:AS}
theorem CW.rP [St] (hw:CW W w A os hd F) {id k es} (ho:os[id]? =some (.row k es)):Rel w (·<w.heap.size) (.sl true k es) (hd id):=
 (hw.rows id k es ho).rel (λx hx=>(hw.hA x hx).1) (λx hx=>(hw.fsz id x hx).2)
theorem Rel.wide [St] (hw:CW W w A os hd F) {x v} (h:Rel w A x v):Rel w (·<w.heap.size) x v:=
 h.mono (λ_ _=>rfl) (λx hx=>(hw.hA x hx).1)
theorem aU.dN {x v} (h:aU w A os hd x v) (hx:match x with| .ob _| .vs .. | .pb .. | .pe .. | .it _| .agg _| .tup _| .fn .. =>False|_=>True):Rel w A x v:=by
 cases h with
 |pure _ _ h=>exact h
 |_=>exact hx.elim
theorem Rel.Zh {w:World} {A:Nat->Prop} {own k es} {v:Value} (h:Rel w A (.sl own k es) v) {p n c} (hv:v= .slice p n c) {c':Nat} (hc':es.length<=c'):Rel w A (.sl own k es) (.slice p n c'):=by
 cases h with
 | sl _ _ _ _ _ b off val hl hcap hp hk hc h1c hr=>
  cases hv;exact .sl _ _ _ _ _ b off val hl hc' hp hk hc h1c hr
theorem yN [St] (hw:CW W w A s.os hd F) {x v} {K:AV->Prop} (h:aU w A s.os hd x v) (hk:s.r1 (bG np P) x K):∃x',K x'/\Rel w (·<w.heap.size) x' v:=by
 unfold AS.r1 at hk;split at hk
 ·split at hk
  ·rename_i id k es ho;rw [h.iI ho];exact ⟨_,hk,hw.rP ho⟩
  ·exact hk.elim
 ·split at hk
  ·rename_i id lo hi _ k es ho;obtain ⟨h1,h2,h3,hk⟩:=hk;simp only [bp] at h1 h2 h3 hk;obtain ⟨e1,e2,e3,p,cap,e4,e5,e6,_⟩:=h.tH ho;subst e4;refine ⟨_,hk,?_⟩;have hr:=hw.rP ho;(have hlen:((es.take hi.toNat).drop lo.toNat).length=(hi - lo).toNat:=by simp;omega);rw [←hlen];by_cases hlt:lo<hi
   ·obtain ⟨b,n,c,e7,e8⟩:=e6 hlt;obtain ⟨p0,c0,e9,e10,e11⟩:=hr.jY;rw [e9] at hr e7;have hs:=hr.Zg (l:=lo.toNat) (m:=hi.toNat) (by omega) (by omega);cases e7;subst e8;(have e12:c≠lo.toNat:=by omega);rw [if_neg e12] at hs;simp only [cF,addr_add,bw] at hs;(have h13:(hi - lo).toNat=hi.toNat - lo.toNat:=by omega);rw [hlen,h13];exact hs.Zh rfl (by omega)
   ·have hnil:(es.take hi.toNat).drop lo.toNat=[]:=by
     apply cm;omega
    rw [hnil];exact .sl false k [] p cap 0 0 (λ_ _=>undef) (by simp) (by simp) (by simp) (by simp) (by simp) (by simp) (by simp)
  ·exact hk.elim
 all_goals first
  |exact ⟨_,hk,(h.dN trivial).wide hw⟩
  |exact hk.elim
theorem EB [St] (hw:CW W w A s.os hd F):∀(cs:List AV) (vs:List Value) (K:List AV->Prop),vs.length=cs.length->(∀(i:Nat) x,cs[i]? =some x->aU w A s.os hd x (vs.getD i undef))->s.rL (bG np P) cs K->
  ∃cs',K cs'/\cs'.length=vs.length/\∀(i:Nat) x,cs'[i]? =some x->Rel w (·<w.heap.size) x (vs.getD i undef)
 |[],[],K,_,_,hk=>⟨[],hk,rfl,λi x hx=>by simp at hx⟩
 |[],_::_,_,hn,_,_=>by simp at hn
 |_::_,[],_,hn,_,_=>by simp at hn
 | x::cs,v::vs,K,hn,hc,hk=>by
  unfold AS.rL at hk;obtain ⟨x',hk,hx'⟩:=yN hw (hc 0 x (by simp)) hk;obtain ⟨cs',hk,hl,hcs⟩:=EB hw cs vs _ (by simpa using hn) (λi y hy=>by simpa using hc (i+1) y (by simpa using hy)) hk;refine ⟨_,hk,by simp [hl],λi y hy=>?_⟩
  cases i with
  |zero=>simp at hy;subst hy;simpa using hx'
  |succ i=>simp at hy;simpa using hcs i y hy
theorem aR (vs:Array Value) (i:Nat):vs.toList.getD i undef=vs.getD i undef:=by
 by_cases h:i<vs.size
 ·simp [Array.getD,h,List.getD]
 ·simp [Array.getD,h,List.getD]
theorem Bv [St] (hw:CW W w A s.os hd F) {id cs} (ho:s.os[id]? =some (.box cs)):
  ∃b T c,hd id= .pointer (some ⟨b,0,none⟩)/\w.heap[b]? =some (.cells c T (0,0))/\c.size=cs.length/\F id b/\Pt w A s.os hd b 0 cs/\∀(i:Nat) x,cs[i]? =some x->aU w A s.os hd x (c.getD i undef):=by
 obtain ⟨b,T,c,e1,e2,e3,e4,e5⟩:=hw.boxes id cs ho;refine ⟨b,T,c,e1,e2,e3,e5,λj y hy=>?_,e4⟩;have hj:=(aa.1 hy).1;refine ⟨c.getD j undef,?_,e4 j y hy⟩;have h5:j<c.size:=by omega
 simp [World.cell?,e2,h5]
theorem NT [St] (hw:CW W w A s.os hd F) {id off cs v} {K:List AV->Prop} (ho:s.os[id]? =some (.box cs)) (h:aU w A s.os hd (.pb id off) v) (hk:s.rL (bG np P) (cs.drop off) K):
  ∃cs',K cs'/\Rel w (·<w.heap.size) (.pp cs') v:=by
 obtain ⟨b,T,c,e1,e2,e3,e4,hp,hc⟩:=Bv hw ho;obtain ⟨b',e5,e6⟩:=h.lX ho;rw [e1] at e5;cases e5;subst e6
 obtain ⟨cs',hk,hl,hcs⟩:=EB (P:=P) hw (cs.drop off) (c.toList.drop off) K (by simp [e3]) (λi x hx=>by
  rw [bv] at hx;have:=hc (off+i) x hx;rw [←aR] at this
  simpa [List.getD] using this) hk
 refine ⟨cs',hk,Rel.Iw (hw.fsz id b e4).2 (λj x hx=>?_)⟩;have hj:=(aa.1 hx).1;have h1:=hcs j x hx;have h2:off+j<c.size:=by rw [hl] at hj;simp at hj;omega
 refine ⟨_,?_,h1⟩;simp [World.cell?,e2,h2,List.getD]
theorem NN [St] (hw:CW W w A s.os hd F):∀(cs:List AV) (vs:List Value) (K:List AV->Prop),vs.length=cs.length->(∀(i:Nat) x,cs[i]? =some x->aU w A s.os hd x (vs.getD i undef))->s.rC (bG np P) cs K->
  ∃cs',K cs'/\cs'.length=vs.length/\∀(i:Nat) x,cs'[i]? =some x->Rel w (·<w.heap.size) x (vs.getD i undef)
 |[],[],K,_,_,hk=>⟨[],by simpa [AS.rC] using hk,rfl,λi x hx=>by simp at hx⟩
 |[],_::_,_,hn,_,_=>by simp at hn
 |_::_,[],_,hn,_,_=>by simp at hn
 | x ::cs,v::vs,K,hn,hc,hk=>by
  have h0:=hc 0 x (by simp)
  have main:∀x',Rel w (·<w.heap.size) x' v->s.rC (bG np P) cs (λl'=>K (x'::l'))->∃cs',K cs'/\cs'.length=(v::vs).length/\∀(i:Nat) x,cs'[i]? =some x->Rel w (·<w.heap.size) x ((v::vs).getD i undef):=λx' hx' hk=>by
   obtain ⟨cs',hk,hl,hcs⟩:=NN hw cs vs _ (by simpa using hn) (λi y hy=>by simpa using hc (i+1) y (by simpa using hy)) hk;refine ⟨_,hk,by simp [hl],λi y hy=>?_⟩
   cases i with
   |zero=>simp at hy;subst hy;simpa using hx'
   |succ i=>simp at hy;simpa using hcs i y hy
  unfold AS.rC at hk;split at hk
  ·rename_i e;cases e
  ·rename_i id off l K' e;injection e with e1 e2;subst e1 e2;split at hk
   ·rename_i bs ho;obtain ⟨bs',hk,hb⟩:=NT hw ho h0 hk;exact main _ hb hk
   ·exact hk.elim
  ·rename_i y l K' _ e;injection e with e1 e2;subst e1 e2;obtain ⟨x',hk,hx'⟩:=yN hw h0 hk;exact main _ hx' hk
theorem WL [St] (hw:CW W w A s.os hd F) {x v} {K:AV->Prop} (h:aU w A s.os hd x v) (hk:s.res (bG np P) x K):∃x',K x'/\Rel w (·<w.heap.size) x' v:=by
 unfold AS.res at hk;split at hk
 ·obtain ⟨vs,rfl,hn,hc⟩:=h.iP;obtain ⟨cs',hk,hl,hcs⟩:=EB hw _ vs.toList _ (by simpa using hn) (λi x hx=>by rw [aR];exact hc i x hx) hk;exact ⟨_,hk,.agg _ _ (by simpa using hl.symm) (λi x hx=>by rw [←aR];exact hcs i x hx)⟩
 ·obtain ⟨vs,rfl,hn,hc⟩:=h.uO;obtain ⟨cs',hk,hl,hcs⟩:=NN hw _ vs.toList _ (by simpa using hn) (λi x hx=>by rw [aR];exact hc i x hx) hk;exact ⟨_,hk,.fn _ _ _ (by simpa using hl.symm) (λi x hx=>by rw [←aR];exact hcs i x hx)⟩
 ·split at hk
  ·rename_i id off _ cs ho;obtain ⟨cs',hk,hb⟩:=NT hw ho h hk;exact ⟨_,hk,hb⟩
  ·exact hk.elim
 ·split at hk
  ·rename_i id i j _ k es ho;obtain ⟨h0,e,he,hk⟩:=hk;refine ⟨_,hk,?_⟩;obtain ⟨b,n,c,e1,e2,e3,e4⟩:=h.ED ho;subst e4;obtain ⟨b',off',cap,e5,hb,hp⟩:=(hw.rP ho).Um he;rw [e1] at e5;injection e5 with e5 _ _;injection e5 with e5;injection e5 with e5 e6 _;subst e5 e6;have:=hp.drop j;rw [bw] at this;exact Rel.Iw hb this
  ·exact hk.elim
 ·exact yN hw h hk
theorem xg [St] (hw:CW W w A s.os hd F):∀(cs:List AV) (vs:List Value) (K:List AV->Prop),vs.length=cs.length->(∀(i:Nat) x,cs[i]? =some x->aU w A s.os hd x (vs.getD i undef))->s.tu (bG np P) cs K->
  ∃cs',K cs'/\cs'.length=vs.length/\∀(i:Nat) x,cs'[i]? =some x->Rel w (·<w.heap.size) x (vs.getD i undef)
 |[],[],K,_,_,hk=>⟨[],hk,rfl,λi x hx=>by simp at hx⟩
 |[],_::_,_,hn,_,_=>by simp at hn
 |_::_,[],_,hn,_,_=>by simp at hn
 | x::cs,v::vs,K,hn,hc,hk=>by
  unfold AS.tu at hk;obtain ⟨x',hk,hx'⟩:=WL hw (hc 0 x (by simp)) hk;obtain ⟨cs',hk,hl,hcs⟩:=xg hw cs vs _ (by simpa using hn) (λi y hy=>by simpa using hc (i+1) y (by simpa using hy)) hk;refine ⟨_,hk,by simp [hl],λi y hy=>?_⟩
  cases i with
  |zero=>simp at hy;subst hy;simpa using hx'
  |succ i=>simp at hy;simpa using hcs i y hy
end res
section trans
variable {P:Program} {np:Nat} {W:WM} {w w':World} {A:Nat->Prop} {os os':List Obj} {hd hd':Nat->Value} {F F':Nat->Nat->Prop} {s:AS}
theorem Keeps.refl [St] (G:Nat->Prop) (w:World):Keeps G w w:=⟨rfl,rfl,rfl,aq _,λ_ _ _=>rfl,λ_ _=>rfl,eu.refl _⟩
theorem Keeps.alloc [St] (w:World) (c:Array Value) (T:TypeId):Keeps (λ_=>False) w (w.alloc (.cells c T)):=
 ⟨rfl,rfl,rfl,by simp,λx hx _=>gh _ _ _ hx,λa _=>frozen?_alloc_cells w c T a,eu.of (aq _)⟩
theorem Keeps.trans [St] {G:Nat->Prop} {a b c:World} (h:Keeps G a b) (k:Keeps G b c):Keeps G a c:=
 ⟨k.os.trans h.os,k.tape.trans h.tape,k.output.trans h.output,cE h.size k.size,λx hx hG=>(k.block x (bu hx h.size) hG).trans (h.block x hx hG),λx hx=>(k.frz x (bu hx h.size)).trans (h.frz x hx),eu.trans h.drawn k.drawn⟩
theorem Keeps.drew [St] (w:World):Keeps (λ_=>False) w w.drew:=⟨rfl,rfl,rfl,aq _,λ_ _ _=>rfl,λ_ _=>rfl,eu.of (Nat.le_succ _)⟩
theorem aU.keep [St] {x v} (h:aU w A os hd x v) (hA:∀y,A y->y<w.heap.size) (hk:Keeps (λ_=>False) w w'):aU w' A os hd x v:=
 h.mono (λy hy=>hk.block y (hA y hy) (λh=>h)) (λ_ h=>h)
theorem CW.keep [St] (h:CW W w A os hd F) (hk:Keeps (λ_=>False) w w'):CW W w' A os hd F where
 pin:=h.pin
 old:=h.old
 below:=h.below.keep hk (λ_ h=>h.elim)
 hA x hx:=⟨bu (h.hA x hx).1 hk.size,(h.hA x hx).2⟩
 fsz id x hx:=⟨(h.fsz id x hx).1,bu (h.fsz id x hx).2 hk.size⟩
 jH:=h.jH
 rows id k es ho:=(h.rows id k es ho).mono (λ_ h=>h) (λx hx=>hk.block x (hx.elim (λhx=>(h.hA x hx).1) (λhx=>(h.fsz id x hx).2)) (λh=>h))
 boxes id cs ho:=by
  obtain ⟨b,T,c,e1,e2,e3,e4,e5⟩:=h.boxes id cs ho;exact ⟨b,T,c,e1,by rw [hk.block b (h.fsz id b e5).2 (λh=>h)];exact e2,e3,λi a ha=>(e4 i a ha).keep (λy hy=>(h.hA y hy).1) hk,e5⟩
 nN id s p ho:=by
  obtain ⟨b,e1,e2,e3⟩:=h.nN id s p ho;exact ⟨b,e1,by rw [hk.block b (h.fsz id b e3).2 (λh=>h)];exact e2,e3⟩
theorem aU.eZ (hl:os.length<=os'.length) (hr:∀(id:Nat) k es',id<os.length->os'[id]? =some (.row k es')->∃es,os[id]? =some (.row k es)/\es.length=es'.length/\hd' id=hd id)
  (hb:∀(id:Nat) cs',id<os.length->os'[id]? =some (.box cs')->∃cs,os[id]? =some (.box cs)/\hd' id=hd id)
  (ht:∀(id:Nat) s p,id<os.length->os'[id]? =some (.iter s p)->∃s' p',os[id]? =some (.iter s' p')/\hd' id=hd id) {x v} (h:aU w A os hd x v):aU w A os' hd' x v:=by
 induction h with
 |pure a v h=>exact .pure a v h
 | ob id v hi h=>
  exact .ob id v (by omega) λk es' ho=>let ⟨es,h1,_,h3⟩:=hr id k es' hi ho;by rw [h3];exact h k es h1
 | vs id lo hi v hi' h=>
  refine .vs id lo hi v (by omega) λk es' ho=>?_;obtain ⟨es,h1,h2,h3⟩:=hr id k es' hi' ho;have:=h k es h1;rwa [h2,←h3] at this
 | pb id off v hi h=>
  exact .pb id off v (by omega) λcs' ho=>let ⟨cs,h1,h3⟩:=hb id cs' hi ho;by rw [h3];exact h cs h1
 | pe id i j v hi h=>
  refine .pe id i j v (by omega) λk es' ho=>?_;obtain ⟨es,h1,h2,h3⟩:=hr id k es' hi ho;have:=h k es h1;rwa [h2,←h3] at this
 |it id v hi h=>exact .it id v (by omega) λs p ho=>let ⟨s',p',h1,h3⟩:=ht id s p hi ho;by rw [h3];exact h s' p' h1
 |agg cs vs hn _ ih=>exact .agg cs vs hn ih
 |tup cs vs hn _ ih=>exact .tup cs vs hn ih
 |fn f cs vs hn _ ih=>exact .fn f cs vs hn ih
def je {α:Type} (f:Nat->α) (n:Nat) (x:α):Nat->α:=λi=>if i=n then x else f i
theorem iN {α:Type} (f:Nat->α) (n:Nat) (x:α):je f n x n=x:=if_pos rfl
theorem iM {α:Type} (f:Nat->α) (n:Nat) (x:α) {i:Nat} (h:i≠n):je f n x i=f i:=if_neg h
theorem aU.push (o:Obj) (hv:Value) {x v} (h:aU w A os hd x v):aU w A (os++[o]) (je hd os.length hv) x v:=
 h.eZ (by simp) (λid k es' hi ho=>by
  rw [br hi] at ho
  exact ⟨es',ho,rfl,iM _ _ _ (by omega)⟩) (λid cs' hi ho=>by
  rw [br hi] at ho
  exact ⟨cs',ho,iM _ _ _ (by omega)⟩) (λid s' p' hi ho=>by
  rw [br hi] at ho
  exact ⟨s',p',ho,iM _ _ _ (by omega)⟩)
theorem CW.push [St] (h:CW W w A os hd F) (o:Obj) (hv:Value) (G:Nat->Prop) (hG:∀x,G x->W.new x/\x<w.heap.size/\¬A x/\∀id,¬F id x)
  (hrow:∀k es,o= .row k es->bB w A (.sl true k es) hv G)
  (agx:∀cs,o= .box cs->∃b T c,hv= .pointer (some ⟨b,0,none⟩)/\w.heap[b]? =some (.cells c T (0,0))/\c.size=cs.length/\(∀(i:Nat) a,cs[i]? =some a->aU w A os hd a (c.getD i undef))/\G b)
  (hit:∀s p,o= .iter s p->∃b,hv= .pointer (some ⟨b,0,none⟩)/\w.heap[b]? =some (.stringIter s p)/\G b:=by intro s p h;cases h):
  CW W w A (os++[o]) (je hd os.length hv) (je F os.length G) where
 old:=h.old
 pin p hp:=⟨by have:=(h.pin p hp).1;simp;omega,by have:=(h.pin p hp).1;rw [iM _ _ _ (by omega)];exact (h.pin p hp).2⟩
 below:=h.below
 hA x hx:=⟨(h.hA x hx).1,λid hid=>by
  unfold je at hid;split at hid
  ·exact (hG x hid).2.2.1 hx
  ·exact (h.hA x hx).2 id hid⟩
 fsz id x hx:=by
  unfold je at hx;split at hx
  ·exact ⟨(hG x hx).1,(hG x hx).2.1⟩
  ·exact h.fsz id x hx
 jH i j x hi hj:=by
  unfold je at hi hj;split at hi<;>split at hj
  ·omega
  ·exact ((hG x hi).2.2.2 j hj).elim
  ·exact ((hG x hj).2.2.2 i hi).elim
  ·exact h.jH i j x hi hj
 rows id k es ho:=by
  by_cases hlt:id<os.length
  ·rw [br hlt] at ho;rw [iM _ _ _ (by omega),iM _ _ _ (by omega)];exact h.rows id k es ho
  ·have:id=os.length:=by
    have:=(aa.1 ho).1;simp at this;omega
   subst this;simp at ho;rw [iN,iN];exact hrow k es ho
 boxes id cs ho:=by
  by_cases hlt:id<os.length
  ·rw [br hlt] at ho;rw [iM _ _ _ (by omega),iM _ _ _ (by omega)];obtain ⟨b,T,c,e1,e2,e3,e4,e5⟩:=h.boxes id cs ho;exact ⟨b,T,c,e1,e2,e3,λi a ha=>(e4 i a ha).push o hv,e5⟩
  ·have:id=os.length:=by
    have:=(aa.1 ho).1;simp at this;omega
   subst this;simp at ho;rw [iN,iN];obtain ⟨b,T,c,e1,e2,e3,e4,e5⟩:=agx cs ho;exact ⟨b,T,c,e1,e2,e3,λi a ha=>(e4 i a ha).push o hv,e5⟩
 nN id s p ho:=by
  by_cases hlt:id<os.length
  ·rw [br hlt] at ho;rw [iM _ _ _ (by omega),iM _ _ _ (by omega)];exact h.nN id s p ho
  ·have:id=os.length:=by
    have:=(aa.1 ho).1;simp at this;omega
   subst this;simp at ho;rw [iN,iN];exact hit s p ho
def Enter [St] (W:WM) (w:World) (A:Nat->Prop) (s:AS) (hd:Nat->Value) (F:Nat->Nat->Prop) (G:Nat->Prop) (K:AS->(Nat->Value)->List Obj->Prop):Prop:=
 ∃s' hd' F',s'.fr=s.fr/\CW W w A s'.os hd' F'/\(∀y u,aU w A s.os hd y u->aU w A s'.os hd' y u)/\(∀id y,F' id y->F id y∨G y)/\K s' hd' s'.os
theorem Je [St] (hw:CW W w A s.os hd F) {x v} {G:Nat->Prop} {K:AV->AS->Prop} (hx:bB w A x v G) (hG:∀y,G y->W.new y/\y<w.heap.size/\¬A y/\∀id,¬F id y)
  (hk:s.in1 x K):Enter W w A s hd F G λs' hd' os'=>∃x',K x' s'/\aU w A os' hd' x' v:=by
 unfold AS.in1 at hk;split at hk
 ·rename_i k es;refine ⟨⟨s.fr,s.os++[.row k es]⟩,_,_,rfl,hw.push (.row k es) v G hG (λk' es' e=>by cases e;exact hx) (λcs e=>by cases e),λy u h=>h.push _ _,λid y h=>?_,_,hk,.ob _ _ (by simp) (λk' es' ho=>?_)⟩
  ·unfold je at h;split at h
   ·exact .inr h
   ·exact .inl h
  ·rw [iN]
 ·rename_i cs
  cases hx with
  |pure _ _ _ _ ho _=>simp [AV.dF] at ho
  | bx _ b T c _ hb hn hr hF=>
   refine ⟨⟨s.fr,s.os++[.box cs]⟩,_,_,rfl,hw.push (.box cs) (.pointer (some ⟨b,0,none⟩)) G hG (λk' es' e=>by cases e) (λcs' e=>by cases e;exact ⟨b,T,c,rfl,hb,hn,λi a ha=> .pure _ _ (hr i a ha),(hF b).2 rfl⟩),λy u h=>h.push _ _,λid y h=>?_,_,hk,.pb _ _ _ (by simp) (λcs' ho=>?_)⟩
   ·unfold je at h;split at h
    ·exact .inr h
    ·exact .inl h
   ·rw [iN];exact ⟨b,rfl,rfl⟩
 ·exact hk.elim
 ·exact hk.elim
 ·rename_i h1 h4 h2 h3;refine ⟨s,hd,F,rfl,hw,λ_ _ h=>h,λ_ _ h=> .inl h,x,hk,?_⟩
  cases hx with
  |pure _ _ _ h _ _=>exact .pure _ _ h
  |nil=>exact (h1 _ _ rfl).elim
  |sl=>exact (h1 _ _ rfl).elim
  |bx=>exact (h4 _ rfl).elim
  |agg=>exact (h2 _ rfl).elim
  |tup=>exact (h3 _ rfl).elim
theorem Enter.mono [St] {hd:Nat->Value} {F:Nat->Nat->Prop} {G G':Nat->Prop} {K K':AS->(Nat->Value)->List Obj->Prop} (h:Enter W w A s hd F G K) (hG:∀y,G y->G' y) (hK:∀s' hd' os',K s' hd' os'->K' s' hd' os'):Enter W w A s hd F G' K':=by
 obtain ⟨s',hd',F',h1,h2,h3,h4,h5⟩:=h;exact ⟨s',hd',F',h1,h2,h3,λid y h=>(h4 id y h).imp (λh=>h) (hG y),hK _ _ _ h5⟩
theorem F6 [St] {step:AS->AV->(AV->AS->Prop)->Prop} {all:AS->List AV->(List AV->AS->Prop)->Prop} (h0:∀s K,all s [] K->K [] s) (h1:∀s x l K,all s (x::l) K->step s x λx' s'=>all s' l λl' s''=>K (x'::l') s'')
  (hs:∀(s:AS) (hd:Nat->Value) (F:Nat->Nat->Prop) x v (G:Nat->Prop) (K:AV->AS->Prop),CW W w A s.os hd F->bB w A x v G->(∀y,G y->W.new y/\y<w.heap.size/\¬A y/\∀id,¬F id y)->step s x K->Enter W w A s hd F G λs' hd' os'=>∃x',K x' s'/\aU w A os' hd' x' v):
  ∀ (l:List AV) (vs:List Value) (G:Nat->Nat->Prop) (s:AS) (hd:Nat->Value) (F:Nat->Nat->Prop) (K:List AV->AS->Prop),CW W w A s.os hd F->vs.length=l.length->
   (∀(i:Nat) x,l[i]? =some x->bB w A x (vs.getD i undef) (G i))->(∀i y,i<l.length->G i y->W.new y/\y<w.heap.size/\¬A y/\∀id,¬F id y)->
   (∀i j y,i<l.length->j<l.length->G i y->G j y->i=j)->all s l K->
   Enter W w A s hd F (λy=>∃i,i<l.length/\G i y) λs' hd' os'=>∃l',K l' s'/\l'.length=vs.length/\∀(i:Nat) x,l'[i]? =some x->aU w A os' hd' x (vs.getD i undef)
 |[],[],G,s,hd,F,K,hw,_,_,_,_,hk=>⟨s,hd,F,rfl,hw,λ_ _ h=>h,λ_ _ h=> .inl h,[],h0 _ _ hk,rfl,λi x hx=>by simp at hx⟩
 |[],_::_,_,_,_,_,_,_,hn,_,_,_,_=>by simp at hn
 |_::_,[],_,_,_,_,_,_,hn,_,_,_,_=>by simp at hn
 | x ::l,v::vs,G,s,hd,F,K,hw,hn,hc,hG,hd',hk=>by
  obtain ⟨s1,hd1,F1,e1,hw1,hm1,hF1,x',hk1,hx'⟩:=hs s hd F x v (G 0) _ hw (by simpa using hc 0 x (by simp)) (λy hy=>hG 0 y (by simp) hy) (h1 _ _ _ _ hk)
  obtain ⟨s2,hd2,F2,e2,hw2,hm2,hF2,l',hk2,hl2,hc2⟩:=F6 h0 h1 hs l vs (λi=>G (i+1)) s1 hd1 F1 _ hw1 (by simpa using hn) (λi y hy=>by simpa using hc (i+1) y (by simpa using hy))
   (λi y hi hy=>by
    obtain ⟨g1,g2,g3,g4⟩:=hG (i+1) y (by simp;omega) hy;refine ⟨g1,g2,g3,λid hid=>?_⟩;rcases hF1 id y hid with h|h
    ·exact g4 id h
    ·have:=hd' (i+1) 0 y (by simp;omega) (by simp) hy h
     omega)
   (λi j y hi hj h2 h3=>by have:=hd' (i+1) (j+1) y (by simp;omega) (by simp;omega) h2 h3;omega) hk1
  refine ⟨s2,hd2,F2,e2.trans e1,hw2,λy u h=>hm2 y u (hm1 y u h),λid y h=>?_,x'::l',hk2,by simp [hl2],λi y hy=>?_⟩
  ·rcases hF2 id y h with h|⟨i,hi,h⟩
   ·rcases hF1 id y h with h|h
    ·exact .inl h
    ·exact .inr ⟨0,by simp,h⟩
   ·exact .inr ⟨i+1,by simp;omega,h⟩
  ·cases i with
   |zero=>simp at hy;subst hy;simpa using hm2 _ _ hx'
   |succ i=>simp at hy;simpa using hc2 i y hy
theorem vW [St] (hw:CW W w A s.os hd F) {x v} {G:Nat->Prop} {K:AV->AS->Prop} (hx:bB w A x v G) (hG:∀y,G y->W.new y/\y<w.heap.size/\¬A y/\∀id,¬F id y)
  (hk:s.in2 x K):Enter W w A s hd F G λs' hd' os'=>∃x',K x' s'/\aU w A os' hd' x' v:=by
 unfold AS.in2 at hk;split at hk
 ·rename_i cs
  cases hx with
  |pure _ _ _ h ho _=>simp [AV.dF] at ho
  | agg _ vs _ g hn hc hF hd0=>
   have:=F6 (step:=λs x K=>s.in1 x K) (all:=λs l K=>s.inL l K) (W:=W) (w:=w) (A:=A) (λs K h=>h) (λs x l K h=>h) (λs hd F x v G K h1 h2 h3 h4=>Je h1 h2 h3 h4)
    cs vs.toList g s hd F _ hw (by simpa using hn) (λi x hx=>by rw [aR];exact hc i x hx) (λi y hi hy=>hG y ((hF y).2 ⟨i,hi,hy⟩)) (λi j y hi hj h1 h2=>hd0 i j y hi hj h1 h2) hk
   exact this.mono (λy hy=>(hF y).2 hy) λs' hd' os' ⟨l',h1,h2,h3⟩=>⟨_,h1,.agg _ _ (by simpa using h2.symm) (λi x hx=>by rw [←aR];exact h3 i x hx)⟩
 ·exact Je hw hx hG hk
theorem oJ [St] (hw:CW W w A s.os hd F) {x v} {G:Nat->Prop} {K:AV->AS->Prop} (hx:bB w A x v G) (hG:∀y,G y->W.new y/\y<w.heap.size/\¬A y/\∀id,¬F id y)
  (hk:s.take x K):Enter W w A s hd F G λs' hd' os'=>∃x',K x' s'/\aU w A os' hd' x' v:=by
 unfold AS.take at hk;split at hk
 ·rename_i cs
  cases hx with
  |pure _ _ _ h ho _=>simp [AV.dF] at ho
  | tup _ vs _ g hn hc hF hd0=>
   have:=F6 (step:=λs x K=>s.in2 x K) (all:=λs l K=>s.Sr l K) (W:=W) (w:=w) (A:=A) (λs K h=>h) (λs x l K h=>h) (λs hd F x v G K h1 h2 h3 h4=>vW h1 h2 h3 h4)
    cs vs.toList g s hd F _ hw (by simpa using hn) (λi x hx=>by rw [aR];exact hc i x hx) (λi y hi hy=>hG y ((hF y).2 ⟨i,hi,hy⟩)) (λi j y hi hj h1 h2=>hd0 i j y hi hj h1 h2) hk
   exact this.mono (λy hy=>(hF y).2 hy) λs' hd' os' ⟨l',h1,h2,h3⟩=>⟨_,h1,.tup _ _ (by simpa using h2.symm) (λi x hx=>by rw [←aR];exact h3 i x hx)⟩
 ·exact vW hw hx hG hk
end trans
end Go.Proofs.YtnlhnideeaobpaaGreatDoor
