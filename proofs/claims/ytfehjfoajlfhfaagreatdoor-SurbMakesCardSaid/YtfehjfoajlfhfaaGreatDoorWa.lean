import Derived.Tactics
import Derived.CallsIn
import Derived.Deep.Quiet
import Derived.StillTail
import Derived.Laws.Rows
import Derived.Laws.CopyRow
import Derived.Laws.Cells
import Derived.Laws.AppendOwn
import Derived.Laws.Slices
import Derived.IntWalk
import Derived.Deep.LoopGhost
import Derived.TacticsIn
import Derived.RangeFuncRecord
/- The walker: assertions on memory, symbolic values, the function exec and that it tells enough. No program in it. -/
/- Parts of memory as assertions: blocks held apart, a list of them over a world. No program in it. -/
namespace Go.Sx
structure Out where
  os : Os
  tape : Nat → Question → Nat
  output : Array (Nat × ByteArray)
def ioOf (w : World) : Out:=⟨w.os,w.tape,w.output⟩
structure Hp where
  f : Nat → Option Obj
  io : Out
instance : CoeFun Hp (fun _=>Nat → Option Obj):=⟨Hp.f⟩
abbrev HP:=Hp → Prop
structure Le (h g : Hp) : Prop where
  out : ∀ b o,h b = some o → g b = some o
  io : h.io = g.io
structure Dj (h g : Hp) : Prop where
  out : ∀ b,h b = none ∨ g b = none
def hpOf (w : World) : Hp:=⟨fun b=>w.heap[b]?,ioOf w⟩
def one (b : Nat) (o : Obj) (i : Out) : Hp:=⟨fun k=>if k = b then some o else none,i⟩
theorem Le.refl (h : Hp) : Le h h:=⟨fun _ _ e=>e,rfl⟩
theorem Le.trans {h g k : Hp} (a : Le h g) (b : Le g k) : Le h k:=⟨fun x o e=>b.out x o (a.out x o e),a.io.trans b.io⟩
theorem Dj.symm {h g : Hp} (a : Dj h g) : Dj g h:=⟨fun b=>(a.out b).symm⟩
theorem Dj.sub {h g h' g' : Hp} (a : Dj h g) (x : Le h' h) (y : Le g' g) : Dj h' g':=by
  refine ⟨fun b=>?_⟩
  rcases a.out b with e | e
  · left
    cases hh : h' b with
    | none=>rfl
    | some o=>rw [x.out b o hh] at e;cases e
  · right
    cases hh : g' b with
    | none=>rfl
    | some o=>rw [y.out b o hh] at e;cases e
def join (h g : Hp) : Hp:=⟨fun b=>match h b with | some o=>some o | none=>g b,h.io⟩
theorem qfv (h g : Hp) : Le h (join h g):=⟨fun b o e=>by simp [join,e],rfl⟩
theorem qgf {h g : Hp} (d : Dj h g) (i : h.io = g.io) : Le g (join h g):=by
  refine ⟨fun b o e=>?_,i.symm⟩
  rcases d.out b with x | x
  · simp [join,x,e]
  · rw [x] at e;cases e
theorem qbz {h g k : Hp} (a : Le h k) (b : Le g k) : Le (join h g) k:=by
  refine ⟨fun x o e=>?_,a.io⟩;simp only [join] at e
  split at e
  · rename_i o' h';cases e;exact a.out _ _ h'
  · exact b.out _ _ e
theorem qbg {h g k : Hp} (a : Dj h k) (b : Dj g k) : Dj (join h g) k:=by
  refine ⟨fun x=>?_⟩
  rcases a.out x with e | e
  · rcases b.out x with f | f
    · left;simp [join,e,f]
    · exact .inr f
  · exact .inr e
def seps : List HP → Hp → Prop
  | [],_=>True
  | p :: l,h=>∃ g k,Dj g k ∧ Le g h ∧ Le k h ∧ p g ∧ seps l k
def sat (l : List HP) (w : World) : Prop:=seps l (hpOf w)
theorem q2z {l : List HP} {h g : Hp} (a : Le h g) (s : seps l h) : seps l g:=by
  cases l with
  | nil=>trivial
  | cons p l =>
    obtain ⟨x,y,d,hx,hy,hp,hs⟩:=s;exact ⟨x,y,d,hx.trans a,hy.trans a,hp,hs⟩
theorem q0o {l m : List HP} {h : Hp} : seps (l ++ m) h ↔ ∃ g k,Dj g k ∧ Le g h ∧ Le k h ∧ seps l g ∧ seps m k:=by
  induction l generalizing h with
  | nil =>
    constructor
    · intro s;exact ⟨⟨fun _=>none,h.io⟩,h,⟨fun _=>.inl rfl⟩,⟨fun _ _ e=>by simp at e,rfl⟩,.refl h,trivial,s⟩
    · rintro ⟨g,k,d,hg,hk,_,s⟩;exact q2z hk s
  | cons p l ih =>
    constructor
    · rintro ⟨x,y,d,hx,hy,hp,hs⟩;obtain ⟨g,k,d',hg,hk,hl,hm⟩:=ih.1 hs
      exact ⟨join x g,k,qbg (d.sub (.refl x) hk) d',qbz hx (hg.trans hy),hk.trans hy,
        ⟨x,g,d.sub (.refl x) hg,qfv x g,qgf (d.sub (.refl x) hg) (hx.io.trans (hg.trans hy).io.symm),hp,hl⟩,hm⟩
    · rintro ⟨g,k,d,hg,hk,⟨x,y,d',hx,hy,hp,hl⟩,hm⟩
      exact ⟨x,join y k,Dj.symm (qbg (Dj.symm d') (Dj.symm (d.sub hx (.refl k)))),hx.trans hg,qbz (hy.trans hg) hk,hp,
        ih.2 ⟨y,k,d.sub hy (.refl k),qfv y k,qgf (d.sub hy (.refl k)) ((hy.trans hg).io.trans hk.io.symm),hl,hm⟩⟩
theorem q1t {l m : List HP} {h : Hp} (s : seps (l ++ m) h) : seps (m ++ l) h:=by
  obtain ⟨g,k,d,hg,hk,hl,hm⟩:=q0o.1 s;exact q0o.2 ⟨k,g,d.symm,hk,hg,hm,hl⟩
def all (l : List HP) : HP:=seps l
theorem q14 {l m : List HP} {h : Hp} : seps (all l :: m) h ↔ seps (l ++ m) h:=by
  rw [q0o];rfl
theorem q19 {l m : List HP} {p : HP} {h : Hp} : seps (l ++ p :: m) h ↔ seps (p :: (l ++ m)) h:=by
  constructor
  · intro s;obtain ⟨g,k,d,hg,hk,hl,x,y,d',hx,hy,hp,hm⟩:=q0o.1 s
    exact ⟨x,join g y,Dj.symm (qbg (d.sub (.refl g) hx) (d'.symm)),hx.trans hk,qbz hg (hy.trans hk),hp,
      q0o.2 ⟨g,y,d.sub (.refl g) hy,qfv g y,qgf (d.sub (.refl g) hy) (hg.io.trans (hy.trans hk).io.symm),hl,hm⟩⟩
  · rintro ⟨x,y,d,hx,hy,hp,hs⟩;obtain ⟨g,k,d',hg,hk,hl,hm⟩:=q0o.1 hs
    exact q0o.2 ⟨g,join x k,Dj.symm (qbg (d.sub (.refl x) hg) d'.symm),hg.trans hy,qbz hx (hk.trans hy),hl,
      x,k,d.sub (.refl x) hk,qfv x k,qgf (d.sub (.refl x) hk) (hx.io.trans (hk.trans hy).io.symm),hp,hm⟩
theorem q63 {l m : List HP} (p : l.Perm m) {h : Hp} (s : seps l h) : seps m h:=by
  induction p generalizing h with
  | nil=>exact s
  | cons x _ ih=>obtain ⟨g,k,d,hg,hk,hp,hs⟩:=s;exact ⟨g,k,d,hg,hk,hp,ih hs⟩
  | swap x y l=>exact (q19 (l:=[x]) (m:=l) (p:=y)).2 s
  | trans _ _ ih1 ih2=>exact ih2 (ih1 s)
theorem q0x {p q : HP} {l : List HP} {h : Hp} (i : ∀ g,p g → q g) (s : seps (p :: l) h) : seps (q :: l) h:=by
  obtain ⟨g,k,d,hg,hk,hp,hs⟩:=s;exact ⟨g,k,d,hg,hk,i _ hp,hs⟩
def Imp : List HP → List HP → Prop
  | [],[]=>True
  | p :: l,q :: m=>(∀ g,p g → q g) ∧ Imp l m
  | _,_=>False
def blk (b : Nat) (o : Obj) : HP:=fun h=>h b = some o
theorem qdu {b : Nat} {o : Obj} {l : List HP} {w : World} (s : sat (blk b o :: l) w) : w.heap[b]? = some o:=by
  obtain ⟨g,k,d,hg,hk,hp,hs⟩:=s;exact hg.out _ _ hp
theorem le_hp {w w' : World} {k : Hp} (hk : Le k (hpOf w)) (b : Nat) (hb : k b = none) (same : ∀ c,c ≠ b → w'.heap[c]? = w.heap[c]?) (io : ioOf w' = ioOf w) : Le k (hpOf w'):=by
  refine ⟨fun c o e=>?_,hk.io.trans io.symm⟩
  by_cases hc : c = b
  · subst hc;rw [hb] at e;cases e
  · show w'.heap[c]? = some o;rw [same c hc];exact hk.out c o e
theorem q36 {b : Nat} {o o' : Obj} {l : List HP} {w w' : World} (s : sat (blk b o :: l) w) (hb : w'.heap[b]? = some o')
    (same : ∀ c,c ≠ b → w'.heap[c]? = w.heap[c]?) (io : ioOf w' = ioOf w:=by rfl) : sat (blk b o' :: l) w':=by
  obtain ⟨g,k,d,hg,hk,hp,hs⟩:=s
  have hkb : k b = none:=by
    rcases d.out b with e | e
    · rw [hp] at e;cases e
    · exact e
  refine ⟨one b o' (ioOf w'),k,?_,?_,le_hp hk b hkb same io,by simp [blk,one],hs⟩
  · refine ⟨fun c=>?_⟩
    by_cases hc : c = b
    · subst hc;exact .inr hkb
    · left;simp [one,hc]
  · refine ⟨fun c o'' e=>?_,rfl⟩;simp only [one] at e
    split at e
    · rename_i hc;cases e;subst hc;exact hb
    · cases e
theorem q3d {o : Obj} {l : List HP} {w w' : World} (s : sat l w) (hb : w'.heap[w.heap.size]? = some o)
    (same : ∀ c,c < w.heap.size → w'.heap[c]? = w.heap[c]?) (io : ioOf w' = ioOf w:=by rfl) : sat (blk w.heap.size o :: l) w':=by
  have hk : Le (hpOf w) (hpOf w'):=by
    refine ⟨fun c x e=>?_,io.symm⟩
    have hc : c < w.heap.size:=by
      rcases Nat.lt_or_ge c w.heap.size with h | h
      · exact h
      · simp [hpOf,Array.getElem?_eq_none h] at e
    show w'.heap[c]? = some x;rw [same c hc];exact e
  refine ⟨one w.heap.size o (ioOf w'),hpOf w,?_,?_,hk,by simp [blk,one],s⟩
  · refine ⟨fun c=>?_⟩
    by_cases hc : c = w.heap.size
    · right;subst hc;simp [hpOf]
    · left;simp [one,hc]
  · refine ⟨fun c o'' e=>?_,rfl⟩;simp only [one] at e
    split at e
    · rename_i hc;cases e;subst hc;exact hb
    · cases e
theorem q3u {l : List HP} {w w' : World} (s : sat l w) (same : w'.heap = w.heap) (io : ioOf w' = ioOf w:=by rfl) : sat l w':=by
  unfold sat hpOf at *;rw [same,io];exact s
theorem q07 {l m : List HP} (p : l.Perm m) {w : World} (s : sat l w) : sat m w:=q63 p s
def old (w : World) : HP:=fun h=>(∀ b o,w.heap[b]? = some o → h b = some o) ∧ h.io = ioOf w
theorem qom (w : World) : sat [old w] w :=
  ⟨hpOf w,⟨fun _=>none,ioOf w⟩,⟨fun _=>.inr rfl⟩,.refl _,⟨fun _ _ e=>by simp at e,rfl⟩,⟨fun _ _ e=>e,rfl⟩,trivial⟩
theorem qra {w w' : World} {l : List HP} (s : sat (old w :: l) w') {b : Nat} {o : Obj} (h : w.heap[b]? = some o) : w'.heap[b]? = some o:=by
  obtain ⟨g,k,d,hg,hk,hp,hs⟩:=s;exact hg.out _ _ (hp.1 b o h)
theorem qqa {w w' : World} {l : List HP} (s : sat (old w :: l) w') : ioOf w' = ioOf w:=by
  obtain ⟨g,k,d,hg,hk,hp,hs⟩:=s;exact hg.io.symm.trans hp.2
end Go.Sx
namespace Go.Sx
inductive SC where
  | int (k : IntKind) (n : Int)
  | tt | ff
  | bool (b : Bool)
  | str (s : ByteArray)
  | ptr (i off : Nat)
  | elt (i off j : Nat)
  | slc (i off len cap : Nat)
  | rp (b off : Nat)
  | rs (a : Option Addr) (len cap : Nat)
  | raw (v : Value)
inductive Seg where
  | one (x : SC)
  | many (n : Nat) (l : List Value)
inductive SA where
  | c (x : SC)
  | agg (l : List Seg)
inductive SV where
  | c (x : SC)
  | agg (l : List Seg)
  | tup (l : List SA)
abbrev Names:=List (Nat × Nat)
def bl : Names → Nat → Nat
  | [],_=>0
  | (k,b) :: r,i=>match Nat.beq k i with | true=>b | false=>bl r i
def has : Names → Nat → Prop
  | [],_=>False
  | (k,_) :: r,i=>match Nat.beq k i with | true=>True | false=>has r i
def radr (p : Nat × Nat) : Addr:=⟨p.1,p.2,none⟩
def SC.den (B : Names) : SC → Value
  | .int k n=>.int k n
  | .tt=>.bool true
  | .ff=>.bool false
  | .bool b=>.bool b
  | .str s=>.string s
  | .ptr i off=>.pointer (some ⟨bl B i,off,none⟩)
  | .elt i off j=>.pointer (some ⟨bl B i,off + j,none⟩)
  | .slc i off len cap=>.slice (some ⟨bl B i,off,none⟩) len cap
  | .rp b off=>.pointer (some ⟨b,off,none⟩)
  | .rs a len cap=>.slice a len cap
  | .raw v=>v
def Seg.den (B : Names) : Seg → List Value
  | .one x=>[x.den B]
  | .many _ l=>l
def dens (B : Names) (l : List Seg) : List Value:=l.flatMap (Seg.den B)
def SA.den (B : Names) : SA → Value
  | .c x=>x.den B
  | .agg l=>.agg (dens B l).toArray
def SV.den (B : Names) : SV → Value
  | .c x=>x.den B
  | .agg l=>.agg (dens B l).toArray
  | .tup l=>.tuple (l.map (SA.den B)).toArray
def SA.sv : SA → SV
  | .c x=>.c x
  | .agg l=>.agg l
def SC.ok (B : Names) : SC → Prop
  | .ptr i _ | .elt i _ _ | .slc i _ _ _=>has B i
  | .raw v=>v.oneCell' = true
  | _=>True
def Seg.ok (B : Names) : Seg → Prop
  | .one x=>x.ok B
  | .many n l=>l.length = n ∧ ∀ v ∈ l,v.oneCell' = true
def SA.ok (B : Names) : SA → Prop
  | .c x=>x.ok B
  | .agg l=>∀ s ∈ l,s.ok B
def SV.ok (B : Names) : SV → Prop
  | .c x=>x.ok B
  | .agg l=>∀ s ∈ l,s.ok B
  | .tup l=>∀ s ∈ l,s.ok B
def ofValue : Value → SC
  | .int k n=>.int k n
  | .bool true=>.tt
  | .bool false=>.ff
  | .string s=>.str s
  | .slice a n c=>.rs a n c
  | v=>.raw v
def svOf : Value → SV
  | .agg cs=>.agg [.many cs.size cs.toList]
  | v=>.c (ofValue v)
inductive TK where
  | int (k : IntKind) | bool | str | ptr (e : Nat) | slice (e : Nat) | array (n e : Nat) | struct (fs : List (Nat × Nat)) | map (k e : Nat) | func | iface (ms : Nat) | other
structure TyX where
  k : TK
  size : Nat
  bytes : Nat
  zero : List Seg
inductive TT where
  | leaf
  | node (t : Nat) (x : TyX) (l r : TT)
def TT.get : TT → Nat → (TyX → Prop) → Prop
  | .leaf,_,_=>False
  | .node k x l r,t,f=>match Nat.beq t k with
    | true=>f x
    | false=>match Nat.ble t k with | true=>l.get t f | false=>r.get t f
def TK.agg : TK → Bool
  | .array .. | .struct ..=>true
  | _=>false
def tkOf : TypeDesc → TK
  | .int k=>.int k
  | .bool=>.bool
  | .string=>.str
  | .pointer e=>.ptr e
  | .slice e=>.slice e
  | .array n e=>.array n e
  | .struct fs=>.struct (fs.toList.map fun f=>(f.offset,f.type))
  | .map k e=>.map k e
  | .func ..=>.func
  | .interface ms=>.iface ms.size
  | _=>.other
def infoX (P : Program) (t : Nat) : Option (TK × Nat × Nat × Option (List Value)) :=
  match P.info? t,P.underlying t with
  | some i,some u=>some (tkOf u,i.size,i.bytes,i.zero.map fun z=>z.cells.toList)
  | _,_=>none
def q2a : List Seg → Nat
  | []=>0
  | .one _ :: r=>q2a r + 1
  | .many n _ :: r=>q2a r + n
def TT.rows : TT → List (Nat × TyX)
  | .leaf=>[]
  | .node t x l r=>(t,x) :: (l.rows ++ r.rows)
def TT.ok (P : Program) (tt : TT) : Prop :=
  tt.rows.map (fun r=>infoX P r.1) = tt.rows.map (fun r=>some (r.2.k,r.2.size,r.2.bytes,some (dens [] r.2.zero))) ∧
  ∀ r ∈ tt.rows,(∀ s ∈ r.2.zero,s.ok []) ∧ q2a r.2.zero = r.2.size
structure Ty (P : Program) (t : Nat) (x : TyX) : Prop where
  h : ∃ i u z,P.info? t = some i ∧ P.underlying t = some u ∧ tkOf u = x.k ∧ i.size = x.size ∧ i.bytes = x.bytes ∧ i.zero = some z ∧ z.cells.toList = dens [] x.zero
  z : ∀ s ∈ x.zero,s.ok []
  l : q2a x.zero = x.size
structure With (p q : Prop) : Prop where
  h : p → q
abbrev Env:=List (Nat × SV)
structure M where
  B : Names
  H : List (Nat × List Seg × Nat)
  F : List HP
def look : Env → Nat → (SV → Prop) → Prop
  | [],_,_=>False
  | (k,x) :: r,t,f=>match Nat.beq k t with | true=>f x | false=>look r t f
def ev (env : Env) : Operand → (SV → Prop) → Prop
  | .tmp t,f=>look env t f
  | .const v,f=>match v with
    | .agg cs=>cs.all (·.oneCell') = true ∧ f (.agg [.many cs.size cs.toList])
    | .tuple _=>False
    | v=>f (.c (ofValue v))
  | .global g,f=>f (.c (.rp g 0))
  | .func n,f=>f (.c (.raw (.func (.func n) #[] #[])))
def evs (env : Env) : List Operand → (List SV → Prop) → Prop
  | [],f=>f []
  | o :: r,f=>ev env o fun x=>evs env r fun l=>f (x :: l)
def fresh : Names → Nat → Prop → Prop
  | [],i,p=>match Nat.ble 1000000 i with | true=>False | false=>p
  | (k,_) :: r,i,p=>match Nat.beq k i with | true=>False | false=>fresh r i p
def mark (r : Nat) : Deferred:={ target:=.collected r,args:=#[] }
def dsOf : Names → List Deferred
  | []=>[]
  | (k,b) :: r=>match Nat.ble 1000000 k with | true=>mark b :: dsOf r | false=>dsOf r
abbrev Mk (r : Nat) : HP:=blk r (.deferred (some []))
def q9p : Names → Prop → Prop
  | [],p=>p
  | (k,_) :: r,p=>match Nat.ble 1000000 k with | true=>False | false=>q9p r p
def atH : List (Nat × List Seg × Nat) → Nat → (List Seg → Nat → (List Seg → (List (Nat × List Seg × Nat) → Prop) → Prop) → Prop) → Prop
  | [],_,_=>False
  | (k,s,t) :: r,i,f=>match Nat.beq k i with
    | true=>f s t fun s' g=>g ((k,s',t) :: r)
    | false=>atH r i fun s' t' put=>f s' t' fun s'' g=>put s'' fun r'=>g ((k,s,t) :: r')
def cut : List Seg → Nat → (List Seg → List Seg → Prop) → Prop
  | [],n,f=>match n with | 0=>f [] [] | _ + 1=>False
  | s :: r,n,f=>match n with
    | 0=>f [] (s :: r)
    | n + 1=>match s with
      | .one x=>cut r n fun a b=>f (.one x :: a) b
      | .many m l=>match Nat.ble m (n + 1) with
        | true=>cut r (n + 1 - m) fun a b=>f (.many m l :: a) b
        | false=>f [.many (n + 1) (l.take (n + 1))] (.many (m - (n + 1)) (l.drop (n + 1)) :: r)
structure Elem (B : Names) (l : List Value) (j : Nat) (f : SC → Prop) : Prop where
  h : ∃ x : SC,l[j]? = some (x.den B) ∧ x.ok B ∧ f x
structure Cond (b : Bool) (X Y : Prop) : Prop where
  t : b = true → X
  f : b = false → Y
structure Ar (k : IntKind) (z : Int) (f : Int → Prop) : Prop where
  h : f (k.wrap z)
def takeV (B : Names) (segs : List Seg) (off size : Nat) (agg : Bool) (f : SV → Prop) : Prop :=
  cut segs off fun _ b=>match agg with
    | true=>cut b size fun x _=>f (.agg x)
    | false=>match b with
      | .one x :: _=>f (.c x)
      | .many _ l :: _=>Elem B l 0 fun x=>f (.c x)
      | []=>False
def qcn : SV → (List Seg → Prop) → Prop
  | .c x,f=>f [.one x]
  | .agg l,f=>f l
  | .tup _,_=>False
def putV (segs : List Seg) (off size : Nat) (x : List Seg) (f : List Seg → Prop) : Prop :=
  cut segs off fun a b=>cut b size fun _ c=>f (a ++ (x ++ c))
def ibits (op : BinOp) (k : IntKind) (x y : Int) : Int :=
  let a:=BitVec.ofInt k.bits x
  let b:=BitVec.ofInt k.bits y
  match op with
  | .and=>k.wrap (a &&& b).toNat
  | .or=>k.wrap (a ||| b).toNat
  | .xor=>k.wrap (a ^^^ b).toNat
  | _=>k.wrap (a &&& ~~~b).toNat
def qar (op : BinOp) (k : IntKind) (a b : Int) (f : SV → Prop) : Prop :=
  match op with
  | .add=>Ar k (a + b) fun z=>f (.c (.int k z))
  | .sub=>Ar k (a - b) fun z=>f (.c (.int k z))
  | .mul=>Ar k (a * b) fun z=>f (.c (.int k z))
  | .quo=>b ≠ 0 ∧ Ar k (a.tdiv b) fun z=>f (.c (.int k z))
  | .rem=>b ≠ 0 ∧ f (.c (.int k (a.tmod b)))
  | .and=>f (.c (.int k (ibits .and k a b)))
  | .or=>f (.c (.int k (ibits .or k a b)))
  | .xor=>f (.c (.int k (ibits .xor k a b)))
  | .andNot=>f (.c (.int k (ibits .andNot k a b)))
  | .shl=>0 ≤ b ∧ Ar k (a * 2 ^ (min b.toNat k.bits)) fun z=>f (.c (.int k z))
  | .shr=>0 ≤ b ∧ f (.c (.int k (a.fdiv (2 ^ (min b.toNat k.bits)))))
  | .eql=>f (.c (.bool (a == b)))
  | .neq=>f (.c (.bool (a != b)))
  | .lss=>f (.c (.bool (decide (a < b))))
  | .leq=>f (.c (.bool (decide (a ≤ b))))
  | .gtr=>f (.c (.bool (decide (a > b))))
  | .geq=>f (.c (.bool (decide (a ≥ b))))
def isEq : BinOp → (Bool → Prop) → Prop
  | .eql,f=>f true
  | .neq,f=>f false
  | _,_=>False
def q50 (op : BinOp) (same : Bool) (f : SV → Prop) : Prop :=
  isEq op fun eq=>match eq,same with
    | true,true=>f (.c .tt) | true,false=>f (.c .ff) | false,true=>f (.c .ff) | false,false=>f (.c .tt)
def qcm : SC → (Bool → Prop) → Prop
  | .tt,f=>f true
  | .ff,f=>f false
  | .bool b,f=>f b
  | _,_=>False
structure EqAgg (P : Program) (t : Nat) (x y : List Value) (f : Bool → Prop) : Prop where
  h : ∃ b,(∀ w,(do eqGuard .eql t (.tmp 0) (.tmp 0) (.agg x.toArray) (.agg y.toArray);Op.equal t (.agg x.toArray) (.agg y.toArray) : Sem Bool).run P w = .ok b w) ∧ f b
def kEq : IntKind → IntKind → Bool
  | .i8,.i8 | .i16,.i16 | .i32,.i32 | .i64,.i64 | .u8,.u8 | .u16,.u16 | .u32,.u32 | .u64,.u64=>true
  | _,_=>false
def sameK (k k' : IntKind) (p : Prop) : Prop:=match kEq k k' with | true=>p | false=>False
theorem q51 {k k' : IntKind} {p : Prop} (h : sameK k k' p) : k = k' ∧ p:=by
  unfold sameK at h;cases k <;> cases k' <;> first | exact ⟨rfl,h⟩ | exact h.elim
def isPtr (tt : TT) (t : Nat) (p : Prop) : Prop:=tt.get t fun x=>match x.k with | .ptr _=>p | _=>False
def isMap (tt : TT) (t : Nat) (p : Prop) : Prop:=tt.get t fun x=>match x.k with | .map _ _=>p | _=>False
def qds (tt : TT) (t : Nat) (p : Prop) : Prop:=tt.get t fun x=>match x.k with | .slice _=>p | _=>False
def qn6 (tt : TT) (t : Nat) (p : Prop) : Prop:=tt.get t fun x=>match x.k with | .bool=>p | _=>False
def binV (P : Program) (tt : TT) (op : BinOp) (t : Nat) (B : Names) (x y : SV) (f : SV → Prop) : Prop :=
  match x,y with
  | .c (.int k a),.c (.int k' b)=>match op with
    | .shl | .shr=>qar op k a b f
    | _=>sameK k k' (qar op k a b f)
  | .c (.ptr ..),.c (.raw (.pointer none))=>isPtr tt t (q50 op false f)
  | .c (.elt ..),.c (.raw (.pointer none))=>isPtr tt t (q50 op false f)
  | .c (.rp ..),.c (.raw (.pointer none))=>isPtr tt t (q50 op false f)
  | .c (.raw (.pointer none)),.c (.raw (.pointer none))=>isPtr tt t (q50 op true f)
  | .c (.raw (.map r)),.c (.raw (.map none))=>isMap tt t (isEq op fun e=>match e with | true=>f (.c (.bool r.isNone)) | false=>f (.c (.bool (!r.isNone))))
  | .c (.rs a _ _),.c (.rs none _ _)=>qds tt t (isEq op fun e=>match e with | true=>f (.c (.bool a.isNone)) | false=>f (.c (.bool (!a.isNone))))
  | .c (.slc ..),.c (.rs none _ _)=>qds tt t (q50 op false f)
  | .c (.str a),.c (.str b)=>match op with
    | .add=>a.size + b.size ≤ 9223372036854775807 ∧ f (.c (.str (a ++ b)))
    | .eql=>f (.c (.bool (a.toList == b.toList)))
    | .neq=>f (.c (.bool (!(a.toList == b.toList))))
    | _=>False
  | .agg l,.agg m=>isEq op fun e=>EqAgg P t (dens B l) (dens B m) fun b=>match e with | true=>f (.c (.bool b)) | false=>f (.c (.bool (!b)))
  | .c x,.c y=>qn6 tt t (qcm x fun a=>qcm y fun b=>isEq op fun e=>match e with | true=>f (.c (.bool (a == b))) | false=>f (.c (.bool (a != b))))
  | _,_=>False
abbrev Chunk:=Nat × List Seg × Nat
def Chunk.p (B : Names) (c : Chunk) : HP:=blk (bl B c.1) (.cells (dens B c.2.1).toArray c.2.2)
def Chunk.ok (B : Names) (c : Chunk) : Prop:=has B c.1 ∧ ∀ s ∈ c.2.1,s.ok B
def M.props (m : M) : List HP:=m.H.map (Chunk.p m.B) ++ m.F
def M.ok (m : M) : Prop:=∀ c ∈ m.H,Chunk.ok m.B c
structure PtrOb (a : Option Addr) (m : M) (f : Nat × Nat → Prop) : Prop where
  h : m.ok → ∀ w,sat m.props w → ∃ p,a = some (radr p) ∧ f p
def Runs (P : Program) (fn : Nat) : Prop := ∃ fd, P.funcs[fn]? = some fd ∧ fd.body.isNone = false ∧ (fd.name == "runtime.NumGoroutine") = false
structure Cq (P : Program) (fn : Nat) (args : List SV) (m : M) (f : SV → List Chunk → List HP → Prop) : Prop where
  c : (Runs P fn ∧ (m.ok → ∀ w,sat m.props w → Calls P fn (args.map (SV.den m.B)).toArray w fun e w'=>∃ x H F,e = .returned (x.den m.B) ∧ x.ok m.B ∧
      sat (M.props ⟨m.B,H,F⟩) w' ∧ M.ok ⟨m.B,H,F⟩ ∧ f x H F)) ∨
    (m.ok → ∀ w,sat m.props w → ∃ x H F,(callFunc fn (args.map (SV.den m.B)).toArray).run P w = .ok (.value (x.den m.B)) w ∧ x.ok m.B ∧ sat (M.props ⟨m.B,H,F⟩) w ∧ M.ok ⟨m.B,H,F⟩ ∧ f x H F)
theorem Cq.runs {P : Program} {fn : Nat} {args : List SV} {m : M} {f : SV → List Chunk → List HP → Prop} (hr : Runs P fn) (h : m.ok → ∀ w,sat m.props w → Calls P fn (args.map (SV.den m.B)).toArray w fun e w'=>∃ x H F,e = .returned (x.den m.B) ∧ x.ok m.B ∧
      sat (M.props ⟨m.B,H,F⟩) w' ∧ M.ok ⟨m.B,H,F⟩ ∧ f x H F) : Cq P fn args m f:=⟨.inl ⟨hr,h⟩⟩
theorem Cq.ext {P : Program} {fn : Nat} {args : List SV} {B : Names} {H : List Chunk} {F : List HP} {f : SV → List Chunk → List HP → Prop} (x : SV) (run : ∀ w,(callFunc fn (args.map (SV.den B)).toArray).run P w = .ok (.value (x.den B)) w) (kx : x.ok B) (h : f x H F) : Cq P fn args ⟨B,H,F⟩ f :=
  ⟨.inr fun km w s=>⟨x,H,F,run w,kx,s,km,h⟩⟩
theorem Cq.conv {P : Program} {fn : Nat} {args : List SV} {B : Names} {H H0 : List Chunk} {F F0 : List HP} {f g : SV → List Chunk → List HP → Prop}
    (pre : (M.mk B H F).ok → ∀ w,sat (M.props ⟨B,H,F⟩) w → (M.mk B H0 F0).ok ∧ sat (M.props ⟨B,H0,F0⟩) w)
    (post : ∀ x H' F' w,g x H' F' → M.ok ⟨B,H',F'⟩ → sat (M.props ⟨B,H',F'⟩) w → ∃ H2 F2,f x H2 F2 ∧ M.ok ⟨B,H2,F2⟩ ∧ sat (M.props ⟨B,H2,F2⟩) w)
    (h : Cq P fn args ⟨B,H0,F0⟩ g) : Cq P fn args ⟨B,H,F⟩ f:=by
  rcases h.c with ⟨hr,h⟩ | h
  · refine .runs hr fun km w s=>?_;obtain ⟨k2,s2⟩:=pre km w s;refine (h k2 w s2).mono ?_;rintro e w' ⟨x,H',F',he,kx,s',k',hg⟩;obtain ⟨H2,F2,hf,k3,s3⟩:=post x H' F' w' hg k' s';exact ⟨x,H2,F2,he,kx,s3,k3,hf⟩
  · refine ⟨.inr fun km w s=>?_⟩;obtain ⟨k2,s2⟩:=pre km w s;obtain ⟨x,H',F',he,kx,s',k',hg⟩:=h k2 w s2;obtain ⟨H2,F2,hf,k3,s3⟩:=post x H' F' w hg k' s';exact ⟨x,H2,F2,he,kx,s3,k3,hf⟩
structure YieldOb (P : Program) (l : Nat) (args : List SV) (m : M) (f : SV → List Chunk → List HP → Prop) : Prop where
  h : m.ok → ∀ w,sat m.props w → ∃ fn tmps assign body,(Instr.yield l (args.map (SV.den m.B)).toArray).run P w = .ok (.round l fn tmps assign body) w ∧
    RoundIn Fence.wide 0 P l fn tmps assign body w fun e w'=>∃ x H F,e = .returned (x.den m.B) ∧ x.ok m.B ∧ sat (M.props ⟨m.B,H,F⟩) w' ∧ M.ok ⟨m.B,H,F⟩ ∧ f x H F
structure LdOb (P : Program) (t : Nat) (a : Addr) (m : M) (f : SV → Prop) : Prop where
  h : ∃ x,x.ok m.B ∧ f x ∧ (m.ok → ∀ w,sat m.props w → (loadVar t a).run P w = .ok (x.den m.B) w)
structure PeOb (P : Program) (t : Nat) (a b : Addr) (m : M) (f : Bool → Prop) : Prop where
  h : ∃ r : Bool,f r ∧ (m.ok → ∀ w,sat m.props w → (Op.equal t (.pointer (some a)) (.pointer (some b))).run P w = .ok r w)
structure LenOb (P : Program) (s : Sem Value) (m : M) (f : Int → Prop) : Prop where
  h : ∃ n : Int,f n ∧ (m.ok → ∀ w,sat m.props w → s.run P w = .ok (.int .i64 n) w)
structure RunOb (P : Program) (s : Sem Value) (m : M) (f : SV → M → Prop) : Prop where
  h : m.ok → ∀ w,sat m.props w → ∃ v w',s.run P w = .ok v w' ∧ ∃ x m',v = SV.den m'.B x ∧ x.ok m'.B ∧ m'.ok ∧ sat m'.props w' ∧
    (m'.B = m.B ∨ ∃ d b,fresh m.B d True ∧ m'.B = (d,b) :: m.B) ∧ f x m'
end Go.Sx
namespace Go.Sx
def dstOf (d : Option Nat) (f : Nat → Prop) : Prop:=match d with | some d=>f d | none=>False
def addSeg : SC → Nat → SC
  | .ptr i off,n=>.ptr i (off + n)
  | .elt i off j,n=>.elt i off (j + n)
  | .rp b off,n=>.rp b (off + n)
  | x,_=>x
def fills (size : Nat → (Nat → Nat → Prop) → Prop) : List Seg → List (Nat × SV) → (List Seg → Prop) → Prop
  | segs,[],f=>f segs
  | segs,(i,x) :: r,f=>size i fun off n=>qcn x fun xs=>match Nat.beq (q2a xs) n with
    | true=>putV segs off n xs fun segs'=>fills size segs' r f
    | false=>False
def qim (tt : TT) : List (Nat × Nat) → (List (Nat × Nat) → Prop) → Prop
  | [],f=>f []
  | (o,t) :: r,f=>tt.get t fun x=>qim tt r fun l=>f ((o,x.size) :: l)
def nthF : List (Nat × Nat) → Nat → (Nat → Nat → Prop) → Prop
  | [],_,_=>False
  | (o,t) :: r,i,f=>match i with | 0=>f o t | i + 1=>nthF r i f
def parts (env : Env) : List (Nat × Operand) → (List (Nat × SV) → Prop) → Prop
  | [],f=>f []
  | (i,o) :: r,f=>ev env o fun x=>parts env r fun l=>f ((i,x) :: l)
def reps : Nat → List Seg → List Seg
  | 0,_=>[]
  | n + 1,l=>l ++ reps n l
def newB (m : M) (d : Nat) (segs : List Seg) (t : Nat) (f : M → Prop) : Prop :=
  match m with
  | ⟨B,H,F⟩=>fresh B d (∀ b,f ⟨(d,b) :: B,(d,segs,t) :: H,F⟩)
def loadA (P : Program) (tt : TT) (m : M) (t : Nat) (a : SC) (f : SV → M → Prop) : Prop :=
  tt.get t fun x=>match m with
  | ⟨B,H,F⟩=>match a with
    | .ptr i off=>atH H i fun segs _ _=>takeV B segs off x.size x.k.agg fun v=>f v ⟨B,H,F⟩
    | .elt i off j=>atH H i fun segs _ _=>cut segs off fun _ b=>match b with
      | .many n l :: _=>match x.k.agg with
        | true=>j + x.size ≤ n ∧ f (.agg [.many x.size ((l.drop j).take x.size)]) ⟨B,H,F⟩
        | false=>Elem B l j fun v=>f (.c v) ⟨B,H,F⟩
      | .one _ :: _=>takeV B segs (off + j) x.size x.k.agg fun v=>f v ⟨B,H,F⟩
      | []=>False
    | .rp b off=>With (Ty P t x) (LdOb P t ⟨b,off,none⟩ ⟨B,H,F⟩ fun v=>f v ⟨B,H,F⟩)
    | _=>False
def qmm (P : Program) (tt : TT) (m : M) (t : Nat) (a : SC) (v : SV) (f : M → Prop) : Prop :=
  tt.get t fun x=>match m with
  | ⟨B,H,F⟩=>match a with
    | .ptr i off=>qcn v fun xs=>match Nat.beq (q2a xs) x.size with
      | true=>atH H i fun segs _ put=>putV segs off x.size xs fun segs'=>put segs' fun H'=>f ⟨B,H',F⟩
      | false=>False
    | .elt i off j=>qcn v fun xs=>atH H i fun segs _ put=>cut segs off fun p b=>match b with
      | .many n l :: r=>(q2a xs = x.size ∧ j + x.size ≤ n) ∧ (put (p ++ (.many n (l.take j ++ (dens B xs ++ l.drop (j + x.size))) :: r)) fun H'=>f ⟨B,H',F⟩)
      | .one _ :: _=>match Nat.beq (q2a xs) x.size with
        | true=>putV segs (off + j) x.size xs fun segs'=>put segs' fun H'=>f ⟨B,H',F⟩
        | false=>False
      | []=>False
    | .rp b off=>With (Ty P t x) (RunOb P (do storeVar t ⟨b,off,none⟩ (v.den B);pure undef) ⟨B,H,F⟩ fun _ m'=>f m')
    | _=>False
def q0f (env : Env) (x : Option Operand) (dflt : Int) (f : Int → Prop) : Prop :=
  match x with
  | none=>f dflt
  | some o=>ev env o fun v=>match v with | .c (.int _ n)=>f n | _=>False
def cutA (a : Option Addr) (m l s : Nat) : Option Addr:=if m = l then a else a.map (·.add (l * s))
def asked (x : Option Operand) (p q : Prop) : Prop:=match x with | none=>q | some _=>p ∧ q
def qmz (tt : TT) (env : Env) (t : Nat) (v : SV) (lo hi mx : Option Operand) (B : Names) (f : SV → Prop) : Prop :=
  tt.get t fun x=>match x.k,v with
  | .str,.c (.str s)=>match mx with
    | none=>q0f env hi s.size fun h=>q0f env lo 0 fun l=>asked hi (0 ≤ h ∧ h ≤ s.size) (asked lo (0 ≤ l ∧ l ≤ h) (f (.c (.str (s.extract l.toNat h.toNat)))))
    | some _=>False
  | .slice e,.c (.rs a len cap)=>tt.get e fun ex=>q0f env mx cap fun m=>q0f env hi len fun h=>q0f env lo 0 fun l =>
    asked mx ((0 ≤ m ∧ m ≤ cap) ∧ hi.isSome = true) (asked hi (0 ≤ h ∧ h ≤ m) (asked lo (0 ≤ l ∧ l ≤ h)
      (f (.c (.rs (cutA a m.toNat l.toNat ex.size) (h.toNat - l.toNat) (m.toNat - l.toNat))))))
  | .slice e,.c (.slc i off len cap)=>tt.get e fun ex=>match lo with
    | none=>q0f env mx cap fun m=>q0f env hi len fun h=>asked mx ((0 ≤ m ∧ m ≤ cap) ∧ hi.isSome = true) (asked hi (0 ≤ h ∧ h ≤ m) (f (.c (.slc i off h.toNat m.toNat))))
    | some lo=>q0f env mx cap fun m=>q0f env hi len fun h=>q0f env (some lo) 0 fun l =>
      asked mx ((0 ≤ m ∧ m ≤ cap) ∧ hi.isSome = true) (asked hi (0 ≤ h ∧ h ≤ m) ((0 ≤ l ∧ l ≤ h) ∧
        f (.c (.rs (cutA (some ⟨bl B i,off,none⟩) m.toNat l.toNat ex.size) (h.toNat - l.toNat) (m.toNat - l.toNat)))))
  | .array n e,.c (.ptr i off)=>tt.get e fun ex=>match lo,hi,mx with
    | none,none,none=>f (.c (.slc i off n n))
    | none,some hi,none=>q0f env (some hi) n fun h=>(0 ≤ h ∧ h ≤ n) ∧ f (.c (.slc i off h.toNat n))
    | some lo,hi,none=>q0f env hi n fun h=>q0f env (some lo) 0 fun l=>asked hi (0 ≤ h ∧ h ≤ n) ((0 ≤ l ∧ l ≤ h) ∧
        f (.c (.rs (cutA (some ⟨bl B i,off,none⟩) n l.toNat ex.size) (h.toNat - l.toNat) (n - l.toNat))))
    | _,_,_=>False
  | .array n e,.c (.rp b off)=>tt.get e fun ex=>q0f env mx n fun m=>q0f env hi n fun h=>q0f env lo 0 fun l =>
    asked mx ((0 ≤ m ∧ m ≤ n) ∧ hi.isSome = true) (asked hi (0 ≤ h ∧ h ≤ m) (asked lo (0 ≤ l ∧ l ≤ h)
      (f (.c (.rs (cutA (some ⟨b,off,none⟩) m.toNat l.toNat ex.size) (h.toNat - l.toNat) (m.toNat - l.toNat))))))
  | _,_=>False
def qmp (tt : TT) (t : Nat) (v : SV) (f : Int → Prop) : Prop :=
  tt.get t fun x=>match x.k,v with
    | .slice _,.c (.rs _ len _)=>f len
    | .slice _,.c (.slc _ _ len _)=>f len
    | .str,.c (.str s)=>f s.size
    | .array n _,_=>f n
    | .ptr e,_=>tt.get e fun y=>match y.k with | .array n _=>f n | _=>False
    | _,_=>False
def callV (P : Program) (fv : SV) (args : List SV) (m : M) (f : SV → M → Prop) : Prop :=
  match m with
  | ⟨B,H,F⟩=>match fv with
    | .c (.raw (.func (.func n) first captured))=>match first.toList,captured.toList with
      | [],[]=>Cq P n args ⟨B,H,F⟩ fun x H' F'=>f x ⟨B,H',F'⟩
      | a,c=>Cq P n (a.map svOf ++ (args ++ c.map svOf)) ⟨B,H,F⟩ fun x H' F'=>f x ⟨B,H',F'⟩
    | .c (.raw (.func (.yield l) first _))=>match first.toList with
      | []=>YieldOb P l args ⟨B,H,F⟩ fun x H' F'=>f x ⟨B,H',F'⟩
      | _=>False
    | _=>False
def qau (tt : TT) (ts : List Nat) (f : Nat → TyX → Nat → TyX → Prop) : Prop :=
  match ts with
  | []=>False
  | t :: _=>tt.get t fun x=>match x.k with
    | .slice e=>tt.get e fun y=>f t x e y
    | _=>False
def q85 (P : Program) (tt : TT) (b : Builtin) (argTypes : List Nat) (type : Nat) (args : List SV) (m : M) (f : SV → M → Prop) : Prop :=
  match b with
  | .len=>match argTypes,args with
    | t :: _,x :: _=>match x with
      | .c (.raw _)=>LenOb P (Builtin.len_ argTypes.toArray type (args.map (SV.den m.B)).toArray) m fun n=>f (.c (.int .i64 n)) m
      | _=>qmp tt t x fun n=>f (.c (.int .i64 n)) m
    | _,_=>False
  | .min=>match args with
    | [.c (.int k a),.c (.int k' b)]=>sameK k k' (f (.c (.int k (min a b))) m)
    | _=>False
  | .max=>match args with
    | [.c (.int k a),.c (.int k' b)]=>sameK k k' (f (.c (.int k (max a b))) m)
    | _=>False
  | .append=>qau tt argTypes fun t x e y=>With (Ty P t x ∧ x.k = .slice e ∧ Ty P e y) (RunOb P (Builtin.append_ argTypes.toArray type (args.map (SV.den m.B)).toArray) m f)
  | .copy=>qau tt argTypes fun t x e y=>With (Ty P t x ∧ x.k = .slice e ∧ Ty P e y) (RunOb P (Builtin.copy_ argTypes.toArray type (args.map (SV.den m.B)).toArray) m f)
  | .clear=>RunOb P (Builtin.clear_ argTypes.toArray type (args.map (SV.den m.B)).toArray) m f
  | .cap=>RunOb P (Builtin.cap_ argTypes.toArray type (args.map (SV.den m.B)).toArray) m f
  | .delete=>RunOb P (Builtin.delete_ argTypes.toArray type (args.map (SV.den m.B)).toArray) m f
  | _=>False
def pickV (c a b : SV) (f : SV → Prop) : Prop :=
  match c with
  | .c .tt=>f a
  | .c .ff=>f b
  | .c (.bool t)=>match a,b with
    | .c (.int k x),.c (.int k' y)=>sameK k k' (f (.c (.int k (if t then x else y))))
    | .c x,.c y=>qcm x fun p=>qcm y fun q=>f (.c (.bool (if t then p else q)))
    | _,_=>False
  | _=>False
def extractV (v : SV) (i : Nat) (f : SV → Prop) : Prop :=
  match v with
  | .tup l=>go l i
  | _=>False
where
  go : List SA → Nat → Prop
  | [],_=>False
  | x :: r,i=>match i with | 0=>f x.sv | i + 1=>go r i
def loud : Op → Bool
  | .alloc _ | .box .. | .buildSlice .. | .store .. | .makeMap .. | .makeSlice .. | .lookup .. | .mapUpdate .. | .range .. | .next .. | .entry ..=>true
  | .call c=>match c.callee with
    | .builtin .len | .builtin .min | .builtin .max=>false
    | _=>true
  | _=>false
def execOp (P : Program) (tt : TT) (o : Oper) (env : Env) (m : M) (f : SV → M → Prop) : Prop :=
  match o.op with
  | .move x=>ev env x fun v=>f v m
  | .assign x=>ev env x fun v=>f v m
  | .pick c a b=>ev env c fun c=>ev env a fun a=>ev env b fun b=>pickV c a b fun v=>f v m
  | .alloc t=>dstOf o.dst fun d=>tt.get t fun x=>newB m d x.zero t fun m'=>f (.c (.ptr d 0)) m'
  | .box t v=>dstOf o.dst fun d=>ev env v fun v=>qcn v fun segs=>newB m d segs t fun m'=>f (.c (.ptr d 0)) m'
  | .build t ps=>parts env ps.toList fun l=>tt.get t fun x=>match x.k with
    | .struct fs=>qim tt fs fun ps=>fills (fun i g=>nthF ps i g) x.zero l fun segs=>f (.agg segs) m
    | .array _ e=>tt.get e fun y=>fills (fun i g=>g (i * y.size) y.size) x.zero l fun segs=>f (.agg segs) m
    | _=>False
  | .buildSlice t len ps=>dstOf o.dst fun d=>parts env ps.toList fun l=>tt.get t fun x=>match x.k with
    | .slice e=>tt.get e fun y=>match Nat.ble (len * y.size) 16777216 with
      | true=>fills (fun i g=>g (i * y.size) y.size) (reps len y.zero) l fun segs=>newB m d segs e fun m'=>f (.c (.slc d 0 len len)) m'
      | false=>False
    | _=>False
  | .load t a=>ev env a fun a=>match a with | .c a=>loadA P tt m t a f | _=>False
  | .store t a v=>ev env a fun a=>ev env v fun v=>match a with | .c a=>qmm P tt m t a v fun m'=>f (.tup []) m' | _=>False
  | .nilCheck x=>ev env x fun v=>match v with
    | .c (.ptr ..)=>f v m
    | .c (.elt ..)=>f v m
    | .c (.rp ..)=>f v m
    | .c (.raw (.func (.func n) a c))=>f (.c (.raw (.func (.func n) a c))) m
    | _=>False
  | .binOp op t x y _=>ev env x fun x=>ev env y fun y=>match x,y with
    | .c (.rp b o),.c (.rp b' o')=>isEq op fun e=>PeOb P t ⟨b,o,none⟩ ⟨b',o',none⟩ m fun r=>match e with | true=>f (.c (.bool r)) m | false=>f (.c (.bool (!r))) m
    | x,y=>match m with | ⟨B,H,F⟩=>binV P tt op t B x y fun v=>f v ⟨B,H,F⟩
  | .unOp op _ x=>ev env x fun x=>match op,x with
    | .not,.c .tt=>f (.c .ff) m
    | .not,.c .ff=>f (.c .tt) m
    | .not,.c (.bool b)=>f (.c (.bool (!b))) m
    | .neg,.c (.int k n)=>Ar k (0 - n) fun z=>f (.c (.int k z)) m
    | .xor,.c (.int k n)=>f (.c (.int k (ibits .xor k (if k.signed then -1 else k.max) n))) m
    | _,_=>False
  | .convert src dst x=>ev env x fun x=>tt.get dst fun d=>tt.get src fun ds=>match d.k,x with
    | .int k,.c (.int _ n)=>Ar k n fun z=>f (.c (.int k z)) m
    | .int _,_=>False
    | .str,.c (.str s)=>f (.c (.str s)) m
    | _,x=>With (Ty P dst d ∧ Ty P src ds) (RunOb P (convert src dst (x.den m.B)) m f)
  | .sliceToArrayPointer t x=>ev env x fun x=>tt.get t fun y=>match y.k,x with
    | .array n _,.c (.slc i off len _)=>n ≤ len ∧ f (.c (.ptr i off)) m
    | .array n _,.c (.rs a len _)=>n ≤ len ∧ PtrOb a m fun p=>f (.c (.rp p.1 p.2)) m
    | _,_=>False
  | .makeInterface t x=>ev env x fun x=>tt.get t fun y=>match y.k with
    | .iface _=>False
    | _=>f (.c (.raw (.iface t (x.den m.B)))) m
  | .makeFunc fn a c=>evs env a.toList fun a=>evs env c.toList fun c=>f (.c (.raw (.func fn (a.map (SV.den m.B)).toArray (c.map (SV.den m.B)).toArray))) m
  | .makeMap t r=>match r with | none=>RunOb P (Instr.makeMap t none) m f | some _=>False
  | .makeSlice t l c=>dstOf o.dst fun d=>ev env l fun l=>ev env c fun c=>tt.get t fun x=>match x.k,l,c with
    | .slice e,.c (.int .i64 l),.c (.int .i64 c)=>tt.get e fun y=>match y.zero with
      | [.one z]=>(0 ≤ l ∧ l ≤ c ∧ c ≤ 140737488355328 ∧ y.bytes * c ≤ 140737488355328) ∧ newB m d [.many c.toNat (List.replicate c.toNat (z.den []))] e fun m'=>f (.c (.slc d 0 l.toNat c.toNat)) m'
      | z=>(0 ≤ l ∧ l ≤ c ∧ c ≤ 140737488355328 ∧ y.bytes * c ≤ 140737488355328) ∧ newB m d [.many (c.toNat * y.size) (List.replicate c.toNat (dens [] z)).flatten] e fun m'=>f (.c (.slc d 0 l.toNat c.toNat)) m'
    | _,_,_=>False
  | .slice t x lo hi mx=>ev env x fun v=>match m with | ⟨B,H,F⟩=>qmz tt env t v lo hi mx B fun v=>f v ⟨B,H,F⟩
  | .fieldAddr s x i=>ev env x fun v=>tt.get s fun y=>match y.k,v with
    | .struct fs,.c (.ptr k off)=>nthF fs i fun o t=>tt.get t fun z=>match z.size with | 0=>False | _=>f (.c (.ptr k (off + o))) m
    | .struct fs,.c (.elt k off j)=>nthF fs i fun o t=>tt.get t fun z=>match z.size with | 0=>False | _=>f (.c (.elt k off (j + o))) m
    | .struct fs,.c (.rp b off)=>nthF fs i fun o t=>tt.get t fun z=>match z.size with | 0=>False | _=>f (.c (.rp b (off + o))) m
    | _,_=>False
  | .field s x i=>ev env x fun v=>tt.get s fun y=>match y.k,v with
    | .struct fs,.agg segs=>nthF fs i fun o t=>tt.get t fun z=>match m with | ⟨B,H,F⟩=>takeV B segs o z.size z.k.agg fun v=>f v ⟨B,H,F⟩
    | _,_=>False
  | .indexAddr t x ix=>ev env x fun v=>ev env ix fun ix=>tt.get t fun y=>match y.k,v,ix with
    | .array n e,.c (.ptr i off),.c (.int _ j)=>tt.get e fun z=>(0 ≤ j ∧ j < n) ∧ f (.c (.elt i off (j.toNat * z.size))) m
    | .slice e,.c (.slc i off len _),.c (.int _ j)=>tt.get e fun z=>(0 ≤ j ∧ j < len) ∧ f (.c (.elt i off (j.toNat * z.size))) m
    | .slice e,.c (.rs a len _),.c (.int _ j)=>tt.get e fun z=>(0 ≤ j ∧ j < len) ∧ PtrOb a m fun p=>f (.c (.rp p.1 (p.2 + j.toNat * z.size))) m
    | .array n e,.c (.rp b off),.c (.int _ j)=>tt.get e fun z=>(0 ≤ j ∧ j < n) ∧ f (.c (.rp b (off + j.toNat * z.size))) m
    | _,_,_=>False
  | .index t x ix=>ev env x fun v=>ev env ix fun ix=>tt.get t fun y=>match m with
    | ⟨B,H,F⟩=>match y.k,v,ix with
      | .array n e,.agg [.many _ l],.c (.int _ j)=>tt.get e fun z=>match z.k.agg with
        | true=>False
        | false=>(0 ≤ j ∧ j < n) ∧ Elem B l (j.toNat * z.size) fun x=>f (.c x) ⟨B,H,F⟩
      | .str,.c (.str s),.c (.int _ j)=>(0 ≤ j ∧ j < s.size) ∧ ∃ b,s[j.toNat]? = some b ∧ f (.c (.int .u8 (b.toNat : Int))) ⟨B,H,F⟩
      | _,_,_=>False
  | .extract t i=>ev env t fun v=>extractV v i fun x=>f x m
  | .call c=>match c.callee with
    | .value g=>ev env g fun fv=>evs env c.args.toList fun l=>callV P fv l m f
    | .builtin b=>evs env c.args.toList fun l=>q85 P tt b c.argTypes.toList o.type l m f
    | .invoke ..=>False
  | .lookup t x i ok=>ev env x fun x=>ev env i fun i=>RunOb P (Instr.lookup t (x.den m.B) (i.den m.B) ok) m f
  | .mapUpdate t x k v=>ev env x fun x=>ev env k fun k=>ev env v fun v =>
      RunOb P (do Instr.mapUpdate t (x.den m.B) (k.den m.B) (v.den m.B);pure undef) m f
  | .range t x=>ev env x fun x=>RunOb P (Instr.range t (x.den m.B)) m f
  | .next it s=>ev env it fun it=>RunOb P (Instr.next (it.den m.B) s o.type) m f
  | .entry it=>ev env it fun it=>RunOb P (Instr.entry (it.den m.B)) m f
  | _=>False
def quiet (tt : TT) (o : Oper) : Prop :=
  match o.op with
  | .convert _ dst _=>tt.get dst fun d=>match d.k with | .int _=>True | _=>False
  | op=>match loud op with | true=>False | false=>True
def put (N : Nat) (d : Option Nat) (v : SV) (env : Env) (f : Env → Prop) : Prop :=
  match d with
  | none=>f env
  | some d=>match Nat.blt d N with | true=>f ((d,v) :: env) | false=>False
def dstAt : List Oper → Nat → (Nat → Prop) → Prop
  | [],_,_=>False
  | o :: r,j,f=>match j with | 0=>dstOf o.dst f | j + 1=>dstAt r j f
def fits : Bool → Bool → Prop → Prop → Prop
  | true,true,x,_ | false,false,x,_=>x
  | _,_,_,y=>y
def qhc (P : Program) (tt : TT) (N : Nat) (all : List Oper) (o : Oper) (k : Env → M → (Env → M → Prop) → Prop) (env : Env) (m : M) (f : Env → M → Prop) : Prop :=
  match o.guard with
  | none=>execOp P tt o env m fun v m'=>put N o.dst v env fun env'=>k env' m' f
  | some (j,want)=>dstAt all j fun s=>look env s fun c=>match c with
    | .c .tt=>fits true want (execOp P tt o env m fun v m'=>put N o.dst v env fun env'=>k env' m' f)
        (put N o.dst (.tup []) env fun env'=>k env' m f)
    | .c .ff=>fits false want (execOp P tt o env m fun v m'=>put N o.dst v env fun env'=>k env' m' f)
        (put N o.dst (.tup []) env fun env'=>k env' m f)
    | .c (.bool b)=>Cond b
        (fits true want (execOp P tt o ((s,.c .tt) :: env) m fun v m'=>put N o.dst v ((s,.c .tt) :: env) fun env'=>k env' m' f)
          (put N o.dst (.tup []) ((s,.c .tt) :: env) fun env'=>k env' m f))
        (fits false want (execOp P tt o ((s,.c .ff) :: env) m fun v m'=>put N o.dst v ((s,.c .ff) :: env) fun env'=>k env' m' f)
          (put N o.dst (.tup []) ((s,.c .ff) :: env) fun env'=>k env' m f))
    | .tup l=>match l with
      | []=>put N o.dst (.tup []) env fun env'=>k env' m f
      | _=>False
    | _=>False
noncomputable def q5u (P : Program) (tt : TT) (N : Nat) (all : List Oper) (l : List Oper) : Env → M → (Env → M → Prop) → Prop :=
  @List.rec Oper (fun _=>Env → M → (Env → M → Prop) → Prop) (fun env m f=>f env m) (fun o _ ih=>qhc P tt N all o ih) l
inductive Ex where
  | normal
  | exit (id : Nat)
  | ret
abbrev Wf (ro : Option Nat) : Fence:={ Fence.wide with round:=ro }
structure Wk (env : Env) (m : M) (env' : Env) (m' : M) : Prop where
  b : dsOf m'.B = dsOf m.B
  h : ∀ w,m.ok → sat m.props w → (∀ t x,look env t (· = x) → x.ok m.B) →
    m'.ok ∧ sat m'.props w ∧ ∀ t y,look env' t (· = y) → y.ok m'.B ∧ ∃ x,look env t (· = x) ∧ x.den m.B = y.den m'.B
structure LoopOb (body : Env → M → (Ex → Env → M → Prop) → Prop) (env : Env) (m : M) (f : Ex → Env → M → Prop) : Prop where
  h : ∃ (σ : Type) (E : σ → Env) (G : σ → M) (p : σ → Prop) (μ : σ → Nat) (s : σ),p s ∧ Wk env m (E s) (G s) ∧
    ∀ s,p s → body (E s) (G s) fun e env' m'=>match e with
      | .normal=>∃ s',p s' ∧ μ s' < μ s ∧ Wk env' m' (E s') (G s')
      | e=>f e env' m'
structure Draw (P : Program) (tt : TT) (N : Nat) (ops : List Oper) (env : Env) (m : M) (f : Env → M → Prop) : Prop where
  h : ∀ (ro : Option Nat) (id : Nat) (Q : Exit → Act → World → Prop) (a : Act) (w : World),a.defers = dsOf m.B → a.tmps.size = N → (∀ t x,look env t (· = x) → x.ok m.B ∧ a.tmps[t]? = some (x.den m.B)) → m.ok → sat m.props w →
    (∀ a' w' env' m',a'.defers = dsOf m'.B → a'.tmps.size = N → (∀ t x,look env' t (· = x) → x.ok m'.B ∧ a'.tmps[t]? = some (x.den m'.B)) → m'.ok → sat m'.props w' → f env' m' → Q .normal a' w') →
    (Code.region id ops.toArray true).wpIn (Wf ro) 0 P Q a w
abbrev Ek0:=Env → M → (Ex → Env → M → Prop) → Prop
noncomputable def q96 (c : Code) : Bool :=
  @Code.rec (fun _=>Bool) true (fun _ _ _=>true) (fun _ _ a b=>a && b) (fun _ _ _ a b=>a && b) (fun _ _ a=>a) (fun _ a=>a) (fun _ _ _ _ _ _=>false)
    (fun _=>true) (fun _ _=>false) (fun _=>true) (fun _=>false) true (fun _=>false) c
def qi8 (P : Program) (l : Nat) (v : Value) (K K' : HP) : Prop :=
  ∀ R w,sat [K,R] w → ∃ fn tmps assign body,(Instr.yield l #[v]).run P w = .ok (.round l fn tmps assign body) w ∧
    RoundIn Fence.wide 0 P l fn tmps assign body w fun e w'=>e = .returned (.bool true) ∧ sat [K',R] w'
structure RangeOb (P : Program) (n : Nat) (caps : List Value) (p : Nat) (assign body : Ek0) (env : Env) (m : M) (f : Ex → Env → M → Prop) : Prop where
  runs : Runs P n
  h : dsOf m.B = [] ∧ ∃ (xs : List SV) (σ : Type) (k : Nat → σ → Prop) (G : σ → List Chunk × List HP) (I : List HP) (τ : Type) (q : τ → Prop) (J : τ → List HP),
    (m.ok → ∀ w,sat m.props w → ∃ s,k 0 s ∧ (M.mk m.B (G s).1 (G s).2).ok ∧ sat (I ++ (M.mk m.B (G s).1 (G s).2).props) w) ∧
    (∀ i s x,xs[i]? = some x → k i s → x.ok [] ∧ ∀ R,assign ((p,x) :: env) ⟨m.B,(G s).1,(G s).2 ++ [R]⟩ fun e env' m'=>e = .normal ∧ m' = ⟨m.B,(G s).1,(G s).2 ++ [R]⟩ ∧
      ∀ R,body env' ⟨m.B,(G s).1,(G s).2 ++ [R]⟩ fun e _ m'=>e = .normal ∧ ∃ s',k (i + 1) s' ∧
        (m'.ok → ∀ w,sat m'.props w → (M.mk m.B (G s').1 (G s').2).ok ∧ sat (M.props ⟨m.B,(G s').1,(G s').2 ++ [R]⟩) w)) ∧
    (∀ (l : Nat) (K : Nat → HP),(∀ (i : Nat) (x : SV),xs[i]? = some x → qi8 P l (x.den []) (K i) (K (i + 1))) → ∀ w,sat (I ++ [K 0]) w →
      Calls P n (Value.func (.yield l) #[] #[] :: caps).toArray w fun e w'=>∃ v t,e = .returned v ∧ q t ∧ sat (J t ++ [K xs.length]) w') ∧
    ∀ s t r,k xs.length s → q t → f .normal env ⟨(1000000,r) :: m.B,(G s).1,J t ++ ((G s).2 ++ [Mk r])⟩
def q80 (P : Program) (l : Nat) (v u : Value) (K K' : HP) : Prop :=
  ∀ R w,sat [K,R] w → ∃ fn tmps assign body,(Instr.yield l #[v,u]).run P w = .ok (.round l fn tmps assign body) w ∧
    RoundIn Fence.wide 0 P l fn tmps assign body w fun e w'=>e = .returned (.bool true) ∧ sat [K',R] w'
structure RangeOb2 (P : Program) (n : Nat) (caps : List Value) (p p' : Nat) (assign body : Ek0) (env : Env) (m : M) (f : Ex → Env → M → Prop) : Prop where
  runs : Runs P n
  h : dsOf m.B = [] ∧ ∃ (xs : List (SV × SV)) (σ : Type) (k : Nat → σ → Prop) (G : σ → List Chunk × List HP) (I : List HP) (τ : Type) (q : τ → Prop) (J : τ → List HP),
    (m.ok → ∀ w,sat m.props w → ∃ s,k 0 s ∧ (M.mk m.B (G s).1 (G s).2).ok ∧ sat (I ++ (M.mk m.B (G s).1 (G s).2).props) w) ∧
    (∀ i s x,xs[i]? = some x → k i s → (x.1.ok [] ∧ x.2.ok []) ∧ ∀ R,assign ((p,x.1) :: (p',x.2) :: env) ⟨m.B,(G s).1,(G s).2 ++ [R]⟩ fun e env' m'=>e = .normal ∧ ∃ B1 H1,m' = ⟨B1,H1,(G s).2 ++ [R]⟩ ∧
      ∀ R,body env' ⟨B1,H1,(G s).2 ++ [R]⟩ fun e _ m'=>e = .normal ∧ ∃ s',k (i + 1) s' ∧
        (m'.ok → ∀ w,sat m'.props w → (M.mk m.B (G s').1 (G s').2).ok ∧ sat (M.props ⟨m.B,(G s').1,(G s').2 ++ [R]⟩) w)) ∧
    (∀ (l : Nat) (K : Nat → HP),(∀ (i : Nat) (x : SV × SV),xs[i]? = some x → q80 P l (x.1.den []) (x.2.den []) (K i) (K (i + 1))) → (∀ R : HP,(∀ i s,k i s → R ∈ (G s).2) → ∀ i g,K i g → ∃ g',Le g' g ∧ R g') → ∀ w,sat (I ++ [K 0]) w →
      Calls P n (Value.func (.yield l) #[] #[] :: caps).toArray w fun e w'=>∃ v t,e = .returned v ∧ q t ∧ sat (J t ++ [K xs.length]) w') ∧
    ∀ s t r,k xs.length s → q t → f .normal env ⟨(1000000,r) :: m.B,(G s).1,J t ++ ((G s).2 ++ [Mk r])⟩
abbrev Ek:=Env → M → (Ex → Env → M → Prop) → Prop
noncomputable def exec (P : Program) (tt : TT) (N : Nat) (c : Code) : Ek :=
  @Code.rec (fun _=>Ek)
    (fun env m f=>f .normal env m)
    (fun _ ops d env m f=>match d with
      | false=>q5u P tt N ops.toList ops.toList env m fun env' m'=>f .normal env' m'
      | true=>Draw P tt N ops.toList env m fun env' m'=>f .normal env' m')
    (fun _ _ iha ihb env m f=>iha env m fun e env' m'=>match e with
      | .normal=>ihb env' m' f
      | .exit i=>f (.exit i) env' m'
      | .ret=>f .ret env' m')
    (fun c _ _ iha ihb env m f=>ev env c fun v=>match v with
      | .c .tt=>iha env m f
      | .c .ff=>ihb env m f
      | .c (.bool t)=>Cond t (iha env m f) (ihb env m f)
      | _=>False)
    (fun id _ ih env m f=>ih env m fun e env' m'=>match e with
      | .normal=>f .normal env' m'
      | .exit i=>match Nat.beq i id with | true=>f .normal env' m' | false=>f (.exit i) env' m'
      | .ret=>f .ret env' m')
    (fun _ ih env m f=>LoopOb ih env m f)
    (fun g ps a b iha ihb env m f=>ev env g fun fv=>match fv with
      | .c (.raw (.func (.func n) first cap))=>match first.toList,ps.toList,q96 a && q96 b with
        | [],[p],true=>Nat.blt p N = true ∧ RangeOb P n cap.toList p iha ihb env m f
        | [],[p,p'],true=>(Nat.blt p N && Nat.blt p' N && !Nat.beq p p') = true ∧ RangeOb2 P n cap.toList p p' iha ihb env m f
        | _,_,_=>False
      | _=>False)
    (fun id env m f=>f (.exit id) env m)
    (fun _ _ _ _ _=>False)
    (fun _ env m f=>f .normal env m)
    (fun _ _ _ _=>False)
    (fun env m f=>f .ret env m)
    (fun _ _ _ _=>False)
    c
end Go.Sx
namespace Go.Sx
theorem qb2 (k b : Nat) (r : Names) (i : Nat) : bl ((k,b) :: r) i = if k = i then b else bl r i:=by
  simp only [bl]
  cases h : Nat.beq k i with
  | true=>simp [Nat.eq_of_beq_eq_true h]
  | false=>simp [Nat.ne_of_beq_eq_false h]
theorem q4l (k b : Nat) (r : Names) (i : Nat) : has ((k,b) :: r) i ↔ k = i ∨ has r i:=by
  simp only [has]
  cases h : Nat.beq k i with
  | true=>simp [Nat.eq_of_beq_eq_true h]
  | false=>simp [Nat.ne_of_beq_eq_false h]
def Ext (B B' : Names) : Prop:=B' = B ∨ ∃ d b,fresh B d True ∧ B' = (d,b) :: B
theorem q6s : ∀ {B : Names} {d : Nat} {p : Prop},fresh B d p → (¬ has B d) ∧ p
  | [],d,_,h=>by
    simp only [fresh] at h
    cases e : Nat.ble 1000000 d with
    | true=>rw [e] at h;exact h.elim
    | false=>rw [e] at h;exact ⟨fun h=>h,h⟩
  | (k,b) :: r,d,p,h=>by
    rw [q4l];simp only [fresh] at h
    cases e : Nat.beq k d with
    | true=>rw [e] at h;exact h.elim
    | false =>
      rw [e] at h;have:=q6s h;exact ⟨fun h=>h.elim (Nat.ne_of_beq_eq_false e) this.1,this.2⟩
theorem q5l : ∀ {B : Names} {d : Nat} {p : Prop},fresh B d p → Nat.ble 1000000 d = false
  | [],d,_,h=>by
    simp only [fresh] at h
    cases e : Nat.ble 1000000 d with
    | true=>rw [e] at h;exact h.elim
    | false=>rfl
  | (k,b) :: r,d,p,h=>by
    simp only [fresh] at h
    cases e : Nat.beq k d with
    | true=>rw [e] at h;exact h.elim
    | false=>rw [e] at h;exact q5l h
theorem qah : ∀ {B : Names} {d : Nat},Nat.ble 1000000 d = false → ¬ has B d → fresh B d True
  | [],_,h1,_=>by simp only [fresh,h1]
  | (k,b) :: r,d,h1,h=>by
    rw [q4l] at h;simp only [fresh]
    cases e : Nat.beq k d with
    | true=>exact (h (.inl (Nat.eq_of_beq_eq_true e))).elim
    | false=>exact qah h1 fun x=>h (.inr x)
theorem Ext.has {B B' : Names} (h : Ext B B') {i : Nat} (x : has B i) : Sx.has B' i ∧ bl B' i = bl B i:=by
  rcases h with rfl | ⟨d,b,f,rfl⟩
  · exact ⟨x,rfl⟩
  · have hd : d ≠ i:=fun e=>(q6s f).1 (e ▸ x);rw [q4l,qb2,if_neg hd];exact ⟨.inr x,rfl⟩
theorem Ext.ds {B B' : Names} (h : Ext B B') : dsOf B' = dsOf B:=by
  rcases h with rfl | ⟨d,b,f,rfl⟩
  · rfl
  · simp only [dsOf,q5l f]
theorem q7i : ∀ {B : Names} {p : Prop},q9p B p → dsOf B = [] ∧ p
  | [],_,h=>⟨rfl,h⟩
  | (k,b) :: r,p,h=>by
    simp only [q9p] at h;simp only [dsOf]
    cases e : Nat.ble 1000000 k with
    | true=>rw [e] at h;exact h.elim
    | false=>rw [e] at h;exact q7i h
structure ExtS (B0 B : Names) : Prop where
  h : ∀ i,has B0 i → has B i ∧ bl B i = bl B0 i
theorem Ext.s {B B' : Names} (h : Ext B B') : ExtS B B':=⟨fun _ k=>h.has k⟩
theorem SC.exts {B B' : Names} (h : ExtS B B') {x : SC} (k : x.ok B) : x.ok B' ∧ x.den B' = x.den B:=by
  cases x with
  | ptr i off=>have:=h.h _ k;exact ⟨this.1,by simp only [SC.den];rw [this.2]⟩
  | elt i off j=>have:=h.h _ k;exact ⟨this.1,by simp only [SC.den];rw [this.2]⟩
  | slc i off len cap=>have:=h.h _ k;exact ⟨this.1,by simp only [SC.den];rw [this.2]⟩
  | raw v=>exact ⟨k,rfl⟩
  | _=>exact ⟨trivial,rfl⟩
theorem Seg.exts {B B' : Names} (h : ExtS B B') {x : Seg} (k : x.ok B) : x.ok B' ∧ x.den B' = x.den B:=by
  cases x with
  | one x=>have:=SC.exts h k;exact ⟨this.1,by simp [Seg.den,this.2]⟩
  | many n l=>exact ⟨k,rfl⟩
theorem q2x {B B' : Names} (h : ExtS B B') : ∀ {l : List Seg},(∀ s ∈ l,s.ok B) → (∀ s ∈ l,s.ok B') ∧ dens B' l = dens B l
  | [],_=>⟨fun _ h=>by simp at h,rfl⟩
  | s :: l,k=>by
    have a:=Seg.exts h (k s (by simp));have b:=q2x h (l:=l) fun s' hs=>k s' (by simp [hs]);refine ⟨fun s' hs=>?_,?_⟩
    · rcases List.mem_cons.1 hs with rfl | hs
      · exact a.1
      · exact b.1 s' hs
    · simp only [dens,List.flatMap_cons] at *;rw [a.2,b.2]
theorem SA.exts {B B' : Names} (h : ExtS B B') {x : SA} (k : x.ok B) : x.ok B' ∧ x.den B' = x.den B:=by
  cases x with
  | c x=>exact SC.exts h k
  | agg l=>have:=q2x h k;exact ⟨this.1,by simp [SA.den,this.2]⟩
theorem SV.exts {B B' : Names} (h : ExtS B B') {x : SV} (k : x.ok B) : x.ok B' ∧ x.den B' = x.den B:=by
  cases x with
  | c x=>exact SC.exts h k
  | agg l=>have:=q2x h k;exact ⟨this.1,by simp [SV.den,this.2]⟩
  | tup l =>
    refine ⟨fun s hs=>(SA.exts h (k s hs)).1,?_⟩;simp only [SV.den];congr 2;exact List.map_congr_left fun s hs=>(SA.exts h (k s hs)).2
theorem SC.ext {B B' : Names} (h : Ext B B') {x : SC} (k : x.ok B) : x.ok B' ∧ x.den B' = x.den B:=SC.exts h.s k
theorem Seg.ext {B B' : Names} (h : Ext B B') {x : Seg} (k : x.ok B) : x.ok B' ∧ x.den B' = x.den B:=Seg.exts h.s k
theorem q7t {B B' : Names} (h : Ext B B') {l : List Seg} (k : ∀ s ∈ l,s.ok B) : (∀ s ∈ l,s.ok B') ∧ dens B' l = dens B l:=q2x h.s k
theorem SA.ext {B B' : Names} (h : Ext B B') {x : SA} (k : x.ok B) : x.ok B' ∧ x.den B' = x.den B:=SA.exts h.s k
theorem SV.ext {B B' : Names} (h : Ext B B') {x : SV} (k : x.ok B) : x.ok B' ∧ x.den B' = x.den B:=SV.exts h.s k
theorem SC.one_cell {B : Names} {x : SC} (k : x.ok B) : (x.den B).oneCell' = true:=by
  cases x <;> first | rfl | exact k
theorem qdl {v : Value} (h : v.oneCell' = true) : v.cells = #[v]:=by
  cases v <;> first | rfl | (simp [Value.oneCell'] at h)
theorem q0q {B : Names} {l : List Seg} (k : ∀ s ∈ l,s.ok B) : ∀ v ∈ dens B l,v.oneCell' = true:=by
  intro v hv;obtain ⟨s,hs,hv⟩:=List.mem_flatMap.1 hv
  cases s with
  | one x=>simp [Seg.den] at hv;subst hv;exact SC.one_cell (k _ hs)
  | many n l'=>exact (k _ hs).2 v hv
theorem q4e (B : Names) (a b : List Seg) : dens B (a ++ b) = dens B a ++ dens B b:=by simp [dens]
theorem q20 (B : Names) (a : Seg) (b : List Seg) : dens B (a :: b) = a.den B ++ dens B b:=by simp [dens]
theorem q0y {B : Names} : ∀ {l : List Seg},(∀ s ∈ l,s.ok B) → (dens B l).length = q2a l
  | [],_=>rfl
  | .one x :: r,k=>by
    have:=q0y (l:=r) fun s hs=>k s (by simp [hs])
    simp [q20,Seg.den,q2a,this]
  | .many n l :: r,k=>by
    have:=q0y (l:=r) fun s hs=>k s (by simp [hs]);have h1:=(k (.many n l) (by simp)).1
    simp [q20,Seg.den,q2a,this,h1]
    omega
theorem q7k : ∀ {tt : TT} {t : Nat} {f : TyX → Prop},tt.get t f → ∃ x,(t,x) ∈ tt.rows ∧ f x
  | .leaf,_,_,h=>h.elim
  | .node k x l r,t,f,h=>by
    simp only [TT.get] at h
    cases e : Nat.beq t k with
    | true=>rw [e] at h;exact ⟨x,by simp [TT.rows,Nat.eq_of_beq_eq_true e],h⟩
    | false =>
      rw [e] at h
      cases e' : Nat.ble t k with
      | true=>rw [e'] at h;obtain ⟨y,hy,hf⟩:=q7k h;exact ⟨y,by simp [TT.rows,hy],hf⟩
      | false=>rw [e'] at h;obtain ⟨y,hy,hf⟩:=q7k h;exact ⟨y,by simp [TT.rows,hy],hf⟩
theorem qas : ∀ {tt : TT} {t : Nat} {f : TyX → Prop},tt.get t f → ∃ x,f x ∧ (t,x) ∈ tt.rows ∧ ∀ g,tt.get t g → g x
  | .leaf,_,_,h=>h.elim
  | .node k x l r,t,f,h=>by
    simp only [TT.get] at h
    cases e : Nat.beq t k with
    | true =>
      rw [e] at h;refine ⟨x,h,by simp [TT.rows,Nat.eq_of_beq_eq_true e],fun g hg=>?_⟩;simp only [TT.get,e] at hg;exact hg
    | false =>
      rw [e] at h
      cases e' : Nat.ble t k with
      | true =>
        rw [e'] at h;obtain ⟨y,hf,hm,hg⟩:=qas h;refine ⟨y,hf,by simp [TT.rows,hm],fun g hg'=>hg g ?_⟩;simp only [TT.get,e,e'] at hg';exact hg'
      | false =>
        rw [e'] at h;obtain ⟨y,hf,hm,hg⟩:=qas h;refine ⟨y,hf,by simp [TT.rows,hm],fun g hg'=>hg g ?_⟩;simp only [TT.get,e,e'] at hg';exact hg'
theorem ty_of {P : Program} {tt : TT} (ok : tt.ok P) {t : Nat} {x : TyX} (hx : (t,x) ∈ tt.rows) : Ty P t x:=by
  refine ⟨?_,(ok.2 _ hx).1,(ok.2 _ hx).2⟩
  have e : infoX P t = some (x.k,x.size,x.bytes,some (dens [] x.zero)):=by
    have:=(List.map_inj_left.1 ok.1) _ hx;exact this
  unfold infoX at e
  split at e
  · rename_i i u hi hu
    cases hz : i.zero with
    | none=>simp [hz] at e
    | some z =>
      simp [hz] at e
      exact ⟨i,u,z,hi,hu,e.1,e.2.1,e.2.2.1,hz,e.2.2.2⟩
  · cases e
theorem qfb {P : Program} {tt : TT} (ok : tt.ok P) {t : Nat} {f : TyX → Prop} (h : tt.get t f) : ∃ x,Ty P t x ∧ f x ∧ ∀ g,tt.get t g → g x:=by
  obtain ⟨x,hf,hm,hg⟩:=qas h;exact ⟨x,ty_of ok hm,hf,hg⟩
theorem q0c {P : Program} {tt : TT} (ok : tt.ok P) {t : Nat} {f : TyX → Prop} (h : tt.get t f) : ∃ x,Ty P t x ∧ f x :=
  let ⟨x,T,hf,_⟩:=qfb ok h;⟨x,T,hf⟩
section
variable {P : Program} {t : Nat} {x : TyX} (T : Ty P t x) (w : World)
include T
theorem Ty.run_sizeOf : (sizeOf t).run P w = .ok x.size w:=by
  obtain ⟨i,u,z,hi,hu,hk,hs,hb,hz,hc⟩:=T.h
  simp [sizeOf,typeInfo,hi,hs]
theorem Ty.run_zero : ∃ z,(zeroValue t).run P w = .ok z w ∧ z.cells.toList = dens [] x.zero:=by
  obtain ⟨i,u,z,hi,hu,hk,hs,hb,hz,hc⟩:=T.h;exact ⟨z,by simp [zeroValue,typeInfo,hi,hz],hc⟩
theorem Ty.und : ∃ u,P.underlying t = some u ∧ tkOf u = x.k ∧ (underlying t).run P w = .ok u w:=by
  obtain ⟨i,u,z,hi,hu,hk,hs,hb,hz,hc⟩:=T.h;exact ⟨u,hu,hk,run_underlying hu w⟩
theorem Ty.run_isAgg : (isAgg t).run P w = .ok x.k.agg w:=by
  obtain ⟨u,hu,hk,hr⟩:=T.und w;simp only [isAgg,Sem.run_bind,hr,Result.andThen_ok,← hk];cases u <;> rfl
end
theorem q3q {B : Names} : ∀ {segs : List Seg} {n : Nat} {f : List Seg → List Seg → Prop},(∀ s ∈ segs,s.ok B) → cut segs n f →
    ∃ a b,dens B segs = dens B a ++ dens B b ∧ (dens B a).length = n ∧ (∀ s ∈ a,s.ok B) ∧ (∀ s ∈ b,s.ok B) ∧ f a b
  | [],n,f,k,h=>by
    cases n with
    | zero=>exact ⟨[],[],rfl,rfl,by simp,by simp,h⟩
    | succ n=>exact h.elim
  | s :: r,n,f,k,h=>by
    cases n with
    | zero=>exact ⟨[],s :: r,by simp [dens],rfl,by simp,k,h⟩
    | succ n =>
      have kr : ∀ s ∈ r,s.ok B:=fun s' hs=>k s' (by simp [hs]);have ks:=k s (by simp)
      cases s with
      | one x =>
        obtain ⟨a,b,e,hl,ka,kb,hf⟩:=q3q kr h;refine ⟨.one x :: a,b,?_,?_,?_,kb,hf⟩
        · simp [q20,e]
        · simp [q20,Seg.den,hl]
        · intro s' hs
          rcases List.mem_cons.1 hs with rfl | hs
          · exact ks
          · exact ka s' hs
      | many m l =>
        simp only [cut] at h
        cases e : Nat.ble m (n + 1) with
        | true =>
          rw [e] at h;have hm : m ≤ n + 1:=Nat.le_of_ble_eq_true e;obtain ⟨a,b,e,hl,ka,kb,hf⟩:=q3q kr h;refine ⟨.many m l :: a,b,?_,?_,?_,kb,hf⟩
          · simp [q20,e]
          · simp only [q20,Seg.den,List.length_append,hl];have:=ks.1;omega
          · intro s' hs
            rcases List.mem_cons.1 hs with rfl | hs
            · exact ks
            · exact ka s' hs
        | false =>
          rw [e] at h;have hm : ¬ m ≤ n + 1:=fun hm=>by rw [Nat.ble_eq_true_of_le hm] at e;cases e
          refine ⟨[.many (n + 1) (l.take (n + 1))],.many (m - (n + 1)) (l.drop (n + 1)) :: r,?_,?_,?_,?_,h⟩
          · simp only [dens,List.flatMap_cons,List.flatMap_nil,Seg.den,List.append_nil];rw [← List.append_assoc,List.take_append_drop]
          · simp only [dens,List.flatMap_cons,List.flatMap_nil,Seg.den,List.append_nil,List.length_take];have:=ks.1;omega
          · intro s' hs
            simp at hs
            subst hs;exact ⟨by have:=ks.1;simp;omega,fun v hv=>ks.2 v (List.mem_of_mem_take hv)⟩
          · intro s' hs
            rcases List.mem_cons.1 hs with rfl | hs
            · exact ⟨by have:=ks.1;simp;omega,fun v hv=>ks.2 v (List.mem_of_mem_drop hv)⟩
            · exact kr s' hs
theorem q5a {B : Names} {segs : List Seg} {off size : Nat} {agg : Bool} {f : SV → Prop} (k : ∀ s ∈ segs,s.ok B) (h : takeV B segs off size agg f) :
    ∃ v,f v ∧ v.ok B ∧ (if agg then off + size ≤ (dens B segs).length ∧ v.den B = .agg ((dens B segs).drop off |>.take size).toArray else (dens B segs)[off]? = some (v.den B)):=by
  unfold takeV at h;obtain ⟨a,b,e,hl,ka,kb,hf⟩:=q3q k h
  cases agg with
  | true =>
    obtain ⟨c,d,e',hl',kc,kd,hf⟩:=q3q kb hf;refine ⟨_,hf,kc,?_⟩;simp only [if_true];refine ⟨by rw [e,e'];simp;omega,?_⟩;simp only [SV.den,e,e'];congr 2;rw [← hl,List.drop_left,← hl',List.take_left]
  | false =>
    simp only [Bool.false_eq_true,if_false]
    cases b with
    | nil=>exact hf.elim
    | cons s r =>
      cases s with
      | one x =>
        have kx : x.ok B:=kb (.one x) (by simp);refine ⟨_,hf,kx,?_⟩;rw [e,← hl,List.getElem?_append_right (Nat.le_refl _),Nat.sub_self,q20];rfl
      | many n l =>
        obtain ⟨x,hx,kx,hf⟩:=hf.h;refine ⟨_,hf,kx,?_⟩;rw [e,← hl,List.getElem?_append_right (Nat.le_refl _),Nat.sub_self,q20];simp only [Seg.den,SV.den];rw [List.getElem?_append_left,hx]
        rcases Nat.lt_or_ge 0 l.length with h | h
        · exact h
        · rw [List.getElem?_eq_none h] at hx;cases hx
theorem q48 {B : Names} {x : SV} {f : List Seg → Prop} (k : x.ok B) (h : qcn x f) : ∃ l,f l ∧ (∀ s ∈ l,s.ok B) ∧ (x.den B).cells.toList = dens B l:=by
  cases x with
  | c x=>exact ⟨_,h,by intro s hs;simp at hs;subst hs;exact k,by simp [SV.den,qdl (SC.one_cell k),dens,Seg.den]⟩
  | agg l=>exact ⟨l,h,k,by simp [SV.den,Value.cells]⟩
  | tup l=>exact h.elim
theorem q6j {B : Names} {segs : List Seg} {off size : Nat} {x : List Seg} {f : List Seg → Prop} (k : ∀ s ∈ segs,s.ok B) (kx : ∀ s ∈ x,s.ok B) (h : putV segs off size x f) :
    ∃ l,f l ∧ (∀ s ∈ l,s.ok B) ∧ off + size ≤ (dens B segs).length ∧ dens B l = (dens B segs).take off ++ (dens B x ++ (dens B segs).drop (off + size)):=by
  unfold putV at h;obtain ⟨a,b,e,hl,ka,kb,hf⟩:=q3q k h;obtain ⟨c,d,e',hl',kc,kd,hf⟩:=q3q kb hf;refine ⟨_,hf,?_,?_,?_⟩
  · intro s hs
    rcases List.mem_append.1 hs with hs | hs
    · exact ka s hs
    · rcases List.mem_append.1 hs with hs | hs
      · exact kx s hs
      · exact kd s hs
  · rw [e,e'];simp;omega
  · rw [q4e,q4e,e,e',← hl,List.take_left];congr 2;rw [← hl',← List.length_append,← List.append_assoc,List.drop_left]
theorem q2f : ∀ {H : List Chunk} {i : Nat} {f : List Seg → Nat → (List Seg → (List Chunk → Prop) → Prop) → Prop},atH H i f →
    ∃ H1 s t H2 put,H = H1 ++ (i,s,t) :: H2 ∧ f s t put ∧ ∀ s' g,put s' g → g (H1 ++ (i,s',t) :: H2)
  | [],_,_,h=>h.elim
  | (k,s,t) :: r,i,f,h=>by
    simp only [atH] at h
    cases e : Nat.beq k i with
    | true =>
      rw [e] at h;have:=Nat.eq_of_beq_eq_true e;subst this;exact ⟨[],s,t,r,_,rfl,h,fun s' g hg=>hg⟩
    | false =>
      rw [e] at h;obtain ⟨H1,s',t',H2,put,rfl,hf,hp⟩:=q2f h;exact ⟨(k,s,t) :: H1,s',t',H2,_,rfl,hf,fun s'' g hg=>hp _ _ hg⟩
theorem q0l (b o n : Nat) : (⟨b,o,none⟩ : Addr).add n = ⟨b,o + n,none⟩:=by
  unfold Addr.add;split <;> simp_all
theorem q1f {P : Program} {t : Nat} {x : TyX} (T : Ty P t x) {w : World} {b off : Nat} {L : List Value} {e : Nat} {fz : Nat × Nat} (hb : w.heap[b]? = some (.cells L.toArray e fz))
    {v : Value} (h : if x.k.agg then off + x.size ≤ L.length ∧ v = .agg ((L.drop off).take x.size).toArray else L[off]? = some v) : (loadVar t ⟨b,off,none⟩).run P w = .ok v w:=by
  have hc : ∀ j,w.cell? ⟨b,j,none⟩ = L[j]?:=fun j=>by rw [cell_of_row w b j _ _ _ hb];simp
  simp only [loadVar,Sem.run_bind,T.run_isAgg w,Result.andThen_ok]
  cases hk : x.k.agg with
  | true =>
    rw [hk] at h;simp only [if_true] at h ⊢
    have:=run_loadCells_list (P:=P) w ⟨b,off,none⟩ ((L.drop off).take x.size) (by
      intro j v hv;rw [q0l,hc,← hv,List.getElem?_take]
      split
      · rw [List.getElem?_drop]
      · rename_i hj
        simp [List.getElem?_take,hj] at hv)
    rw [List.length_take,List.length_drop,Nat.min_eq_left (by omega)] at this
    simp [Sem.run_bind,T.run_sizeOf w,this,h.2]
  | false =>
    rw [hk] at h;simp only [Bool.false_eq_true,if_false] at h ⊢
    simp [run_load,hc,h]
theorem q2y {w : World} {g : Nat} {cs cs' : Array Value} {e : Nat} {fz : Nat × Nat} (hg : w.heap[g]? = some (.cells cs e fz)) :
    (w.setRow g cs').heap[g]? = some (.cells cs' e fz) ∧ ∀ c,c ≠ g → (w.setRow g cs').heap[c]? = w.heap[c]?:=by
  constructor
  · simp [World.setRow,Array.getElem?_modify,hg]
  · intro c hc
    simp [World.setRow,Array.getElem?_modify,Ne.symm hc]
theorem q3k {P : Program} {t : Nat} {x : TyX} (T : Ty P t x) {w : World} {b off : Nat} {L : List Value} {e : Nat} (hb : w.heap[b]? = some (.cells L.toArray e (0,0)))
    {v : Value} {xs : List Value} (hv : v.cells.toList = xs) (hl : xs.length = x.size) (h1 : ∀ v ∈ xs,v.oneCell' = true) (hfit : off + x.size ≤ L.length) :
    (storeVar t ⟨b,off,none⟩ v).run P w = .ok () (w.setRow b (L.take off ++ (xs ++ L.drop (off + x.size))).toArray):=by
  have hs : v.cells.size = x.size:=by rw [← Array.length_toList,hv,hl]
  have:=run_storeCells_at P b off e xs 0 L.toArray w hb (by simpa [hl] using hfit) h1;simp only [Nat.add_zero,hl] at this;simp only [storeVar,Sem.run_bind,T.run_sizeOf w,Result.andThen_ok,hs]
  simp [hv,this]
end Go.Sx
namespace Go.Sx
structure St (N : Nat) (env : Env) (m : M) (a : Act) (w : World) : Prop where
  d : a.defers = dsOf m.B
  n : a.tmps.size = N
  l : ∀ t x,look env t (· = x) → x.ok m.B ∧ a.tmps[t]? = some (x.den m.B)
  k : m.ok
  s : sat m.props w
theorem q4w : ∀ {env : Env} {t : Nat} {f : SV → Prop},look env t f → ∃ x,look env t (· = x) ∧ f x
  | [],_,_,h=>h.elim
  | (k,x) :: r,t,f,h=>by
    simp only [look] at *
    cases e : Nat.beq k t with
    | true=>rw [e] at h;exact ⟨x,rfl,h⟩
    | false=>rw [e] at h;exact q4w h
section
variable {N : Nat} {env : Env} {m : M} {a : Act} {w : World}
theorem St.look (st : St N env m a w) {t : Nat} {f : SV → Prop} (h : look env t f) : ∃ x,f x ∧ x.ok m.B ∧ a.tmps[t]? = some (x.den m.B):=by
  obtain ⟨x,hx,hf⟩:=q4w h;exact ⟨x,hf,st.l t x hx⟩
theorem q7e (B : Names) {v : Value} (h : v.oneCell' = true) : (ofValue v).ok B ∧ (ofValue v).den B = v:=by
  cases v with
  | bool b=>cases b <;> exact ⟨trivial,rfl⟩
  | slice x n c=>exact ⟨trivial,rfl⟩
  | agg _=>simp [Value.oneCell'] at h
  | tuple _=>simp [Value.oneCell'] at h
  | int _ _=>exact ⟨trivial,rfl⟩
  | string _=>exact ⟨trivial,rfl⟩
  | _=>exact ⟨rfl,rfl⟩
theorem St.ev (st : St N env m a w) {o : Operand} {f : SV → Prop} (h : ev env o f) : ∃ x,f x ∧ x.ok m.B ∧ a.eval o = x.den m.B:=by
  cases o with
  | tmp t =>
    obtain ⟨x,hf,hk,hx⟩:=st.look h;exact ⟨x,hf,hk,by simp [Act.eval,hx]⟩
  | const v =>
    simp only [Sx.ev] at h
    have plain : v.oneCell' = true → f (.c (ofValue v)) → ∃ x,f x ∧ SV.ok m.B x ∧ a.eval (.const v) = SV.den m.B x:=fun h1 hf =>
      ⟨_,hf,(q7e m.B h1).1,(q7e m.B h1).2.symm⟩
    cases v with
    | agg cs =>
      refine ⟨_,h.2,?_,?_⟩
      · intro s hs
        simp at hs
        subst hs;refine ⟨by simp,fun v hv=>?_⟩;have:=Array.all_eq_true_iff_forall_mem.1 h.1 v (Array.mem_toList_iff.1 hv);exact this
      · simp [Act.eval,SV.den,dens,Seg.den]
    | tuple _=>exact h.elim
    | _=>exact plain rfl h
  | global g=>exact ⟨_,h,trivial,rfl⟩
  | func n=>exact ⟨_,h,rfl,rfl⟩
theorem St.evs (st : St N env m a w) : ∀ {os : List Operand} {f : List SV → Prop},evs env os f → ∃ l,f l ∧ (∀ x ∈ l,x.ok m.B) ∧ os.map a.eval = l.map (SV.den m.B)
  | [],_,h=>⟨[],h,by simp,rfl⟩
  | o :: r,f,h=>by
    obtain ⟨x,hf,hk,hx⟩:=st.ev h;obtain ⟨l,hf,hl,hm⟩:=st.evs hf;refine ⟨x :: l,hf,?_,by simp [hx,hm]⟩;intro y hy
    rcases List.mem_cons.1 hy with rfl | hy
    · exact hk
    · exact hl y hy
theorem St.get (st : St N env m a w) : sat m.props w:=st.s
def Ends (m : M) (f : SV → M → Prop) (v : Value) (w' : World) : Prop :=
  ∃ x m',v = x.den m'.B ∧ x.ok m'.B ∧ Ext m.B m'.B ∧ m'.ok ∧ sat m'.props w' ∧ f x m'
def Gives (P : Program) (a : Act) (o : Oper) (m : M) (w : World) (f : SV → M → Prop) : Prop :=
  ∃ v w',((Go.execOp a.eval o).run P w = .ok (.value v) w' ∨ ((Go.execOp a.eval o).run P w = .ok .skip w' ∧ v = undef)) ∧ Ends m f v w'
def qmq (P : Program) (a : Act) (o : Oper) (m : M) (w : World) (f : SV → M → Prop) : Prop :=
  ∃ n args,(Go.execOp a.eval o).run P w = .ok (.enter n args) w ∧ Calls P n args w fun e w'=>∃ v,e = .returned v ∧ Ends m f v w'
def qpv (P : Program) (a : Act) (o : Oper) (m : M) (w : World) (f : SV → M → Prop) : Prop :=
  ∃ l fn tmps assign body,(Go.execOp a.eval o).run P w = .ok (.round l fn tmps assign body) w ∧ RoundIn Fence.wide 0 P l fn tmps assign body w fun e w'=>∃ v,e = .returned v ∧ Ends m f v w'
theorem Ends.mono {f g : SV → M → Prop} {v : Value} {w' : World} (h : Ends m f v w') (i : ∀ x m',f x m' → g x m') : Ends m g v w' :=
  let ⟨x,m',a,b,c,d,e,hf⟩:=h;⟨x,m',a,b,c,d,e,i _ _ hf⟩
theorem q8r {B : Names} {H1 H2 : List Chunk} {F : List HP} {i t : Nat} {s : List Seg} :
    (M.mk B (H1 ++ (i,s,t) :: H2) F).props = H1.map (Chunk.p B) ++ blk (bl B i) (.cells (dens B s).toArray t) :: (H2.map (Chunk.p B) ++ F):=by
  simp [M.props,Chunk.p]
theorem q2c {B : Names} {H1 H2 : List Chunk} {F : List HP} {i t : Nat} {s : List Seg} {w : World} (h : sat (M.mk B (H1 ++ (i,s,t) :: H2) F).props w) :
    w.heap[bl B i]? = some (.cells (dens B s).toArray t):=by
  rw [q8r] at h;exact qdu (q19.1 h)
theorem q60 {B : Names} {H1 H2 : List Chunk} {F : List HP} {i t : Nat} {s s' : List Seg} {w : World} (h : sat (M.mk B (H1 ++ (i,s,t) :: H2) F).props w)
    (ok : (M.mk B (H1 ++ (i,s,t) :: H2) F).ok) (ks : ∀ x ∈ s',x.ok B) :
    sat (M.mk B (H1 ++ (i,s',t) :: H2) F).props (w.setRow (bl B i) (dens B s').toArray) ∧ (M.mk B (H1 ++ (i,s',t) :: H2) F).ok:=by
  constructor
  · have hb:=q2c h;rw [q8r] at h ⊢;have:=q2y (cs':=(dens B s').toArray) hb;exact q19.2 (q36 (q19.1 h) this.1 this.2)
  · intro c hc
    rcases List.mem_append.1 hc with hc | hc
    · exact ok c (by simp [hc])
    · rcases List.mem_cons.1 hc with rfl | hc
      · exact ⟨(ok (i,s,t) (by simp)).1,ks⟩
      · exact ok c (by simp [hc])
theorem qi7 {d : Nat} {segs : List Seg} {t : Nat} {f : M → Prop} (h : newB m d segs t f) (k : m.ok) (ks : ∀ s ∈ segs,s.ok m.B) (s : sat m.props w) :
    ∃ m',f m' ∧ Ext m.B m'.B ∧ m'.ok ∧ sat m'.props (w.alloc (.cells (dens m.B segs).toArray t)) ∧ (SC.ptr d 0).ok m'.B ∧ bl m'.B d = w.heap.size:=by
  cases m with
  | mk B H F =>
  simp only [newB] at h;have hsm:=q5l h;obtain ⟨hd,h⟩:=q6s h;have he : Ext B ((d,w.heap.size) :: B):=.inr ⟨d,_,qah hsm hd,rfl⟩;refine ⟨_,h w.heap.size,he,?_,?_,?_,?_⟩
  · intro c hc
    rcases List.mem_cons.1 hc with rfl | hc
    · exact ⟨by rw [q4l];exact .inl rfl,(q7t he ks).1⟩
    · have:=k c hc;exact ⟨(he.has this.1).1,(q7t he this.2).1⟩
  · have e1 : H.map (Chunk.p ((d,w.heap.size) :: B)) = H.map (Chunk.p B):=by
      refine List.map_congr_left fun c hc=>?_;have:=k c hc;simp only [Chunk.p];rw [(he.has this.1).2,(q7t he this.2).2]
    have e2 : Chunk.p ((d,w.heap.size) :: B) (d,segs,t) = blk w.heap.size (.cells (dens B segs).toArray t):=by
      simp only [Chunk.p,qb2,if_true,(q7t he ks).2]
    simp only [M.props,List.map_cons,e1,e2,List.cons_append];exact q3d s (heap_alloc_new _ _) (fun c hc=>heap_alloc_old _ _ _ hc)
  · simp only [SC.ok];rw [q4l];exact .inl rfl
  · simp [qb2]
end
end Go.Sx
namespace Go.Sx
section
variable {P : Program} {tt : TT} {N : Nat} {env : Env} {m : M} {a : Act} {w : World} {o : Oper} {f : SV → M → Prop}
theorem gives {s : Sem Value} {v : Value} {w' : World} (e : Go.execOp a.eval o = (do pure (.value (← s)))) (hr : s.run P w = .ok v w') (he : Ends m f v w') : Gives P a o m w f :=
  ⟨v,w',.inl (by rw [e];simp [hr]),he⟩
theorem q9z {s : Sem Unit} {w' : World} (e : Go.execOp a.eval o = (do s;pure .skip)) (hr : s.run P w = .ok () w') (he : Ends m f undef w') : Gives P a o m w f :=
  ⟨undef,w',.inr ⟨by rw [e];simp [hr],rfl⟩,he⟩
theorem RunOb.spec {s : Sem Value} (h : RunOb P s m f) (st : St N env m a w) : ∃ v w',s.run P w = .ok v w' ∧ Ends m f v w':=by
  obtain ⟨v,w',hr,x,m',e,kx,km,hs,hb,hf⟩:=h.h st.k w st.s;exact ⟨v,w',hr,x,m',e,kx,hb,km,hs,hf⟩
theorem q4p {n : Nat} (hr : Runs P n) (args : Array Value) : (callFunc n args).run P w = .ok (.enter n args) w:=by
  obtain ⟨fd,h1,h2,h3⟩:=hr;simp only [callFunc,Sem.run_bind,run_program,Result.andThen_ok,h1];rw [h3,h2]
  simp
theorem Cq.spec {n : Nat} {args : List SV} {g : SV → List Chunk → List HP → Prop} (h : Cq P n args m g) (st : St N env m a w)
    (e : (Go.execOp a.eval o).run P w = (callFunc n (args.map (SV.den m.B)).toArray).run P w) (i : ∀ x H F,g x H F → f x ⟨m.B,H,F⟩) : Gives P a o m w f ∨ qmq P a o m w f:=by
  rcases h.c with ⟨hr,h⟩ | h
  · refine .inr ⟨n,(args.map (SV.den m.B)).toArray,by rw [e,q4p hr],(h st.k w st.s).mono ?_⟩;rintro e w' ⟨x,H,F,he,kx,hs,hk,hf⟩;exact ⟨_,he,x,⟨m.B,H,F⟩,rfl,kx,.inl rfl,hk,hs,i _ _ _ hf⟩
  · obtain ⟨x,H,F,he,kx,hs,hk,hf⟩:=h st.k w st.s;exact .inl ⟨_,w,.inl (by rw [e,he]),x,⟨m.B,H,F⟩,rfl,kx,.inl rfl,hk,hs,i _ _ _ hf⟩
theorem qgy (ok : tt.ok P) {t : Nat} {x : SC} (km : m.ok) (h : loadA P tt m t x f) :
    ∃ v : SV,v.ok m.B ∧ f v m ∧ ∀ w,sat m.props w → (Instr.loadAt t (x.den m.B)).run P w = .ok (v.den m.B) w:=by
  obtain ⟨y,T,h⟩:=q0c ok h
  cases m with
  | mk B H F =>
  have run : ∀ w b off,x.den B = .pointer (some ⟨b,off,none⟩) → (Instr.loadAt t (x.den B)).run P w = (loadVar t ⟨b,off,none⟩).run P w:=fun w b off e=>by
    rw [e];simp [Instr.loadAt,Instr.sureAddr]
  cases x with
  | ptr i off =>
    simp only at h;obtain ⟨H1,s,t',H2,put,rfl,h,_⟩:=q2f h;have ks:=(km (i,s,t') (by simp)).2;obtain ⟨v,hf,kv,hv⟩:=q5a ks h;refine ⟨v,kv,hf,fun w hs=>?_⟩;rw [run _ _ _ rfl];exact q1f T (q2c hs) hv
  | elt i off j =>
    simp only at h;obtain ⟨H1,s,t',H2,put,rfl,h,_⟩:=q2f h;have ks:=(km (i,s,t') (by simp)).2;obtain ⟨p,q,e,hl,kp,kq,h⟩:=q3q (B:=B) ks h
    cases q with
    | nil=>exact h.elim
    | cons q r =>
      cases q with
      | one _ =>
        obtain ⟨v,hf,kv,hv⟩:=q5a ks h;refine ⟨v,kv,hf,fun w hs=>?_⟩;rw [run _ _ _ rfl];exact q1f T (q2c hs) hv
      | many n l =>
        have kl:=kq (.many n l) (by simp)
        have hcells : ∀ w,sat (M.props ⟨B,H1 ++ (i,s,t') :: H2,F⟩) w → w.heap[bl B i]? = some (.cells (dens B p ++ (Seg.den B (.many n l) ++ dens B r)).toArray t'):=by
          intro w hs;have:=q2c hs;rw [e,q20] at this;exact this
        have hdrop : (dens B p ++ (Seg.den B (.many n l) ++ dens B r)).drop (off + j) = l.drop j ++ (dens B r).drop (j - l.length):=by
          rw [← hl,List.drop_append];simp only [Seg.den];rw [List.drop_eq_nil_of_le (by omega),List.nil_append,show (dens B p).length + j - (dens B p).length = j by omega,List.drop_append]
        cases hk : y.k.agg with
        | true =>
          rw [hk] at h;obtain ⟨hj,hf⟩:=h;refine ⟨.agg [.many y.size ((l.drop j).take y.size)],?_,hf,fun w hs=>?_⟩
          rotate_left
          · rw [run _ _ _ rfl];refine q1f T (hcells w hs) ?_;rw [hk];simp only [if_true];have:=kl.1;refine ⟨by rw [List.length_append,List.length_append,hl];simp only [Seg.den];omega,?_⟩;rw [hdrop,List.take_append_of_le_length (by simp;omega)]
            simp [SV.den,dens,Seg.den]
          · intro s' hs
            simp at hs
            subst hs;refine ⟨by have:=kl.1;simp;omega,fun v hv=>kl.2 v (List.mem_of_mem_drop (List.mem_of_mem_take hv))⟩
        | false =>
          rw [hk] at h;obtain ⟨v,hv,kv,hf⟩:=h.h;refine ⟨SV.c v,(show SV.ok B (.c v) from kv),hf,fun w hs=>?_⟩;rw [run _ _ _ rfl];refine q1f T (hcells w hs) ?_;rw [hk];simp only [Bool.false_eq_true,if_false]
          have hj : j < l.length:=by
            rcases Nat.lt_or_ge j l.length with h | h
            · exact h
            · rw [List.getElem?_eq_none h] at hv;cases hv
          have : (dens B p ++ (Seg.den B (.many n l) ++ dens B r))[off + j]? = ((dens B p ++ (Seg.den B (.many n l) ++ dens B r)).drop (off + j))[0]?:=by simp
          rw [this,hdrop,List.getElem?_append_left (by simp;omega)];simp only [List.getElem?_drop,Nat.add_zero];exact hv
  | rp b off =>
    obtain ⟨v,kv,hf,hr⟩:=(h.h T).h;exact ⟨v,kv,hf,fun w hs=>by rw [run _ _ _ rfl];exact hr km w hs⟩
  | _=>exact h.elim
theorem qdn (ok : tt.ok P) {t : Nat} {x : SC} {v : SV} {g : M → Prop} (st : St N env m a w) (kv : v.ok m.B) (h : qmm P tt m t x v g) :
    ∃ w',(Instr.storeAt t (x.den m.B) (v.den m.B)).run P w = .ok () w' ∧ ∃ m',Ext m.B m'.B ∧ m'.ok ∧ sat m'.props w' ∧ g m':=by
  obtain ⟨y,T,h⟩:=q0c ok h
  cases m with
  | mk B H F =>
  have run : ∀ b off,x.den B = .pointer (some ⟨b,off,none⟩) → (Instr.storeAt t (x.den B) (v.den B)).run P w = (storeVar t ⟨b,off,none⟩ (v.den B)).run P w:=fun b off e=>by
    rw [e];simp [Instr.storeAt,Instr.sureAddr]
  cases x with
  | ptr i off =>
    simp only at h;obtain ⟨xs,h,kxs,hxs⟩:=q48 kv h
    cases hz : Nat.beq (q2a xs) y.size with
    | false=>rw [hz] at h;exact h.elim
    | true =>
    rw [hz] at h;have hlen : (dens B xs).length = y.size:=by rw [q0y kxs,Nat.eq_of_beq_eq_true hz]
    obtain ⟨H1,s,t',H2,put,rfl,h,hput⟩:=q2f h;have ks:=(st.k (i,s,t') (by simp)).2;obtain ⟨l,h,kl,hfit,hl⟩:=q6j ks kxs h;have hw:=q60 (s':=l) st.s st.k kl;refine ⟨_,?_,⟨B,H1 ++ (i,l,t') :: H2,F⟩,.inl rfl,hw.2,hw.1,hput _ _ h⟩;rw [run _ _ rfl,hl];exact q3k T (q2c st.s) hxs hlen (q0q kxs) hfit
  | elt i off j =>
    simp only at h;obtain ⟨xs,h,kxs,hxs⟩:=q48 kv h;obtain ⟨H1,s,t',H2,put,rfl,h,hput⟩:=q2f h;have ks:=(st.k (i,s,t') (by simp)).2;obtain ⟨p,q,e,hl,kp,kq,h⟩:=q3q (B:=B) ks h
    cases q with
    | nil=>exact h.elim
    | cons q r =>
      cases q with
      | one _ =>
        have h : (match Nat.beq (q2a xs) y.size with
          | true=>putV s (off + j) y.size xs fun segs'=>put segs' fun H'=>g ⟨B,H',F⟩
          | false=>False):=h
        cases hz : Nat.beq (q2a xs) y.size with
        | false=>rw [hz] at h;exact h.elim
        | true =>
        rw [hz] at h;have hlen : (dens B xs).length = y.size:=by rw [q0y kxs,Nat.eq_of_beq_eq_true hz]
        obtain ⟨l,h,kl,hfit,hl⟩:=q6j ks kxs h;have hw:=q60 (s':=l) st.s st.k kl;refine ⟨_,?_,⟨B,H1 ++ (i,l,t') :: H2,F⟩,.inl rfl,hw.2,hw.1,hput _ _ h⟩;rw [run _ _ rfl,hl];exact q3k T (q2c st.s) hxs hlen (q0q kxs) hfit
      | many n l =>
        obtain ⟨⟨hz,hj⟩,h⟩:=h;have hlen : (dens B xs).length = y.size:=by rw [q0y kxs,hz]
        have kl:=kq (.many n l) (by simp);have kl1:=kl.1
        have kall : ∀ s ∈ p ++ (Seg.many n (l.take j ++ (dens B xs ++ l.drop (j + y.size))) :: r),s.ok B:=by
          intro s' hs
          rcases List.mem_append.1 hs with hs | hs
          · exact kp s' hs
          · rcases List.mem_cons.1 hs with rfl | hs
            · refine ⟨by simp [hlen];omega,fun v hv=>?_⟩
              rcases List.mem_append.1 hv with hv | hv
              · exact kl.2 v (List.mem_of_mem_take hv)
              · rcases List.mem_append.1 hv with hv | hv
                · exact q0q kxs v hv
                · exact kl.2 v (List.mem_of_mem_drop hv)
            · exact kq s' (by simp [hs])
        have hw:=q60 (s':=p ++ (Seg.many n (l.take j ++ (dens B xs ++ l.drop (j + y.size))) :: r)) st.s st.k kall;refine ⟨_,?_,⟨B,H1 ++ (i,p ++ (Seg.many n (l.take j ++ (dens B xs ++ l.drop (j + y.size))) :: r),t') :: H2,F⟩,.inl rfl,hw.2,hw.1,hput _ _ h⟩;rw [run _ _ rfl]
        have hfit : off + j + y.size ≤ (dens B s).length:=by
          rw [e,q20];simp only [Seg.den,List.length_append];omega
        rw [q3k T (q2c st.s) hxs hlen (q0q kxs) hfit];congr 3;rw [e,q20,q4e,q20];simp only [Seg.den];rw [← hl,List.take_append,List.take_of_length_le (by omega),show (dens B p).length + j - (dens B p).length = j by omega,List.take_append_of_le_length (by omega)];rw [show (dens B p).length + j + y.size = (dens B p).length + (j + y.size) by omega,← List.drop_drop,List.drop_left,List.drop_append_of_le_length (by omega)]
        simp
  | rp b off =>
    obtain ⟨v',w',hr,x,m',e,kx,hB,km,hs,hf⟩:=RunOb.spec (h.h T) st;refine ⟨w',?_,m',hB,km,hs,hf⟩;rw [run _ _ rfl];simp only [Sem.run_bind] at hr
    cases hq : (storeVar t ⟨b,off,none⟩ (v.den B)).run P w with
    | ok u w''=>rw [hq] at hr;simp at hr;rw [hr.2]
    | halt u w''=>rw [hq] at hr;simp at hr
  | _=>exact h.elim
end
end Go.Sx
namespace Go.Sx
section
variable {P : Program} {tt : TT} {B : Names} {w : World} {f : SV → Prop}
def OpTo (P : Program) (B : Names) (s : Sem Value) (f : SV → Prop) : Prop:=∃ v : SV,(∀ w,s.run P w = .ok (v.den B) w) ∧ v.ok B ∧ f v
theorem OpTo.mk' {s : Sem Value} {v : SV} (r : ∀ w,s.run P w = .ok (v.den B) w) (k : v.ok B) (h : f v) : OpTo P B s f:=⟨v,r,k,h⟩
theorem qd2 {op : BinOp} {t : Nat} {X Y : Operand} {a b : Value} (h : a.oneCell' = true) (h' : a ≠ .nilIface) : (eqGuard op t X Y a b).run P w = .ok () w:=by
  unfold eqGuard;cases op <;> cases a <;> first | rfl | (exact absurd rfl h') | (simp [Value.oneCell'] at h)
theorem qdt {op : BinOp} {t : Nat} {k : IntKind} {a b : Int} (hs : op ≠ .shl ∧ op ≠ .shr) (h : qar op k a b f) : OpTo P B (binOp op t (.int k a) (.int k b)) f:=by
  have e : binOp op t (.int k a) (.int k b) = (match op with
    | .add | .sub | .mul=>Op.intArith op k a b
    | .quo | .rem=>Op.intDiv op k a b
    | .and | .or | .xor | .andNot=>Op.intBits op k a b
    | _=>Op.intCmp op a b):=by
    cases op <;> first | (exact absurd rfl hs.1) | (exact absurd rfl hs.2) | simp [binOp]
  rw [e];cases op <;> simp only [qar] at h
  case shl=>exact absurd rfl hs.1
  case shr=>exact absurd rfl hs.2
  case quo=>exact .mk' (v:=.c (.int k (k.wrap (a.tdiv b)))) (by intro w;simp [Op.intDiv,h.1,SV.den,SC.den]) trivial h.2.h
  case rem=>exact .mk' (v:=.c (.int k (a.tmod b))) (by intro w;simp [Op.intDiv,h.1,SV.den,SC.den]) trivial h.2
  case add=>exact .mk' (v:=.c (.int k (k.wrap (a + b)))) (fun _=>rfl) trivial h.h
  case sub=>exact .mk' (v:=.c (.int k (k.wrap (a - b)))) (fun _=>rfl) trivial h.h
  case mul=>exact .mk' (v:=.c (.int k (k.wrap (a * b)))) (fun _=>rfl) trivial h.h
  all_goals (refine ⟨_,?_,?_,h⟩ <;> first | exact fun _=>rfl | trivial)
theorem q6b {op : BinOp} {t : Nat} {k k' : IntKind} {a b : Int} (hs : op = .shl ∨ op = .shr) (h : qar op k a b f) : OpTo P B (binOp op t (.int k a) (.int k' b)) f:=by
  rcases hs with rfl | rfl <;> simp only [qar] at h
  · refine .mk' (v:=.c (.int k (k.wrap (a * 2 ^ (min b.toNat k.bits))))) ?_ trivial h.2.h;have:=h.1;intro w
    simp [binOp,Op.shift,SV.den,SC.den,show ¬ b < 0 by omega]
  · refine .mk' (v:=.c (.int k (a.fdiv (2 ^ (min b.toNat k.bits))))) ?_ trivial h.2;have:=h.1;intro w
    simp [binOp,Op.shift,SV.den,SC.den,show ¬ b < 0 by omega]
theorem q8f {t : Nat} {x y : Value} {b : Bool} (h : ∀ d,(Op.equalIn (d + 1) t x y).run P w = .ok b w) : (Op.equal t x y).run P w = .ok b w:=h 9999
theorem q3t {op : BinOp} {t e : Nat} {x : Value} {same : Bool} (hu : P.underlying t = some (.pointer e)) (hx : if same then x = .pointer none else ∃ a,x = .pointer (some a))
    (h : q50 op same f) : OpTo P B (binOp op t x (.pointer none)) f:=by
  have run : ∀ w,(Op.equal t x (.pointer none)).run P w = .ok same w:=by
    intro w;refine q8f fun d=>?_;simp only [Op.equalIn,Sem.run_bind,run_underlying hu,Result.andThen_ok]
    cases same with
    | true=>simp at hx;subst hx;rfl
    | false=>simp at hx;obtain ⟨a,rfl⟩:=hx;rfl
  have hb : ∃ y,x = .pointer y:=by
    cases same with
    | true=>simp at hx;exact ⟨_,hx⟩
    | false=>simp at hx;obtain ⟨a,rfl⟩:=hx;exact ⟨_,rfl⟩
  obtain ⟨y,rfl⟩:=hb;cases op <;> simp only [q50,isEq] at h <;> first | exact h.elim | skip
  · cases same
    · exact .mk' (v:=.c .ff) (by intro w;simp [binOp,run,SV.den,SC.den]) trivial h
    · exact .mk' (v:=.c .tt) (by intro w;simp [binOp,run,SV.den,SC.den]) trivial h
  · cases same
    · exact .mk' (v:=.c .tt) (by intro w;simp [binOp,run,SV.den,SC.den]) trivial h
    · exact .mk' (v:=.c .ff) (by intro w;simp [binOp,run,SV.den,SC.den]) trivial h
theorem q57 (ok : tt.ok P) {t : Nat} {p : Prop} (h : isPtr tt t p) : p ∧ ∃ e,P.underlying t = some (.pointer e):=by
  obtain ⟨x,T,h⟩:=q0c ok h;obtain ⟨u,hu,hk,_⟩:=T.und default;cases hx : x.k <;> rw [hx] at h <;> first | exact h.elim | skip
  refine ⟨h,?_⟩;rw [hx] at hk;cases u <;> simp [tkOf] at hk;exact ⟨_,hu⟩
theorem q7g (ok : tt.ok P) {t : Nat} {p : Prop} (h : qds tt t p) : p ∧ ∃ e,P.underlying t = some (.slice e):=by
  obtain ⟨x,T,h⟩:=q0c ok h;obtain ⟨u,hu,hk,_⟩:=T.und default;cases hx : x.k <;> rw [hx] at h <;> first | exact h.elim | skip
  refine ⟨h,?_⟩;rw [hx] at hk;cases u <;> simp [tkOf] at hk;exact ⟨_,hu⟩
theorem qgr (ok : tt.ok P) {t : Nat} {p : Prop} (h : isMap tt t p) : p ∧ ∃ k e,P.underlying t = some (.map k e):=by
  obtain ⟨x,T,h⟩:=q0c ok h;obtain ⟨u,hu,hk,_⟩:=T.und default;cases hx : x.k <;> rw [hx] at h <;> first | exact h.elim | skip
  refine ⟨h,?_⟩;rw [hx] at hk;cases u <;> simp [tkOf] at hk;exact ⟨_,_,hu⟩
theorem qex (ok : tt.ok P) {t : Nat} {p : Prop} (h : qn6 tt t p) : p ∧ P.underlying t = some .bool:=by
  obtain ⟨x,T,h⟩:=q0c ok h;obtain ⟨u,hu,hk,_⟩:=T.und default;cases hx : x.k <;> rw [hx] at h <;> first | exact h.elim | skip
  refine ⟨h,?_⟩;rw [hx] at hk;cases u <;> simp [tkOf] at hk;exact hu
theorem q7x {t e : Nat} (hu : P.underlying t = some (.slice e)) (a : Option Addr) (n c n' c' : Nat) :
    (Op.equal t (.slice a n c) (.slice none n' c')).run P w = .ok a.isNone w:=by
  refine q8f fun d=>?_;simp only [Op.equalIn,Sem.run_bind,run_underlying hu,Result.andThen_ok];cases a <;> rfl
theorem qr4 {t k e : Nat} (hu : P.underlying t = some (.map k e)) (a : Option Nat) :
    (Op.equal t (.map a) (.map none)).run P w = .ok a.isNone w:=by
  refine q8f fun d=>?_;simp only [Op.equalIn,Sem.run_bind,run_underlying hu,Result.andThen_ok];cases a <;> rfl
theorem qok {t : Nat} (hu : P.underlying t = some .bool) (a b : Bool) : (Op.equal t (.bool a) (.bool b)).run P w = .ok (a == b) w:=by
  refine q8f fun d=>?_;simp only [Op.equalIn,Sem.run_bind,run_underlying hu,Result.andThen_ok];rfl
theorem q47 {x : SC} {g : Bool → Prop} (h : qcm x g) : ∃ b,x.den B = .bool b ∧ g b:=by
  cases x <;> first | exact h.elim | exact ⟨_,rfl,h⟩
theorem qjy (ok : tt.ok P) {op : BinOp} {t : Nat} {x y : SV} (kx : x.ok B) (X Y : Operand) (h : binV P tt op t B x y f) :
    OpTo P B (do eqGuard op t X Y (x.den B) (y.den B);binOp op t (x.den B) (y.den B)) f:=by
  have plain : (∀ z : SC,x = .c z → z.den B ≠ .nilIface → OpTo P B (binOp op t (x.den B) (y.den B)) f → OpTo P B (do eqGuard op t X Y (x.den B) (y.den B);binOp op t (x.den B) (y.den B)) f):=by
    rintro z rfl hz ⟨v,hr,hk,hf⟩;refine ⟨v,fun w=>?_,hk,hf⟩;simp only [Sem.run_bind];rw [show (eqGuard op t X Y (SV.den B (.c z)) (y.den B)).run P w = .ok () w from qd2 (SC.one_cell kx) hz];exact hr w
  unfold binV at h
  split at h
  · rename_i k a k' b
    refine plain _ rfl (by simp [SC.den]) ?_;cases op
    case shl=>exact q6b (.inl rfl) h
    case shr=>exact q6b (.inr rfl) h
    all_goals (obtain ⟨e0,h9⟩:=q51 h;subst e0;exact qdt (by simp) h9)
  · obtain ⟨h,e,hu⟩:=q57 ok h;exact plain _ rfl (by simp [SC.den]) (q3t (same:=false) hu (by simp [SV.den,SC.den]) h)
  · obtain ⟨h,e,hu⟩:=q57 ok h;exact plain _ rfl (by simp [SC.den]) (q3t (same:=false) hu (by simp [SV.den,SC.den]) h)
  · obtain ⟨h,e,hu⟩:=q57 ok h;exact plain _ rfl (by simp [SC.den]) (q3t (same:=false) hu (by simp [SV.den,SC.den]) h)
  · obtain ⟨h,e,hu⟩:=q57 ok h;exact plain _ rfl (by simp [SC.den]) (q3t (same:=true) hu rfl h)
  · rename_i r
    obtain ⟨h,k,e,hu⟩:=qgr ok h;refine plain _ rfl (by simp [SC.den]) ?_;have hr:=fun w=>qr4 (w:=w) hu r;cases op <;> simp only [isEq] at h <;> first | exact h.elim | skip
    · exact .mk' (v:=.c (.bool r.isNone)) (by intro w;simp [binOp,SV.den,SC.den,hr]) trivial h
    · exact .mk' (v:=.c (.bool (!r.isNone))) (by intro w;simp [binOp,SV.den,SC.den,hr]) trivial h
  · rename_i a n c n' c'
    obtain ⟨h,e,hu⟩:=q7g ok h;refine plain _ rfl (by simp [SC.den]) ?_;have hr:=fun w=>q7x (w:=w) hu a n c n' c';cases op <;> simp only [isEq] at h <;> first | exact h.elim | skip
    · exact .mk' (v:=.c (.bool a.isNone)) (by intro w;simp [binOp,SV.den,SC.den,hr]) trivial h
    · exact .mk' (v:=.c (.bool (!a.isNone))) (by intro w;simp [binOp,SV.den,SC.den,hr]) trivial h
  · rename_i i off n c n' c'
    obtain ⟨h,e,hu⟩:=q7g ok h;refine plain _ rfl (by simp [SC.den]) ?_;have hr:=fun w=>q7x (w:=w) hu (some ⟨bl B i,off,none⟩) n c n' c';cases op <;> simp only [q50,isEq] at h <;> first | exact h.elim | skip
    · exact .mk' (v:=.c .ff) (by intro w;simp [binOp,SV.den,SC.den,hr]) trivial h
    · exact .mk' (v:=.c .tt) (by intro w;simp [binOp,SV.den,SC.den,hr]) trivial h
  · rename_i a b
    refine plain _ rfl (by simp [SC.den]) ?_;cases op <;> first | exact h.elim | skip
    · refine .mk' (v:=.c (.str (a ++ b))) ?_ trivial h.2;have h1:=h.1;intro w;simp only [SV.den,SC.den,binOp,Op.stringOp];rw [if_neg (by simp only [IntKind.max,IntKind.signed,IntKind.bits];simp;omega)];rfl
    · exact .mk' (v:=.c (.bool (a.toList == b.toList))) (fun _=>rfl) trivial h
    · exact .mk' (v:=.c (.bool (!(a.toList == b.toList)))) (fun _=>rfl) trivial h
  · rename_i l m'
    have key : ∀ e : Bool,(op = if e then .eql else .neq) → EqAgg P t (dens B l) (dens B m') (fun b=>match e with | true=>f (.c (.bool b)) | false=>f (.c (.bool (!b)))) →
        OpTo P B (do eqGuard op t X Y (SV.den B (.agg l)) (SV.den B (.agg m'));binOp op t (SV.den B (.agg l)) (SV.den B (.agg m'))) f:=by
      intro e he hq;obtain ⟨b,hr0,hf⟩:=hq.h
      cases e with
      | true =>
        subst he;refine .mk' (v:=.c (.bool b)) (fun w=>?_) trivial hf;have hr:=hr0 w;simp only [SV.den,SC.den,binOp,if_true];simp only [Sem.run_bind] at hr ⊢;have hg : (eqGuard BinOp.eql t X Y (Value.agg (dens B l).toArray) (Value.agg (dens B m').toArray)).run P w = (eqGuard BinOp.eql t (.tmp 0) (.tmp 0) (Value.agg (dens B l).toArray) (Value.agg (dens B m').toArray)).run P w:=rfl;rw [hg]
        cases hh : (eqGuard BinOp.eql t (.tmp 0) (.tmp 0) (Value.agg (dens B l).toArray) (Value.agg (dens B m').toArray)).run P w with
        | halt x w'=>rw [hh] at hr;simp at hr
        | ok u w' =>
          rw [hh] at hr;simp only [Result.andThen_ok] at hr ⊢;rw [hr];rfl
      | false =>
        subst he;refine .mk' (v:=.c (.bool (!b))) (fun w=>?_) trivial hf;have hr:=hr0 w;simp only [SV.den,SC.den,binOp,if_false,Bool.false_eq_true];simp only [Sem.run_bind] at hr ⊢;have hg : (eqGuard BinOp.neq t X Y (Value.agg (dens B l).toArray) (Value.agg (dens B m').toArray)).run P w = (eqGuard BinOp.eql t (.tmp 0) (.tmp 0) (Value.agg (dens B l).toArray) (Value.agg (dens B m').toArray)).run P w:=rfl;rw [hg]
        cases hh : (eqGuard BinOp.eql t (.tmp 0) (.tmp 0) (Value.agg (dens B l).toArray) (Value.agg (dens B m').toArray)).run P w with
        | halt x w'=>rw [hh] at hr;simp at hr
        | ok u w' =>
          rw [hh] at hr;simp only [Result.andThen_ok] at hr ⊢;rw [hr];rfl
    cases op <;> simp only [isEq] at h <;> first | exact h.elim | skip
    · exact key true rfl h
    · exact key false rfl h
  · rename_i x y _ _ _ _ _ _ _ _
    obtain ⟨h,hu⟩:=qex ok h;obtain ⟨p,hp,h⟩:=q47 (B:=B) h;obtain ⟨q,hq,h⟩:=q47 (B:=B) h;refine plain _ rfl (by rw [hp];simp) ?_;have hr:=fun w=>qok (w:=w) hu p q;simp only [SV.den,hp,hq];cases op <;> simp only [isEq] at h <;> first | exact h.elim | skip
    · exact .mk' (v:=.c (.bool (p == q))) (by intro w;simp [binOp,SV.den,SC.den,hr]) trivial h
    · exact .mk' (v:=.c (.bool (p != q))) (by intro w;simp [binOp,SV.den,SC.den,hr,bne]) trivial h
  · exact h.elim
end
end Go.Sx
namespace Go.Sx
section
variable {P : Program} {tt : TT} {B : Names} {w : World}
theorem qdd : ∀ (xs : List Value) (k off : Nat) (L : List Value),off + k + xs.length ≤ L.length →
    ((xs.zipIdx k).foldl (fun (cs : Array Value) (p : Value × Nat)=>cs.setIfInBounds (off + p.2) p.1) L.toArray) = (L.take (off + k) ++ (xs ++ L.drop (off + k + xs.length))).toArray
  | [],k,off,L,_=>by simp
  | x :: xs,k,off,L,h=>by
    simp only [List.zipIdx_cons,List.foldl_cons,List.setIfInBounds_toArray];simp only [List.length_cons] at h;rw [qdd xs (k + 1) off (L.set (off + k) x) (by simp;omega)];congr 1
    have h1 : (L.set (off + k) x).take (off + (k + 1)) = L.take (off + k) ++ [x]:=by
      rw [show off + (k + 1) = (off + k) + 1 by omega,List.take_add_one,List.take_set_of_le (by omega)]
      simp [show off + k < L.length by omega]
    have h2 : (L.set (off + k) x).drop (off + (k + 1) + xs.length) = L.drop (off + k + (x :: xs).length):=by
      rw [List.drop_set_of_lt (by omega)];simp only [List.length_cons];congr 1;omega
    rw [h1,h2]
    simp
theorem qag {place : Nat → Option (Nat × Nat)} {size : Nat → (Nat → Nat → Prop) → Prop} (hs : ∀ i g,size i g → ∃ off n,place i = some (off,n) ∧ g off n) :
    ∀ {ps : List (Nat × SV)} {segs : List Seg} {f : List Seg → Prop},(∀ s ∈ segs,s.ok B) → (∀ p ∈ ps,p.2.ok B) → fills size segs ps f →
    ∃ l,f l ∧ (∀ s ∈ l,s.ok B) ∧ Instr.fill place (dens B segs).toArray (ps.map fun p=>(p.1,p.2.den B)) = some (dens B l).toArray
  | [],segs,f,k,_,h=>⟨segs,h,k,rfl⟩
  | (i,x) :: r,segs,f,k,kp,h=>by
    obtain ⟨off,n,hpl,h⟩:=hs _ _ h;have kx:=kp (i,x) (by simp);obtain ⟨xs,h,kxs,hxs⟩:=q48 kx h
    cases hz : Nat.beq (q2a xs) n with
    | false=>rw [hz] at h;exact h.elim
    | true =>
    rw [hz] at h;have hlen : (dens B xs).length = n:=by rw [q0y kxs,Nat.eq_of_beq_eq_true hz]
    obtain ⟨l,h,kl,hfit,hl⟩:=q6j k kxs h;obtain ⟨l',h,kl',hf⟩:=qag hs kl (fun p hp=>kp p (by simp [hp])) h;refine ⟨l',h,kl',?_⟩;have hcs : (x.den B).cells = (dens B xs).toArray:=by rw [← hxs]
    simp only [List.map_cons,Instr.fill,hpl];rw [if_neg (by simp [hcs,hlen];omega)];have:=qdd (dens B xs) 0 off (dens B segs) (by omega);simp only [Nat.add_zero,hlen] at this;rw [← hf,hl,← this];congr 1;rw [hcs]
    simp
theorem q6d : ∀ {l : List (Nat × Nat)} {i : Nat} {f : Nat → Nat → Prop},nthF l i f → ∃ o t,l[i]? = some (o,t) ∧ f o t
  | [],_,_,h=>h.elim
  | (o,t) :: r,0,f,h=>⟨o,t,rfl,h⟩
  | (o,t) :: r,i + 1,f,h=>by
    obtain ⟨o',t',e,hf⟩:=q6d (l:=r) h;exact ⟨o',t',by simpa using e,hf⟩
theorem q9n (ok : tt.ok P) : ∀ {l : List Field} {f : List (Nat × Nat) → Prop},qim tt (l.map fun x=>(x.offset,x.type)) f →
    ∃ ps,f ps ∧ l.mapM (fun f=>(P.info? f.type).map fun i=>(f.offset,i.size)) = some ps
  | [],f,h=>⟨[],h,rfl⟩
  | x :: r,f,h=>by
    obtain ⟨y,T,h⟩:=q0c ok h;obtain ⟨ps,hf,hp⟩:=q9n ok (l:=r) h;obtain ⟨i,u,z,hi,hu,hk,hsz,_⟩:=T.h;exact ⟨_,hf,by simp [List.mapM_cons,hi,hp,hsz]⟩
theorem q78 {t : Nat} {x : TyX} {fs : List (Nat × Nat)} (T : Ty P t x) (h : x.k = .struct fs) : ∃ fields,P.underlying t = some (.struct fields) ∧ fs = fields.toList.map fun f=>(f.offset,f.type):=by
  obtain ⟨u,hu,hk,_⟩:=T.und default;rw [h] at hk;cases u <;> simp [tkOf] at hk;exact ⟨_,hu,hk.symm⟩
theorem q34 {t n e : Nat} {x : TyX} (T : Ty P t x) (h : x.k = .array n e) : P.underlying t = some (.array n e):=by
  obtain ⟨u,hu,hk,_⟩:=T.und default;rw [h] at hk;cases u <;> simp [tkOf] at hk;rw [hu,hk.1,hk.2]
theorem q21 {t e : Nat} {x : TyX} (T : Ty P t x) (h : x.k = .slice e) : P.underlying t = some (.slice e):=by
  obtain ⟨u,hu,hk,_⟩:=T.und default;rw [h] at hk;cases u <;> simp [tkOf] at hk;rw [hu,hk]
theorem qps {t e : Nat} {x : TyX} (T : Ty P t x) (h : x.k = .ptr e) : P.underlying t = some (.pointer e):=by
  obtain ⟨u,hu,hk,_⟩:=T.und default;rw [h] at hk;cases u <;> simp [tkOf] at hk;rw [hu,hk]
theorem qav {t : Nat} {x : TyX} (T : Ty P t x) (h : x.k = .str) : P.underlying t = some .string:=by
  obtain ⟨u,hu,hk,_⟩:=T.und default;rw [h] at hk;cases u <;> simp [tkOf] at hk;exact hu
theorem qpk {t : Nat} {x : TyX} {k : IntKind} (T : Ty P t x) (h : x.k = .int k) : P.underlying t = some (.int k):=by
  obtain ⟨u,hu,hk,_⟩:=T.und default;rw [h] at hk;cases u <;> simp [tkOf] at hk;rw [hu,hk]
section
variable {N : Nat} {env : Env} {m : M} {a : Act}
theorem St.bound (st : St N env m a w) {x : Option Operand} {d : Int} {f : Int → Prop} (h : q0f env x d f) :
    ∃ n,f n ∧ ((x = none ∧ n = d) ∨ ∃ o k,x = some o ∧ a.eval o = .int k n):=by
  cases x with
  | none=>exact ⟨d,h,.inl ⟨rfl,rfl⟩⟩
  | some o =>
    obtain ⟨v,h,kv,he⟩:=st.ev h
    split at h
    · rename_i k n
      exact ⟨_,h,.inr ⟨o,k,rfl,he⟩⟩
    · exact h.elim
theorem q2h {k : IntKind} {n : Int} {y : Nat} {c : BoundsCode} (h : 0 ≤ n ∧ n ≤ y) : (Instr.sliceBound (.int k n) y c).run P w = .ok n.toNat w:=by
  simp [Instr.sliceBound,asIntOf,h]
theorem q2o (st : St N env m a w) {lo hi mx : Option Operand} {len cap : Nat} {f : Int → Int → Int → Prop} (isS : Bool)
    (h : q0f env mx cap fun m=>q0f env hi len fun h=>q0f env lo 0 fun l =>
      asked mx ((0 ≤ m ∧ m ≤ cap) ∧ hi.isSome = true) (asked hi (0 ≤ h ∧ h ≤ m) (asked lo (0 ≤ l ∧ l ≤ h) (f m h l)))) :
    ∃ m h l : Int,(∀ w,(Instr.sliceBounds isS len cap (lo.map a.eval) (hi.map a.eval) (mx.map a.eval)).run P w = .ok (l.toNat,h.toNat,m.toNat) w) ∧ f m h l:=by
  obtain ⟨m',h,hm⟩:=st.bound h;obtain ⟨h',h,hh⟩:=st.bound h;obtain ⟨l',h,hl⟩:=st.bound h;refine ⟨m',h',l',?_⟩
  rcases hm with ⟨rfl,rfl⟩ | ⟨om,km,rfl,em⟩ <;> rcases hh with ⟨rfl,rfl⟩ | ⟨oh,kh,rfl,eh⟩ <;> rcases hl with ⟨rfl,rfl⟩ | ⟨ol,kl,rfl,el⟩ <;>
    simp only [asked,Option.isSome_none,Option.isSome_some,Bool.false_eq_true,and_false,false_and,and_true] at h <;>
    simp only [Option.map_none,Option.map_some,Instr.sliceBounds,Sem.run_bind,Sem.run_pure,Result.andThen_ok,Option.isSome_none,Option.isSome_some]
  · exact ⟨fun w=>by simp,h⟩
  · exact ⟨fun w=>by rw [el,q2h (by omega)];simp,h.2⟩
  · exact ⟨fun w=>by rw [eh,q2h (by omega)];simp,h.2⟩
  · exact ⟨fun w=>by rw [eh,q2h (by omega)];simp only [Result.andThen_ok];rw [el,q2h (by omega)];simp,h.2.2⟩
  · exact ⟨fun w=>by rw [em,q2h (by omega)];simp only [Result.andThen_ok];rw [eh,q2h (by omega)];simp,h.2.2⟩
  · exact ⟨fun w=>by rw [em,q2h (by omega)];simp only [Result.andThen_ok];rw [eh,q2h (by omega)];simp only [Result.andThen_ok];rw [el,q2h (by omega)];simp,h.2.2.2⟩
end
end
end Go.Sx
namespace Go.Sx
section
variable {P : Program} {tt : TT} {N : Nat} {env : Env} {m : M} {a : Act} {w : World} {o : Oper} {f : SV → M → Prop}
def Unif (P : Program) (a : Act) (o : Oper) (m : M) (f : SV → M → Prop) : Prop:=∃ x : SV,x.ok m.B ∧ f x m ∧ ∀ w,sat m.props w → (Go.execOp a.eval o).run P w = .ok (.value (x.den m.B)) w
abbrev Did (P : Program) (tt : TT) (a : Act) (o : Oper) (m : M) (w : World) (f : SV → M → Prop) : Prop:=Unif P a o m f ∨ (¬ quiet tt o ∧ (Gives P a o m w f ∨ qmq P a o m w f ∨ qpv P a o m w f))
theorem Did.value {v : Value} {w' : World} (hq : ¬ quiet tt o) (hr : (Go.execOp a.eval o).run P w = .ok (.value v) w') (he : Ends m f v w') : Did P tt a o m w f:=.inr ⟨hq,.inl ⟨v,w',.inl hr,he⟩⟩
theorem Did.pure {x : SV} (kx : x.ok m.B) (hr : ∀ w,sat m.props w → (Go.execOp a.eval o).run P w = .ok (.value (x.den m.B)) w) (hf : f x m) : Did P tt a o m w f :=
  .inl ⟨x,kx,hf,hr⟩
theorem qgu {c x y : SV} {ca xa ya : Value} (ec : ca = c.den m.B) (ex : xa = x.den m.B) (ey : ya = y.den m.B) (kx : x.ok m.B) (ky : y.ok m.B) {g : SV → Prop}
    (h : pickV c x y g) : ∃ v : SV,v.ok m.B ∧ g v ∧ ∀ w,(do pure (.value (if ← asBool ca then xa else ya)) : Sem Next).run P w = .ok (.value (v.den m.B)) w:=by
  subst ec ex ey;unfold pickV at h
  split at h
  · exact ⟨x,kx,h,fun _=>rfl⟩
  · exact ⟨y,ky,h,fun _=>rfl⟩
  · rename_i t
    split at h
    · rename_i k x k' y
      obtain ⟨e0,h9⟩:=q51 h;subst e0;refine ⟨_,?_,h9,?_⟩
      · trivial
      · intro w;cases t <;> rfl
    · rename_i x y _
      obtain ⟨p,hp,h⟩:=q47 (B:=m.B) h;obtain ⟨q,hq,h⟩:=q47 (B:=m.B) h;refine ⟨_,?_,h,?_⟩
      · trivial
      · intro w;simp only [SV.den,hp,hq];cases t <;> rfl
    · exact h.elim
  · exact h.elim
theorem q6t (st : St N env m a w) : ∀ {l : List (Nat × Operand)} {g : List (Nat × SV) → Prop},parts env l g →
    ∃ ps,g ps ∧ (∀ p ∈ ps,p.2.ok m.B) ∧ l.map (fun p=>(p.1,a.eval p.2)) = ps.map fun p=>(p.1,p.2.den m.B)
  | [],g,h=>⟨[],h,by simp,rfl⟩
  | (i,o) :: r,g,h=>by
    obtain ⟨x,h,kx,ex⟩:=st.ev h;obtain ⟨ps,h,kp,e⟩:=q6t st h;refine ⟨_,h,?_,by simp [ex,e]⟩;intro p hp
    rcases List.mem_cons.1 hp with rfl | hp
    · exact kx
    · exact kp p hp
theorem qn0 {s : Seg} (h : s.ok []) (B : Names) : s.ok B ∧ s.den B = s.den []:=by
  cases s with
  | one x=>cases x <;> first | exact ⟨trivial,rfl⟩ | exact h.elim | exact ⟨h,rfl⟩
  | many n l=>exact ⟨h,rfl⟩
theorem q4o {l : List Seg} (h : ∀ s ∈ l,s.ok []) (B : Names) : (∀ s ∈ l,s.ok B) ∧ dens B l = dens [] l:=by
  refine ⟨fun s hs=>(qn0 (h s hs) B).1,?_⟩;unfold dens;rw [List.flatMap_def,List.flatMap_def];congr 1;exact List.map_congr_left fun s hs=>(qn0 (h s hs) B).2
theorem qcj (B : Names) (l : List Seg) : ∀ n,dens B (reps n l) = (List.replicate n (dens B l)).flatten
  | 0=>rfl
  | n + 1=>by simp [reps,q4e,qcj B l n,List.replicate_succ]
theorem qiq {B : Names} {l : List Seg} (k : ∀ s ∈ l,s.ok B) : ∀ n,∀ s ∈ reps n l,s.ok B
  | 0=>by simp [reps]
  | n + 1=>by
    intro s hs
    rcases List.mem_append.1 hs with hs | hs
    · exact k s hs
    · exact qiq k n s hs
theorem qg2 (z : Array Value) (hz : 0 < z.size) : ∀ n,((Array.range (n * z.size)).map (z[· % z.size]!)) = ((List.replicate n z.toList).flatten).toArray:=by
  intro n
  apply Array.ext'
  apply List.ext_getElem?
  intro i;simp only [Array.toList_map,Array.toList_range];rw [List.getElem?_map]
  by_cases h : i < n * z.size
  · rw [List.getElem?_range h];simp only [Option.map_some];have hm : i % z.size < z.size:=Nat.mod_lt _ hz
    induction n generalizing i with
    | zero=>simp at h
    | succ n ih =>
      simp only [List.replicate_succ,List.flatten_cons]
      by_cases hi : i < z.size
      · rw [List.getElem?_append_left (by simpa using hi),Nat.mod_eq_of_lt hi]
        simp [hi]
      · rw [List.getElem?_append_right (by simpa using hi)];have:=ih (i - z.size) (by rw [Nat.succ_mul] at h;omega) (Nat.mod_lt _ hz);rw [Array.length_toList,← this,← Nat.mod_eq_sub_mod (by omega)]
  · rw [List.getElem?_eq_none (by simpa using h),List.getElem?_eq_none (by simp [List.length_flatten];omega)];rfl
theorem Did.new {d : Nat} {segs : List Seg} {t : Nat} {x : SV} (hq : ¬ quiet tt o) (st : St N env m a w) (h : newB m d segs t fun m'=>f x m') (ks : ∀ s ∈ segs,s.ok m.B)
    (hx : ∀ B,bl B d = w.heap.size → (SC.ptr d 0).ok B → x.ok B ∧ (Go.execOp a.eval o).run P w = .ok (.value (x.den B)) (w.alloc (.cells (dens m.B segs).toArray t))) : Did P tt a o m w f:=by
  obtain ⟨m',hf,he,km,hs,kp,hb⟩:=qi7 h st.k ks st.s;have:=hx m'.B hb kp;exact .value hq this.2 ⟨x,m',rfl,this.1,he,km,hs,hf⟩
theorem qgm {z : Value} {l : List Value} (h : z.cells.toList = l) : z.cells = l.toArray:=by rw [← h]
theorem qh5 {B : Names} {x : SV} {l : List Seg} (h : (x.den B).cells.toList = dens B l) : (x.den B).cells = (dens B l).toArray:=qgm h
theorem q6p {place : Nat → Option (Nat × Nat)} {size : Nat → (Nat → Nat → Prop) → Prop} (hs : ∀ i g,size i g → ∃ off n,place i = some (off,n) ∧ g off n)
    {B : Names} {ps : List (Nat × SV)} {segs : List Seg} {z : List Value} {g : List Seg → Prop} (hz : dens B segs = z) (k : ∀ s ∈ segs,s.ok B) (kp : ∀ p ∈ ps,p.2.ok B) (h : fills size segs ps g) :
    ∃ l,g l ∧ (∀ s ∈ l,s.ok B) ∧ Instr.fill place z.toArray (ps.map fun p=>(p.1,p.2.den B)) = some (dens B l).toArray:=by
  subst hz;exact qag hs k kp h
theorem q1g (ok : tt.ok P) (st : St N env m a w) (h : Sx.execOp P tt o env m f) : Did P tt a o m w f:=by
  have val : ∀ {s : Sem Value} {v : Value} {w w' : World},Go.execOp a.eval o = (do pure (.value (← s))) → s.run P w = .ok v w' → (Go.execOp a.eval o).run P w = .ok (.value v) w':=by
    intro s v w w' e hr;rw [e];simp [hr]
  unfold Sx.execOp at h
  cases ho : o.op with
  | move x =>
    rw [ho] at h;obtain ⟨v,hf,kv,ev⟩:=st.ev h;exact .pure kv (fun w _=>by simp only [Go.execOp,ho,ev];rfl) hf
  | assign x =>
    rw [ho] at h;obtain ⟨v,hf,kv,ev⟩:=st.ev h;exact .pure kv (fun w _=>by simp only [Go.execOp,ho,ev];rfl) hf
  | pick c x y =>
    rw [ho] at h;obtain ⟨c',h,kc,ec⟩:=st.ev h;obtain ⟨x',h,kx,ex⟩:=st.ev h;obtain ⟨y',h,ky,ey⟩:=st.ev h;obtain ⟨v,kv,hf,hr⟩:=qgu ec ex ey kx ky h;exact .pure kv (fun w _=>by simp only [Go.execOp,ho];exact hr w) hf
  | alloc t =>
    rw [ho] at h
    cases hd : o.dst with
    | none=>rw [hd] at h;exact h.elim
    | some d =>
    rw [hd] at h;obtain ⟨x,T,h⟩:=q0c ok h;obtain ⟨z,hz,hc⟩:=T.run_zero w;have kz:=q4o T.z m.B;refine .new (by unfold quiet;rw [ho];exact fun h=>h) st h kz.1 fun B hB kp=>⟨kp,val (s:=Instr.alloc t true (.tuple #[])) (by simp only [Go.execOp,ho]) ?_⟩;simp only [Instr.alloc,Sem.run_bind,hz,Result.andThen_ok,newVar,newRow,run_newObj,SV.den,SC.den,hB,kz.2];rw [qgm hc];rfl
  | box t x =>
    rw [ho] at h
    cases hd : o.dst with
    | none=>rw [hd] at h;exact h.elim
    | some d =>
    rw [hd] at h;obtain ⟨v,h,kv,ev⟩:=st.ev h;obtain ⟨l,h,kl,hl⟩:=q48 kv h;refine .new (by unfold quiet;rw [ho];exact fun h=>h) st h kl fun B hB kp=>⟨kp,val (s:=Instr.box t (a.eval x)) (by simp only [Go.execOp,ho]) ?_⟩;simp only [Instr.box,Sem.run_bind,Result.andThen_ok,newVar,newRow,run_newObj];rw [ev,qh5 hl];simp only [SV.den,SC.den,hB];rfl
  | build t ps =>
    rw [ho] at h;obtain ⟨l,h,kl,el⟩:=q6t st h;obtain ⟨x,T,h⟩:=q0c ok h;obtain ⟨i,u,z,hi,hu,hk,hsz,hby,hz,hc⟩:=T.h;have kz:=q4o T.z m.B
    have fin : ∀ segs : List Seg,(∀ s ∈ segs,s.ok m.B) → f (.agg segs) m → P.built t ((ps.map fun (i,x)=>(i,a.eval x)).toList) = some (dens m.B segs).toArray → Did P tt a o m w f:=by
      intro segs ks hf hb;exact .pure (x:=.agg segs) ks (fun w _=>val (s:=Instr.build t (ps.map fun (i,x)=>(i,a.eval x))) (by simp only [Go.execOp,ho]) (run_build w t _ _ hb)) hf
    have eps : (ps.map fun (i,x)=>(i,a.eval x)).toList = l.map fun p=>(p.1,p.2.den m.B):=by rw [Array.toList_map];exact el
    cases hxk : x.k with
    | struct fs =>
      rw [hxk] at h;obtain ⟨fields,hu',hfs⟩:=q78 T hxk;subst hfs;obtain ⟨qs,h,hq⟩:=q9n ok h
      obtain ⟨segs,hf,ks,hfill⟩:=q6p (place:=(qs.toArray[·]?)) (z:=z.cells.toList) (fun i g hg=>by
        obtain ⟨o,t,e,hg⟩:=q6d hg;exact ⟨o,t,by simpa using e,hg⟩) (by rw [kz.2,hc]) kz.1 kl h
      refine fin segs ks hf ?_;rw [eps];simp only [Program.built,hi,hu',hz,hq]
      simpa using hfill
    | array n e =>
      rw [hxk] at h;have hu':=q34 T hxk;obtain ⟨y,Te,h⟩:=q0c ok h;obtain ⟨ie,_,_,hie,_,_,hes,_⟩:=Te.h;obtain ⟨segs,hf,ks,hfill⟩:=q6p (place:=fun i=>some (i * y.size,y.size)) (z:=z.cells.toList) (fun i g hg=>⟨_,_,rfl,hg⟩) (by rw [kz.2,hc]) kz.1 kl h;refine fin segs ks hf ?_;rw [eps];simp only [Program.built,hi,hu',hz,hie,hes]
      simpa using hfill
    | _=>rw [hxk] at h;exact h.elim
  | load t x =>
    rw [ho] at h;obtain ⟨v,h,kv,ev⟩:=st.ev h
    cases v with
    | c x' =>
      obtain ⟨v,kv',hf,hr⟩:=qgy ok st.k h;exact .pure kv' (fun w hs=>val (s:=Instr.loadAt t (a.eval x)) (by simp only [Go.execOp,ho]) (by rw [ev];exact hr w hs)) hf
    | _=>exact h.elim
  | store t x y =>
    rw [ho] at h;obtain ⟨v,h,kv,ev⟩:=st.ev h;obtain ⟨u,h,ku,eu⟩:=st.ev h
    cases v with
    | c x' =>
      obtain ⟨w',hr,m',hB,km,hs,hf⟩:=qdn ok st ku h;refine .inr ⟨(by unfold quiet;rw [ho];exact fun h=>h),.inl (q9z (s:=Instr.storeAt t (a.eval x) (a.eval y)) (by simp only [Go.execOp,ho]) (by rw [ev,eu];exact hr) ?_)⟩;exact ⟨.tup [],m',rfl,(by intro s hs;simp at hs),hB,km,hs,hf⟩
    | _=>exact h.elim
  | buildSlice t len ps =>
    rw [ho] at h
    cases hd : o.dst with
    | none=>rw [hd] at h;exact h.elim
    | some d =>
    rw [hd] at h;obtain ⟨l,h,kl,el⟩:=q6t st h;obtain ⟨x,T,h⟩:=q0c ok h
    cases hxk : x.k with
    | slice e =>
      rw [hxk] at h;have hu:=q21 T hxk;obtain ⟨y,Te,h⟩:=q0c ok h
      cases hbig : Nat.ble (len * y.size) 16777216 with
      | false=>rw [hbig] at h;exact h.elim
      | true =>
      rw [hbig] at h;have hbig:=Nat.le_of_ble_eq_true hbig;have kz:=q4o Te.z m.B;obtain ⟨z,hz,hc⟩:=Te.run_zero w;have hzs : z.cells.size = y.size:=by rw [← Array.length_toList,hc,q0y Te.z,Te.l]
      have kr:=qiq kz.1 len
      obtain ⟨segs,h,ks,hfill⟩:=q6p (place:=fun i=>some (i * y.size,y.size)) (z:=(List.replicate len z.cells.toList).flatten) (fun i g hg=>⟨_,_,rfl,hg⟩)
        (by rw [qcj,kz.2,hc]) kr kl h
      refine .new (by unfold quiet;rw [ho];exact fun h=>h) st h ks fun B hB kp=>⟨kp,val (s:=Instr.buildSlice t len (ps.map fun (i,x)=>(i,a.eval x))) (by simp only [Go.execOp,ho]) ?_⟩;have eps : (ps.map fun (i,x)=>(i,a.eval x)).toList = l.map fun p=>(p.1,p.2.den m.B):=by rw [Array.toList_map];exact el
      have hlen : ∀ h0 : ¬ len * y.size = 0,0 < z.cells.size:=fun h0=>by
        rw [hzs];rcases Nat.eq_zero_or_pos y.size with h | h
        · rw [h] at h0;simp at h0
        · exact h
      have hrow0 : len * y.size = 0 → ((Array.range (len * y.size)).map ((#[] : Array Value)[· % (#[] : Array Value).size]!)) = ((List.replicate len z.cells.toList).flatten).toArray:=by
        intro h0;rw [h0]
        have : (List.replicate len z.cells.toList).flatten = []:=by
          apply List.eq_nil_of_length_eq_zero
          simp [List.length_flatten,hzs,h0]
        rw [this];simp
      have hrow1 : ¬ len * y.size = 0 → ((Array.range (len * y.size)).map (z.cells[· % z.cells.size]!)) = ((List.replicate len z.cells.toList).flatten).toArray:=by
        intro h0;rw [← hzs];exact qg2 z.cells (hlen h0) len
      simp only [Instr.buildSlice,Sem.run_bind,run_underlying hu,Result.andThen_ok,Te.run_sizeOf w];rw [if_neg (by omega)]
      by_cases h0 : len * y.size = 0
      · rw [if_pos h0];simp only [Sem.run_bind,Sem.run_pure,Result.andThen_ok];rw [hrow0 h0,eps,hfill];simp only [Sem.run_bind,newRow,run_newObj,Result.andThen_ok,SV.den,SC.den,hB];rfl
      · rw [if_neg h0];simp only [Sem.run_bind,Sem.run_pure,Result.andThen_ok,hz];rw [hrow1 h0,eps,hfill];simp only [Sem.run_bind,newRow,run_newObj,Result.andThen_ok,SV.den,SC.den,hB];rfl
    | _=>rw [hxk] at h;exact h.elim
  | nilCheck x =>
    rw [ho] at h;obtain ⟨v,h,kv,ev⟩:=st.ev h
    split at h
    · exact .pure kv (fun w _=>by simp only [Go.execOp,ho,ev];rfl) h
    · exact .pure kv (fun w _=>by simp only [Go.execOp,ho,ev];rfl) h
    · exact .pure kv (fun w _=>by simp only [Go.execOp,ho,ev];rfl) h
    · exact .pure kv (fun w _=>by simp only [Go.execOp,ho,ev];rfl) h
    · exact h.elim
  | binOp op t x y ty =>
    rw [ho] at h;obtain ⟨v,h1,kv,ev⟩:=st.ev h;obtain ⟨u,h2,ku,eu⟩:=st.ev h1;clear h h1;dsimp only at h2
    split at h2
    · rename_i bb oo bb' oo'
      have key : ∀ e : Bool,(op = if e then .eql else .neq) → PeOb P t ⟨bb,oo,none⟩ ⟨bb',oo',none⟩ m (fun r=>match e with | true=>f (.c (.bool r)) m | false=>f (.c (.bool (!r))) m) → Did P tt a o m w f:=by
        intro e he hq;obtain ⟨r,hf,hr⟩:=hq.h;have hg : ∀ w,(eqGuard op t x y (SV.den m.B (.c (.rp bb oo))) (SV.den m.B (.c (.rp bb' oo')))).run P w = .ok () w:=fun w=>qd2 rfl (by simp [SV.den,SC.den])
        cases e with
        | true =>
          subst he
          exact .pure (x:=.c (.bool r)) trivial (fun w hs=>val (s:=do eqGuard .eql t x y (a.eval x) (a.eval y);Go.binOp .eql t (a.eval x) (a.eval y)) (by simp only [Go.execOp,ho];rfl) (by
            rw [ev,eu];have:=hr st.k w hs;have hg:=hg w;simp only [SV.den,SC.den,if_true] at *
            simp [Sem.run_bind,hg,Go.binOp,this])) hf
        | false =>
          subst he
          exact .pure (x:=.c (.bool (!r))) trivial (fun w hs=>val (s:=do eqGuard .neq t x y (a.eval x) (a.eval y);Go.binOp .neq t (a.eval x) (a.eval y)) (by simp only [Go.execOp,ho];rfl) (by
            rw [ev,eu];have:=hr st.k w hs;have hg:=hg w;simp only [SV.den,SC.den,if_false,Bool.false_eq_true] at *
            simp [Sem.run_bind,hg,Go.binOp,this])) hf
      cases op <;> simp only [isEq] at h2 <;> first | exact h2.elim | skip
      · exact key true rfl h2
      · exact key false rfl h2
    · cases m with
      | mk B H F =>
      obtain ⟨r,hr,kr,hf⟩:=qjy ok kv x y h2;exact .pure kr (fun w _=>val (s:=do eqGuard op t x y (a.eval x) (a.eval y);Go.binOp op t (a.eval x) (a.eval y)) (by simp only [Go.execOp,ho]) (by rw [ev,eu];exact hr w)) hf
  | unOp op t x =>
    rw [ho] at h;obtain ⟨v,h,kv,ev⟩:=st.ev h
    have fin : ∀ r : SV,r.ok m.B → f r m → (∀ w,(Op.unary op (v.den m.B)).run P w = .ok (r.den m.B) w) → Did P tt a o m w f:=fun r kr hf hr =>
      .pure kr (fun w _=>val (s:=Op.unary op (a.eval x)) (by simp only [Go.execOp,ho]) (by rw [ev];exact hr w)) hf
    split at h
    · exact fin (.c .ff) trivial h (fun _=>rfl)
    · exact fin (.c .tt) trivial h (fun _=>rfl)
    · exact fin (.c (.bool _)) trivial h (fun _=>rfl)
    · exact fin (.c (.int _ _)) trivial h.h (fun _=>rfl)
    · exact fin (.c (.int _ _)) trivial h (fun _=>rfl)
    · exact h.elim
  | convert src dst x =>
    rw [ho] at h;obtain ⟨v,h,kv,ev⟩:=st.ev h;obtain ⟨y,T,h,hall⟩:=qfb ok h;obtain ⟨ys,Ts,h⟩:=q0c ok h;obtain ⟨us,hus,_,_⟩:=Ts.und w
    have fin : ∀ r : SV,r.ok m.B → f r m → (∀ w,(Go.convert src dst (v.den m.B)).run P w = .ok (r.den m.B) w) → Did P tt a o m w f:=fun r kr hf hr =>
      .pure kr (fun w _=>val (s:=Go.convert src dst (a.eval x)) (by simp only [Go.execOp,ho]) (by rw [ev];exact hr w)) hf
    have rob : With (Ty P dst y ∧ Ty P src ys) (RunOb P (Go.convert src dst (v.den m.B)) m f) → (∀ k,y.k ≠ .int k) → Did P tt a o m w f:=fun h hne=>by
      have hq : ¬ quiet tt o:=by
        unfold quiet;rw [ho];intro hq;have:=hall _ hq;cases hk : y.k <;> rw [hk] at this <;> first | exact this.elim | exact hne _ hk
      obtain ⟨v',w',hr,he⟩:=RunOb.spec (h.h ⟨T,Ts⟩) st;exact .value hq (val (s:=Go.convert src dst (a.eval x)) (by simp only [Go.execOp,ho]) (by rw [ev];exact hr)) he
    cases hk : y.k with
    | int k =>
      rw [hk] at h
      cases v with
      | c z =>
        cases z with
        | int k' n =>
          have hu:=qpk T hk;refine fin (.c (.int k (k.wrap n))) trivial h.h ?_;intro w;simp only [Go.convert,Sem.run_bind,run_underlying hus,run_underlying hu,Result.andThen_ok,SV.den,SC.den];rfl
        | _=>exact h.elim
      | _=>exact h.elim
    | str =>
      rw [hk] at h
      cases v with
      | c z =>
        cases z with
        | str s =>
          have hu:=qav T hk;refine fin (.c (.str s)) trivial h ?_;intro w;simp only [Go.convert,Sem.run_bind,run_underlying hus,run_underlying hu,Result.andThen_ok,SV.den,SC.den];cases us <;> rfl
        | _=>exact rob h (by rw [hk];simp)
      | _=>exact rob h (by rw [hk];simp)
    | _=>rw [hk] at h;exact rob h (by rw [hk];simp)
  | sliceToArrayPointer t x =>
    rw [ho] at h;obtain ⟨v,h,kv,ev⟩:=st.ev h;obtain ⟨y,T,h⟩:=q0c ok h
    have fin : ∀ r : SV,r.ok m.B → f r m → (∀ w,(Instr.arrayAt t (v.den m.B)).run P w = .ok (r.den m.B) w) → Did P tt a o m w f:=fun r kr hf hr =>
      .pure kr (fun w _=>val (s:=Instr.arrayAt t (a.eval x)) (by simp only [Go.execOp,ho]) (by rw [ev];exact hr w)) hf
    cases hk : y.k with
    | array n e =>
      rw [hk] at h
      cases v with
      | c z =>
        cases z with
        | slc i off len cap =>
          refine fin (.c (.ptr i off)) kv h.2 ?_;have:=h.1;intro w
          simp [Instr.arrayAt,run_underlying (q34 T hk),SV.den,SC.den,show ¬ len < n by omega]
        | rs p len cap =>
          obtain ⟨hn,h⟩:=h;obtain ⟨p,rfl,hf⟩:=h.h st.k w st.s;refine fin (.c (.rp p.1 p.2)) trivial hf ?_;intro w
          simp [Instr.arrayAt,run_underlying (q34 T hk),SV.den,SC.den,radr,show ¬ len < n by omega]
        | _=>exact h.elim
      | _=>exact h.elim
    | _=>rw [hk] at h;exact h.elim
  | makeInterface t x =>
    rw [ho] at h;obtain ⟨v,h,kv,ev⟩:=st.ev h;obtain ⟨y,T,h⟩:=q0c ok h;obtain ⟨u,hu,hk,_⟩:=T.und w
    have fin : f (.c (.raw (.iface t (v.den m.B)))) m → (∀ ms,u ≠ .interface ms) → Did P tt a o m w f:=by
      intro hf hn;refine .pure (x:=.c (.raw (.iface t (v.den m.B)))) rfl (fun w _=>val (s:=Instr.makeInterface t (a.eval x)) (by simp only [Go.execOp,ho]) ?_) hf;simp only [Instr.makeInterface,Sem.run_bind,run_underlying hu,Result.andThen_ok,ev];cases u <;> first | rfl | exact absurd rfl (hn _)
    cases hxk : y.k <;> rw [hxk] at h hk <;> first
      | exact h.elim
      | (refine fin h ?_;rintro ms rfl;simp [tkOf] at hk)
  | makeFunc fn x c =>
    rw [ho] at h;obtain ⟨l,h,kl,el⟩:=st.evs h;obtain ⟨l',h,kl',el'⟩:=st.evs h;refine .pure (x:=.c (.raw (.func fn (l.map (SV.den m.B)).toArray (l'.map (SV.den m.B)).toArray))) rfl (fun w _=>val (s:=Instr.makeFunc fn (x.map a.eval) (c.map a.eval)) (by simp only [Go.execOp,ho]) ?_) h;have e1 : x.map a.eval = (l.map (SV.den m.B)).toArray:=by rw [← el,← Array.toList_map]
    have e2 : c.map a.eval = (l'.map (SV.den m.B)).toArray:=by rw [← el',← Array.toList_map]
    simp only [Instr.makeFunc,e1,e2];rfl
  | makeMap t r =>
    rw [ho] at h
    cases r with
    | none =>
      obtain ⟨v',w',hr,he⟩:=RunOb.spec h st;exact .value (by unfold quiet;rw [ho];exact fun h=>h) (val (s:=Instr.makeMap t none) (by simp only [Go.execOp,ho];rfl) hr) he
    | some r=>exact h.elim
  | makeSlice t x y =>
    rw [ho] at h
    cases hd : o.dst with
    | none=>rw [hd] at h;exact h.elim
    | some d =>
    rw [hd] at h;obtain ⟨v,h,kv,ev⟩:=st.ev h;obtain ⟨u,h,ku,eu⟩:=st.ev h;obtain ⟨z,T,h⟩:=q0c ok h
    have key : ∀ (e : Nat) (l c : Int),z.k = .slice e → a.eval x = .int .i64 l → a.eval y = .int .i64 c → (tt.get e fun y=>match y.zero with
        | [.one z]=>(0 ≤ l ∧ l ≤ c ∧ c ≤ 140737488355328 ∧ y.bytes * c ≤ 140737488355328) ∧ newB m d [.many c.toNat (List.replicate c.toNat (z.den []))] e fun m'=>f (.c (.slc d 0 l.toNat c.toNat)) m'
        | z=>(0 ≤ l ∧ l ≤ c ∧ c ≤ 140737488355328 ∧ y.bytes * c ≤ 140737488355328) ∧ newB m d [.many (c.toNat * y.size) (List.replicate c.toNat (dens [] z)).flatten] e fun m'=>f (.c (.slc d 0 l.toNat c.toNat)) m') → Did P tt a o m w f:=by
      intro e l c hk ev eu h;have hu:=q21 T hk;obtain ⟨q,Te,h⟩:=q0c ok h;obtain ⟨i,ue,zv,hi,_,_,hsz,hby,hzv,hcz⟩:=Te.h;have hzs : zv.cells.size = q.size:=by rw [← Array.length_toList,hcz,q0y Te.z,Te.l]
      have key : ∀ L : List Value,L = (List.replicate c.toNat zv.cells.toList).flatten → (0 ≤ l ∧ l ≤ c ∧ c ≤ 140737488355328 ∧ q.bytes * c ≤ 140737488355328) →
          (newB m d [.many (c.toNat * q.size) L] e fun m'=>f (.c (.slc d 0 l.toNat c.toNat)) m') → Did P tt a o m w f:=by
        rintro L rfl ⟨h0,hlc,hc,hroom⟩ h
        have kL : ∀ s ∈ [Seg.many (c.toNat * q.size) (List.replicate c.toNat zv.cells.toList).flatten],s.ok m.B:=by
          intro s hs
          simp at hs
          subst hs;refine ⟨by simp [List.length_flatten,hzs],fun v hv=>?_⟩;obtain ⟨l',hl',hv⟩:=List.mem_flatten.1 hv;rw [List.eq_of_mem_replicate hl',hcz] at hv;exact q0q Te.z v hv
        refine .new (by unfold quiet;rw [ho];exact fun h=>h) st h kL fun B hB kp=>⟨kp,val (s:=Instr.makeSlice t (a.eval x) (a.eval y)) (by simp only [Go.execOp,ho]) ?_⟩;have wl : IntKind.i64.wrap l = l:=IntWalk.i64_in l (by omega);have wc : IntKind.i64.wrap c = c:=IntWalk.i64_in c (by omega);have hty : (typeInfo e).run P w = .ok i w:=by simp [typeInfo,hi]
        have hrow0 : c.toNat * q.size = 0 → ((Array.range (c.toNat * q.size)).map ((#[] : Array Value)[· % (#[] : Array Value).size]!)) = ((List.replicate c.toNat zv.cells.toList).flatten).toArray:=by
          intro h0;rw [h0]
          have : (List.replicate c.toNat zv.cells.toList).flatten = []:=by
            apply List.eq_nil_of_length_eq_zero
            simp [List.length_flatten,hzs,h0]
          rw [this];simp
        have hrow1 : ¬ c.toNat * q.size = 0 → ((Array.range (c.toNat * q.size)).map (zv.cells[· % zv.cells.size]!)) = ((List.replicate c.toNat zv.cells.toList).flatten).toArray:=by
          intro h0;rw [← hzs];refine qg2 zv.cells ?_ _
          rw [hzs];rcases Nat.eq_zero_or_pos q.size with h | h
          · rw [h] at h0;simp at h0
          · exact h
        have hzr : (zeroValue e).run P w = .ok zv w:=by simp [zeroValue,typeInfo,hi,hzv]
        simp only [Instr.makeSlice,Sem.run_bind,run_underlying hu,Result.andThen_ok,ev,eu,SV.den,SC.den,asInt,asIntOf,Sem.run_pure,hty,wl,wc,hby]
        have ht : ¬ ((decide (c < 0) || decide ((q.bytes : Int) * c > 2 ^ 48)) || decide (l < 0) || decide (l > c)) = true:=by
          simp only [Bool.or_eq_true,decide_eq_true_eq];omega
        rw [if_neg ht];simp only [Sem.run_bind,Result.andThen_ok,run_askRoom,Te.run_sizeOf w]
        by_cases h0 : c.toNat * q.size = 0
        · rw [if_pos h0];simp only [Sem.run_bind,Sem.run_pure,Result.andThen_ok];rw [hrow0 h0];simp only [newRow,Sem.run_bind,run_newObj,Result.andThen_ok,hB,dens,List.flatMap_cons,List.flatMap_nil,Seg.den,List.append_nil];rfl
        · rw [if_neg h0];simp only [Sem.run_bind,Sem.run_pure,Result.andThen_ok,hzr];rw [hrow1 h0];simp only [newRow,Sem.run_bind,run_newObj,Result.andThen_ok,hB,dens,List.flatMap_cons,List.flatMap_nil,Seg.den,List.append_nil];rfl
      split at h
      · rename_i zc hq
        have h1 : q.size = 1:=by rw [← Te.l,hq];rfl
        have hcz' : zv.cells.toList = [zc.den []]:=by rw [hcz,hq];rfl
        refine key (List.replicate c.toNat (zc.den [])) ?_ h.1 (by rw [h1,Nat.mul_one];exact h.2);rw [hcz'];generalize c.toNat = n
        induction n with
        | zero=>rfl
        | succ n ih=>rw [List.replicate_succ,List.replicate_succ,List.flatten_cons,← ih];rfl
      · exact key _ (by rw [hcz]) h.1 h.2
    cases hk : z.k with
    | slice e =>
      rw [hk] at h
      cases v with
      | c v =>
        cases v with
        | int k l =>
          cases k with
          | i64 =>
            cases u with
            | c u =>
              cases u with
              | int k c =>
                cases k with
                | i64=>exact key e l c hk ev eu h
                | _=>exact h.elim
              | _=>exact h.elim
            | _=>exact h.elim
          | _=>exact h.elim
        | _=>exact h.elim
      | _=>exact h.elim
    | _=>rw [hk] at h;exact h.elim
  | slice t x lo hi mx =>
    rw [ho] at h;obtain ⟨v,h,kv,ev⟩:=st.ev h
    cases m with
    | mk B H F =>
    have h : qmz tt env t v lo hi mx B fun v=>f v ⟨B,H,F⟩:=h;obtain ⟨y,T,h⟩:=q0c ok h
    have fin : ∀ r : SV,r.ok B → f r ⟨B,H,F⟩ → (∀ w,(Instr.sliceAt t (v.den B) (lo.map a.eval) (hi.map a.eval) (mx.map a.eval)).run P w = .ok (r.den B) w) → Did P tt a o ⟨B,H,F⟩ w f:=fun r kr hf hr =>
      .pure kr (fun w _=>val (s:=Instr.sliceAt t (a.eval x) (lo.map a.eval) (hi.map a.eval) (mx.map a.eval)) (by simp only [Go.execOp,ho]) (by rw [ev];exact hr w)) hf
    cases hk : y.k with
    | str =>
      rw [hk] at h;have hu:=qav T hk
      cases v with
      | c z =>
        cases z with
        | str s =>
          cases mx with
          | some _=>exact h.elim
          | none =>
            have h' : q0f env none (s.size : Int) fun m=>q0f env hi (s.size : Int) fun h=>q0f env lo 0 fun l =>
                asked (none : Option Operand) ((0 ≤ m ∧ m ≤ (s.size : Int)) ∧ hi.isSome = true) (asked hi (0 ≤ h ∧ h ≤ m) (asked lo (0 ≤ l ∧ l ≤ h) (m = s.size ∧ f (.c (.str (s.extract l.toNat h.toNat))) ⟨B,H,F⟩))):=by
              have h : q0f env hi s.size fun h=>q0f env lo 0 fun l=>asked hi (0 ≤ h ∧ h ≤ s.size) (asked lo (0 ≤ l ∧ l ≤ h) (f (.c (.str (s.extract l.toNat h.toNat))) ⟨B,H,F⟩)):=h;simp only [q0f,asked] at h ⊢;cases hi <;> cases lo <;> simp only [true_and] at h ⊢ <;> exact h
            obtain ⟨m,hh,l,hr,hm,hf⟩:=q2o (P:=P) st false h';refine fin (.c (.str (s.extract l.toNat hh.toNat))) trivial hf ?_;intro w;simp only [Option.map_none] at hr;simp only [Instr.sliceAt,Instr.slice,Sem.run_bind,run_underlying hu,Result.andThen_ok,SV.den,SC.den,Option.map_none]
            simp [hr]
        | _=>exact h.elim
      | _=>exact h.elim
    | slice e =>
      rw [hk] at h;have hu:=q21 T hk
      cases v with
      | c z =>
        cases z with
        | rs p len cap =>
          obtain ⟨ye,Te,h⟩:=q0c ok h;obtain ⟨m,hh,l,hr,hf⟩:=q2o (P:=P) st true h;refine fin (.c (.rs (cutA p m.toNat l.toNat ye.size) (hh.toNat - l.toNat) (m.toNat - l.toNat))) trivial hf ?_;intro w;simp only [Instr.sliceAt,Instr.slice,Sem.run_bind,run_underlying hu,Result.andThen_ok,SV.den,SC.den,hr,Te.run_sizeOf w,cutA];rfl
        | slc i off len cap =>
          obtain ⟨ye,Te,h⟩:=q0c ok h
          cases lo with
          | none =>
            have h' : q0f env mx cap fun m=>q0f env hi len fun h=>q0f env none 0 fun l =>
                asked mx ((0 ≤ m ∧ m ≤ cap) ∧ hi.isSome = true) (asked hi (0 ≤ h ∧ h ≤ m) (asked (none : Option Operand) (0 ≤ l ∧ l ≤ h) (l = 0 ∧ f (.c (.slc i off h.toNat m.toNat)) ⟨B,H,F⟩))):=by
              have h : q0f env mx cap fun m=>q0f env hi len fun h=>asked mx ((0 ≤ m ∧ m ≤ cap) ∧ hi.isSome = true) (asked hi (0 ≤ h ∧ h ≤ m) (f (.c (.slc i off h.toNat m.toNat)) ⟨B,H,F⟩)):=h;simp only [q0f,asked] at h ⊢
              simpa only [true_and] using h
            obtain ⟨m,hh,l,hr,rfl,hf⟩:=q2o (P:=P) st true h';refine fin (.c (.slc i off hh.toNat m.toNat)) kv hf ?_;intro w;simp only [Instr.sliceAt,Instr.slice,Sem.run_bind,run_underlying hu,Result.andThen_ok,SV.den,SC.den,hr,Te.run_sizeOf w]
            simp [q0l]
          | some lo =>
            have h' : q0f env mx cap fun m=>q0f env hi len fun h=>q0f env (some lo) 0 fun l =>
                asked mx ((0 ≤ m ∧ m ≤ cap) ∧ hi.isSome = true) (asked hi (0 ≤ h ∧ h ≤ m) (asked (some lo) (0 ≤ l ∧ l ≤ h)
                  (f (.c (.rs (cutA (some ⟨bl B i,off,none⟩) m.toNat l.toNat ye.size) (h.toNat - l.toNat) (m.toNat - l.toNat))) ⟨B,H,F⟩))):=h
            obtain ⟨m,hh,l,hr,hf⟩:=q2o (P:=P) st true h';refine fin (.c (.rs (cutA (some ⟨bl B i,off,none⟩) m.toNat l.toNat ye.size) (hh.toNat - l.toNat) (m.toNat - l.toNat))) trivial hf ?_;intro w;simp only [Instr.sliceAt,Instr.slice,Sem.run_bind,run_underlying hu,Result.andThen_ok,SV.den,SC.den,hr,Te.run_sizeOf w,cutA];rfl
        | _=>exact h.elim
      | _=>exact h.elim
    | array n e =>
      rw [hk] at h;have hu:=q34 T hk
      cases v with
      | c z =>
        cases z with
        | ptr i off =>
          obtain ⟨ye,Te,h⟩:=q0c ok h
          have gen : ∀ (m hh l : Int),(∀ w,(Instr.sliceBounds false n n (lo.map a.eval) (hi.map a.eval) (mx.map a.eval)).run P w = .ok (l.toNat,hh.toNat,m.toNat) w) →
              ∀ w,(Instr.sliceAt t (SV.den B (.c (.ptr i off))) (lo.map a.eval) (hi.map a.eval) (mx.map a.eval)).run P w = .ok (.slice (cutA (some ⟨bl B i,off,none⟩) m.toNat l.toNat ye.size) (hh.toNat - l.toNat) (m.toNat - l.toNat)) w:=by
            intro m hh l hr w;simp only [Instr.sliceAt,Instr.sureAddr,Sem.run_bind,run_underlying hu,Result.andThen_ok,SV.den,SC.den,Te.run_sizeOf w,Sem.run_pure,hr,cutA]
            split <;> rfl
          cases lo with
          | none =>
            cases hi with
            | none =>
              cases mx with
              | some _=>exact h.elim
              | none =>
                refine fin (.c (.slc i off n n)) kv h ?_;intro w;simp only [Instr.sliceAt,Instr.sliceBounds,Instr.sureAddr,Sem.run_bind,run_underlying hu,Result.andThen_ok,SV.den,SC.den,Te.run_sizeOf w,Option.map_none,Sem.run_pure]
                simp [q0l]
            | some hi =>
              cases mx with
              | some _=>exact h.elim
              | none =>
                have h' : q0f env none (n : Int) fun m=>q0f env (some hi) (n : Int) fun h=>q0f env none 0 fun l =>
                    asked (none : Option Operand) ((0 ≤ m ∧ m ≤ (n : Int)) ∧ (some hi).isSome = true) (asked (some hi) (0 ≤ h ∧ h ≤ m) (asked (none : Option Operand) (0 ≤ l ∧ l ≤ h) ((m = n ∧ l = 0) ∧ f (.c (.slc i off h.toNat n)) ⟨B,H,F⟩))):=by
                  have h : q0f env (some hi) n fun h=>(0 ≤ h ∧ h ≤ (n : Int)) ∧ f (.c (.slc i off h.toNat n)) ⟨B,H,F⟩:=h;simp only [q0f,asked] at h ⊢
                  simpa only [true_and] using h
                obtain ⟨m,hh,l,hr,⟨rfl,rfl⟩,hf⟩:=q2o (P:=P) st false h';refine fin (.c (.slc i off hh.toNat n)) kv hf ?_;intro w;rw [gen _ _ _ hr w]
                simp [cutA,SV.den,SC.den,q0l]
          | some lo =>
            cases mx with
            | some _=>cases hi <;> exact h.elim
            | none =>
              have h' : q0f env none (n : Int) fun m=>q0f env hi (n : Int) fun h=>q0f env (some lo) 0 fun l =>
                  asked (none : Option Operand) ((0 ≤ m ∧ m ≤ (n : Int)) ∧ hi.isSome = true) (asked hi (0 ≤ h ∧ h ≤ m) (asked (some lo) (0 ≤ l ∧ l ≤ h) (m = n ∧
                    f (.c (.rs (cutA (some ⟨bl B i,off,none⟩) n l.toNat ye.size) (h.toNat - l.toNat) (n - l.toNat))) ⟨B,H,F⟩))):=by
                have h : q0f env hi n fun h=>q0f env (some lo) 0 fun l=>asked hi (0 ≤ h ∧ h ≤ (n : Int)) ((0 ≤ l ∧ l ≤ h) ∧
                    f (.c (.rs (cutA (some ⟨bl B i,off,none⟩) n l.toNat ye.size) (h.toNat - l.toNat) (n - l.toNat))) ⟨B,H,F⟩):=by cases hi <;> exact h
                cases hi <;> simp only [q0f,asked] at h ⊢ <;> simpa only [true_and] using h
              obtain ⟨m,hh,l,hr,rfl,hf⟩:=q2o (P:=P) st false h';refine fin (.c (.rs (cutA (some ⟨bl B i,off,none⟩) n l.toNat ye.size) (hh.toNat - l.toNat) (n - l.toNat))) trivial hf ?_;intro w;rw [gen _ _ _ hr w];rfl
        | rp b off =>
          obtain ⟨ye,Te,h⟩:=q0c ok h;obtain ⟨m,hh,l,hr,hf⟩:=q2o (P:=P) st false h;refine fin (.c (.rs (cutA (some ⟨b,off,none⟩) m.toNat l.toNat ye.size) (hh.toNat - l.toNat) (m.toNat - l.toNat))) trivial hf ?_;intro w;simp only [Instr.sliceAt,Instr.sureAddr,Sem.run_bind,run_underlying hu,Result.andThen_ok,SV.den,SC.den,Te.run_sizeOf w,Sem.run_pure,hr,cutA]
          split <;> rfl
        | _=>exact h.elim
      | _=>exact h.elim
    | _=>rw [hk] at h;exact h.elim
  | fieldAddr s x i =>
    rw [ho] at h;obtain ⟨v,h,kv,ev⟩:=st.ev h;obtain ⟨y,T,h⟩:=q0c ok h
    cases hk : y.k with
    | struct fs =>
      rw [hk] at h;obtain ⟨fields,hu,rfl⟩:=q78 T hk
      have key : ∀ (r : Nat → SV) (b off : Nat),v.den m.B = .pointer (some ⟨b,off,none⟩) → (∀ n,(r n).ok m.B ∧ (r n).den m.B = .pointer (some ⟨b,off + n,none⟩)) →
          (nthF (fields.toList.map fun f=>(f.offset,f.type)) i fun o t=>tt.get t fun z=>match z.size with | 0=>False | _=>f (r o) m) → Did P tt a o m w f:=by
        intro r b off hv hr h;obtain ⟨fo,ft,hn,h1⟩:=q6d h;obtain ⟨z,Tz,h2⟩:=q0c ok h1;rw [List.getElem?_map] at hn
        cases hf : fields.toList[i]? with
        | none=>rw [hf] at hn;simp at hn
        | some fd =>
          rw [hf] at hn
          simp at hn
          obtain ⟨rfl,rfl⟩:=hn
          have h : (match z.size with | 0=>False | _=>f (r fd.offset) m):=h2;have hz : z.size ≠ 0:=fun e=>by rw [e] at h;exact h
          have hf' : f (r fd.offset) m:=by
            cases hq : z.size with
            | zero=>exact absurd hq hz
            | succ q=>rw [hq] at h;exact h
          refine .pure (hr _).1 (fun w _=>val (s:=Instr.fieldAt s (a.eval x) i) (by simp only [Go.execOp,ho]) ?_) hf';have hfa : fields[i]? = some fd:=by simpa using hf
          rw [ev,hv,(hr _).2];simp only [Instr.fieldAt,Sem.run_bind,run_underlying hu,Result.andThen_ok,hfa,Instr.sureAddr,Sem.run_pure,fieldPlace,Tz.run_sizeOf w];rw [if_neg hz]
          simp [q0l]
      cases v with
      | c z =>
        cases z with
        | ptr k off=>exact key (fun n=>.c (.ptr k (off + n))) _ _ rfl (fun n=>⟨kv,rfl⟩) h
        | elt k off j=>exact key (fun n=>.c (.elt k off (j + n))) _ _ rfl (fun n=>⟨kv,by simp only [SV.den,SC.den];rw [Nat.add_assoc]⟩) h
        | rp b off=>exact key (fun n=>.c (.rp b (off + n))) _ _ rfl (fun n=>⟨trivial,rfl⟩) h
        | _=>exact h.elim
      | _=>exact h.elim
    | _=>rw [hk] at h;exact h.elim
  | field s x i =>
    rw [ho] at h;obtain ⟨v,h,kv,ev⟩:=st.ev h;obtain ⟨y,T,h⟩:=q0c ok h
    cases hk : y.k with
    | struct fs =>
      rw [hk] at h;obtain ⟨fields,hu,rfl⟩:=q78 T hk
      cases v with
      | agg segs =>
        obtain ⟨fo,ft,hn,h1⟩:=q6d h;obtain ⟨z,Tz,h2⟩:=q0c ok h1;rw [List.getElem?_map] at hn
        cases hf : fields.toList[i]? with
        | none=>rw [hf] at hn;simp at hn
        | some fd =>
          rw [hf] at hn
          simp at hn
          obtain ⟨rfl,rfl⟩:=hn
          cases m with
          | mk B H F =>
          obtain ⟨r,hr,kr,hv⟩:=q5a kv h2;refine .pure kr (fun w _=>val (s:=Instr.field s (a.eval x) i) (by simp only [Go.execOp,ho]) ?_) hr;have hfa : fields[i]? = some fd:=by simpa using hf
          rw [ev];simp only [Instr.field,Sem.run_bind,run_underlying hu,Result.andThen_ok,hfa,SV.den,asAgg,Sem.run_pure,part,Tz.run_isAgg w]
          cases hg : z.k.agg with
          | true =>
            rw [hg] at hv;simp only [if_true] at hv ⊢;simp only [Sem.run_bind,Tz.run_sizeOf w,Result.andThen_ok];have e:=hv.2;simp only [SV.den] at e;rw [e]
            simp
          | false =>
            rw [hg] at hv;simp only [Bool.false_eq_true,if_false] at hv ⊢;have : (dens B segs).toArray[fd.offset]? = some (SV.den B r):=by simpa using hv
            simp only [this];rfl
      | _=>exact h.elim
    | _=>rw [hk] at h;exact h.elim
  | indexAddr t x ix =>
    rw [ho] at h;obtain ⟨v,h1,kv,ev⟩:=st.ev h;obtain ⟨u,h2,ku,eu⟩:=st.ev h1;obtain ⟨y,T,h3⟩:=q0c ok h2
    have fin : ∀ r : SV,r.ok m.B → f r m → (∀ w,(Instr.indexAt t (v.den m.B) (u.den m.B)).run P w = .ok (r.den m.B) w) → Did P tt a o m w f:=fun r kr hf hr =>
      .pure kr (fun w _=>val (s:=Instr.indexAt t (a.eval x) (a.eval ix)) (by simp only [Go.execOp,ho]) (by rw [ev,eu];exact hr w)) hf
    clear h h1 h2
    cases hk : y.k with
    | array n e =>
      rw [hk] at h3;have hu:=q34 T hk
      cases v with
      | c z =>
        cases z with
        | ptr i off =>
          cases u with
          | c z' =>
            cases z' with
            | int k j =>
              obtain ⟨ye,Te,hb,hf⟩:=q0c ok h3;refine fin (.c (.elt i off (j.toNat * ye.size))) kv hf ?_;intro w
              simp [Instr.indexAt,SV.den,SC.den,asIntOf,run_underlying hu,Instr.sureAddr,hb,Te.run_sizeOf w,q0l]
            | _=>exact h3.elim
          | _=>exact h3.elim
        | rp b off =>
          cases u with
          | c z' =>
            cases z' with
            | int k j =>
              obtain ⟨ye,Te,hb,hf⟩:=q0c ok h3;refine fin (.c (.rp b (off + j.toNat * ye.size))) trivial hf ?_;intro w
              simp [Instr.indexAt,SV.den,SC.den,asIntOf,run_underlying hu,Instr.sureAddr,hb,Te.run_sizeOf w,q0l]
            | _=>exact h3.elim
          | _=>exact h3.elim
        | _=>exact h3.elim
      | _=>exact h3.elim
    | slice e =>
      rw [hk] at h3;have hu:=q21 T hk
      cases v with
      | c z =>
        cases z with
        | slc i off len cap =>
          cases u with
          | c z' =>
            cases z' with
            | int k j =>
              obtain ⟨ye,Te,hb,hf⟩:=q0c ok h3;refine fin (.c (.elt i off (j.toNat * ye.size))) kv hf ?_;intro w
              simp [Instr.indexAt,SV.den,SC.den,asIntOf,run_underlying hu,hb,Te.run_sizeOf w,q0l]
            | _=>exact h3.elim
          | _=>exact h3.elim
        | rs p len cap =>
          cases u with
          | c z' =>
            cases z' with
            | int k j =>
              obtain ⟨ye,Te,hb,h4⟩:=q0c ok h3;obtain ⟨p,rfl,hf⟩:=h4.h st.k w st.s;refine fin (.c (.rp p.1 (p.2 + j.toNat * ye.size))) trivial hf ?_;intro w
              simp [Instr.indexAt,SV.den,SC.den,asIntOf,run_underlying hu,hb,Te.run_sizeOf w,q0l,radr]
            | _=>exact h3.elim
          | _=>exact h3.elim
        | _=>exact h3.elim
      | _=>exact h3.elim
    | _=>rw [hk] at h3;exact h3.elim
  | index t x ix =>
    rw [ho] at h;obtain ⟨v,h1,kv,ev⟩:=st.ev h;obtain ⟨u,h2,ku,eu⟩:=st.ev h1;obtain ⟨y,T,h3⟩:=q0c ok h2;clear h h1 h2
    cases m with
    | mk B H F =>
    have fin : ∀ r : SV,r.ok B → f r ⟨B,H,F⟩ → (∀ w,(Instr.index t (v.den B) (u.den B)).run P w = .ok (r.den B) w) → Did P tt a o ⟨B,H,F⟩ w f:=fun r kr hf hr =>
      .pure kr (fun w _=>val (s:=Instr.index t (a.eval x) (a.eval ix)) (by simp only [Go.execOp,ho]) (by rw [ev,eu];exact hr w)) hf
    cases hk : y.k with
    | array n e =>
      rw [hk] at h3;have hu:=q34 T hk
      cases v with
      | agg segs =>
        cases segs with
        | nil=>exact h3.elim
        | cons sg rest =>
          cases sg with
          | one _=>exact h3.elim
          | many q l =>
            cases rest with
            | cons _ _=>exact h3.elim
            | nil =>
              cases u with
              | c z' =>
                cases z' with
                | int k j =>
                  obtain ⟨ye,Te,h4⟩:=q0c ok h3
                  cases hg : ye.k.agg with
                  | true=>rw [hg] at h4;exact h4.elim
                  | false =>
                    rw [hg] at h4;obtain ⟨hb,h5⟩:=h4;obtain ⟨r,hr,kr,hf⟩:=h5.h;refine fin (.c r) kr hf ?_;intro w;simp only [Instr.index,SV.den,SC.den,asIntOf,Sem.run_bind,Sem.run_pure,Result.andThen_ok,run_underlying hu,dens,List.flatMap_cons,List.flatMap_nil,Seg.den,List.append_nil];rw [if_pos hb];simp only [Sem.run_bind,Te.run_sizeOf w,Result.andThen_ok,part,Te.run_isAgg w,hg,Bool.false_eq_true,if_false];have : l.toArray[j.toNat * ye.size]? = some (r.den B):=by simpa using hr
                    simp only [this];rfl
                | _=>exact h3.elim
              | _=>exact h3.elim
      | _=>exact h3.elim
    | str =>
      rw [hk] at h3;have hu:=qav T hk
      cases v with
      | c z =>
        cases z with
        | str s =>
          cases u with
          | c z' =>
            cases z' with
            | int k j =>
              obtain ⟨hb,b,hs,hf⟩:=h3;refine fin (.c (.int .u8 (b.toNat : Int))) trivial hf ?_;intro w;simp only [Instr.index,SV.den,SC.den,asIntOf,Sem.run_bind,Sem.run_pure,Result.andThen_ok,run_underlying hu];rw [if_pos hb.1,hs];rfl
            | _=>exact h3.elim
          | _=>exact h3.elim
        | _=>exact h3.elim
      | _=>exact h3.elim
    | _=>rw [hk] at h3;exact h3.elim
  | extract t i =>
    rw [ho] at h;obtain ⟨v,h1,kv,ev⟩:=st.ev h;clear h
    cases v with
    | tup l =>
      have key : ∀ (l : List SA) (i : Nat),extractV.go (fun x=>f x m) l i → ∃ x,l[i]? = some x ∧ f x.sv m:=by
        intro l
        induction l with
        | nil=>intro i h;exact h.elim
        | cons y r ih =>
          intro i h
          cases i with
          | zero=>exact ⟨y,rfl,h⟩
          | succ i=>obtain ⟨x,e,hf⟩:=ih i h;exact ⟨x,by simpa using e,hf⟩
      obtain ⟨x,e,hf⟩:=key l i h1;have kx : x.ok m.B:=kv x (List.mem_of_getElem? e);have kx' : (x.sv).ok m.B ∧ (x.sv).den m.B = x.den m.B:=by cases x <;> exact ⟨kx,rfl⟩
      refine .pure kx'.1 (fun w _=>val (s:=Instr.extract (a.eval t) i) (by simp only [Go.execOp,ho]) ?_) hf;rw [ev,kx'.2]
      simp [Instr.extract,SV.den,e]
    | _=>exact h1.elim
  | lookup t x i c =>
    rw [ho] at h;obtain ⟨v,h1,kv,ev⟩:=st.ev h;obtain ⟨u,h2,ku,eu⟩:=st.ev h1;obtain ⟨v',w',hr,he⟩:=RunOb.spec h2 st;exact .value (by unfold quiet;rw [ho];exact fun h=>h) (val (s:=Instr.lookup t (a.eval x) (a.eval i) c) (by simp only [Go.execOp,ho]) (by rw [ev,eu];exact hr)) he
  | range t x =>
    rw [ho] at h;obtain ⟨v,h1,kv,ev⟩:=st.ev h;obtain ⟨v',w',hr,he⟩:=RunOb.spec h1 st;exact .value (by unfold quiet;rw [ho];exact fun h=>h) (val (s:=Instr.range t (a.eval x)) (by simp only [Go.execOp,ho]) (by rw [ev];exact hr)) he
  | next x s =>
    rw [ho] at h;obtain ⟨v,h1,kv,ev⟩:=st.ev h;obtain ⟨v',w',hr,he⟩:=RunOb.spec h1 st;exact .value (by unfold quiet;rw [ho];exact fun h=>h) (val (s:=Instr.next (a.eval x) s o.type) (by simp only [Go.execOp,ho]) (by rw [ev];exact hr)) he
  | entry x =>
    rw [ho] at h;obtain ⟨v,h1,kv,ev⟩:=st.ev h;obtain ⟨v',w',hr,he⟩:=RunOb.spec h1 st;exact .value (by unfold quiet;rw [ho];exact fun h=>h) (val (s:=Instr.entry (a.eval x)) (by simp only [Go.execOp,ho]) (by rw [ev];exact hr)) he
  | mapUpdate t x k y =>
    rw [ho] at h;obtain ⟨v,h1,kv,ev⟩:=st.ev h;obtain ⟨u,h2,ku,eu⟩:=st.ev h1;obtain ⟨z,h3,kz,ez⟩:=st.ev h2;obtain ⟨v',w',hr,he⟩:=RunOb.spec h3 st;simp only [Sem.run_bind] at hr
    cases hq : (Instr.mapUpdate t (v.den m.B) (u.den m.B) (z.den m.B)).run P w with
    | ok q w'' =>
      rw [hq] at hr
      simp at hr
      obtain ⟨rfl,rfl⟩:=hr;exact .inr ⟨(by unfold quiet;rw [ho];exact fun h=>h),.inl (q9z (s:=Instr.mapUpdate t (a.eval x) (a.eval k) (a.eval y)) (by simp only [Go.execOp,ho]) (by rw [ev,eu,ez];exact hq) he)⟩
    | halt q w''=>rw [hq] at hr;simp at hr
  | call c =>
    rw [ho] at h;dsimp only at h
    cases hc : c.callee with
    | invoke r n=>rw [hc] at h;exact h.elim
    | value g =>
      rw [hc] at h;obtain ⟨fv,h1,kf,ef⟩:=st.ev h;obtain ⟨l,h2,kl,el⟩:=st.evs h1;clear h h1
      cases m with
      | mk B H F =>
      have eargs : c.args.map a.eval = (l.map (SV.den B)).toArray:=by rw [← el,← Array.toList_map]
      have key : ∀ (n : Nat) (first captured : Array Value) (args : List SV),fv = .c (.raw (.func (.func n) first captured)) →
          args.map (SV.den B) = first.toList ++ (l.map (SV.den B) ++ captured.toList) → Cq P n args ⟨B,H,F⟩ (fun x H' F'=>f x ⟨B,H',F'⟩) → Did P tt a o ⟨B,H,F⟩ w f:=by
        intro n first captured args hfv hargs hcall;refine .inr ⟨by unfold quiet;rw [ho];dsimp only [loud];rw [hc];exact fun h=>h,Or.elim (hcall.spec st ?_ fun x H F h=>h) .inl (fun h=>.inr (.inl h))⟩;simp only [Go.execOp,ho,Sem.run_bind,resolve,hc,ef,hfv,SV.den,SC.den,Deferred.ofValue,Sem.run_pure,Result.andThen_ok,invoke,eargs];congr 2;rw [hargs]
        simp
      have svs : ∀ vs : List Value,(vs.map svOf).map (SV.den B) = vs:=by
        intro vs;rw [List.map_map]
        have : ∀ v : Value,(SV.den B ∘ svOf) v = v:=by
          intro v
          cases v with
          | agg cs=>simp [svOf,SV.den,dens,Seg.den]
          | bool b=>cases b <;> rfl
          | slice x n c=>rfl
          | _=>rfl
        (conv=>rhs;rw [← List.map_id vs]);exact List.map_congr_left fun v _=>this v
      cases fv with
      | c z =>
        cases z with
        | raw v =>
          cases v with
          | func fn first captured =>
            cases fn with
            | func n =>
              have h3 : (match first.toList,captured.toList with
                | [],[]=>Cq P n l ⟨B,H,F⟩ fun x H' F'=>f x ⟨B,H',F'⟩
                | a,c=>Cq P n (a.map svOf ++ (l ++ c.map svOf)) ⟨B,H,F⟩ fun x H' F'=>f x ⟨B,H',F'⟩):=h2
              split at h3
              · rename_i e1 e2
                exact key n first captured l rfl (by simp [e1,e2]) h3
              · exact key n first captured _ rfl (by rw [List.map_append,List.map_append,svs,svs]) h3
            | yield l' =>
              have h3 : (match first.toList with
                | []=>YieldOb P l' l ⟨B,H,F⟩ fun x H' F'=>f x ⟨B,H',F'⟩
                | _=>False):=h2
              split at h3
              · rename_i e1
                obtain ⟨fn,tmps,assign,body,hr,hb⟩:=h3.h st.k w st.s;refine .inr ⟨by unfold quiet;rw [ho];dsimp only [loud];rw [hc];exact fun h=>h,.inr (.inr ⟨l',fn,tmps,assign,body,?_,hb.mono ?_⟩)⟩
                · simp only [Go.execOp,ho,Sem.run_bind,resolve,hc,ef,SV.den,SC.den,Deferred.ofValue,Sem.run_pure,Result.andThen_ok,invoke,eargs]
                  have e2 : first ++ (l.map (SV.den B)).toArray = (l.map (SV.den B)).toArray:=by
                    apply Array.ext';simp [e1]
                  rw [e2];exact hr
                · rintro e w' ⟨x,H',F',he,kx,hs,hk,hf⟩;exact ⟨_,he,x,⟨B,H',F'⟩,rfl,kx,.inl rfl,hk,hs,hf⟩
              · exact h3.elim
            | _=>exact h2.elim
          | _=>exact h2.elim
        | _=>exact h2.elim
      | _=>exact h2.elim
    | builtin b =>
      rw [hc] at h;obtain ⟨l,h2,kl,el⟩:=st.evs h;clear h;have eargs : c.args.map a.eval = (l.map (SV.den m.B)).toArray:=by rw [← el,← Array.toList_map]
      have run : ∃ cs,∀ w,(Go.execOp a.eval o).run P w = (Go.builtin b c.argTypes o.type cs (l.map (SV.den m.B)).toArray).run P w :=
        ⟨_,fun w=>by simp only [Go.execOp,ho,Sem.run_bind,resolve,hc,Sem.run_pure,Result.andThen_ok,invoke,eargs];rfl⟩
      obtain ⟨cs,run⟩:=run
      have fin : ∀ r : SV,r.ok m.B → f r m → (∀ w,(Go.builtin b c.argTypes o.type cs (l.map (SV.den m.B)).toArray).run P w = .ok (.value (r.den m.B)) w) → Did P tt a o m w f:=fun r kr hf hr =>
        .pure kr (fun w _=>by rw [run w];exact hr w) hf
      have fin' : ∀ r : SV,r.ok m.B → f r m → (∀ w,sat m.props w → (Go.builtin b c.argTypes o.type cs (l.map (SV.den m.B)).toArray).run P w = .ok (.value (r.den m.B)) w) → Did P tt a o m w f:=fun r kr hf hr =>
        .pure kr (fun w hs=>by rw [run w];exact hr w hs) hf
      have rob : ∀ s : Sem Value,¬ quiet tt o → RunOb P s m f → (Go.builtin b c.argTypes o.type cs (l.map (SV.den m.B)).toArray) = (do pure (.value (← s))) → Did P tt a o m w f:=fun s hq h e=>by
        obtain ⟨v',w',hr,he⟩:=RunOb.spec h st;exact .value hq (by rw [run w,e];simp [hr]) he
      have rob' : ∀ s : Sem Value,¬ quiet tt o → (qau tt c.argTypes.toList fun t x e y=>With (Ty P t x ∧ x.k = .slice e ∧ Ty P e y) (RunOb P s m f)) →
          (Go.builtin b c.argTypes o.type cs (l.map (SV.den m.B)).toArray) = (do pure (.value (← s))) → Did P tt a o m w f:=fun s hq h e=>by
        unfold qau at h
        split at h
        · exact h.elim
        · obtain ⟨x,T,h⟩:=q0c ok h
          cases hk : x.k with
          | slice e' =>
            rw [hk] at h;obtain ⟨y,Ty,h⟩:=q0c ok h;exact rob s hq (h.h ⟨T,hk,Ty⟩) e
          | _=>rw [hk] at h;exact h.elim
      cases b <;> first | exact h2.elim | skip
      case append=>exact rob' _ (by unfold quiet;rw [ho];dsimp only [loud];rw [hc];exact fun h=>h) h2 (by simp [Go.builtin])
      case copy=>exact rob' _ (by unfold quiet;rw [ho];dsimp only [loud];rw [hc];exact fun h=>h) h2 (by simp [Go.builtin])
      case clear=>exact rob _ (by unfold quiet;rw [ho];dsimp only [loud];rw [hc];exact fun h=>h) h2 (by simp [Go.builtin])
      case cap=>exact rob _ (by unfold quiet;rw [ho];dsimp only [loud];rw [hc];exact fun h=>h) h2 (by simp [Go.builtin])
      case delete=>exact rob _ (by unfold quiet;rw [ho];dsimp only [loud];rw [hc];exact fun h=>h) h2 (by simp [Go.builtin])
      case len =>
        dsimp only [q85] at h2
        split at h2
        · rename_i t ts x xs et
          have hat : c.argTypes[0]? = some t:=by rw [← Array.getElem?_toList,et];rfl
          have hx0 : ((x :: xs).map (SV.den m.B)).toArray[0]? = some (x.den m.B):=by simp
          have go : ∀ (n : Int),f (.c (.int .i64 n)) m → (∀ w,sat m.props w → (Builtin.len_ c.argTypes o.type ((x :: xs).map (SV.den m.B)).toArray).run P w = .ok (.int .i64 n) w) → Did P tt a o m w f:=by
            intro n hf hr;refine fin' (.c (.int .i64 n)) trivial hf ?_;intro w hs;simp only [Go.builtin,Sem.run_bind,hr w hs,Result.andThen_ok];rfl
          have low : (qmp tt t x fun n=>f (.c (.int .i64 n)) m) → Did P tt a o m w f:=by
            intro h4;obtain ⟨y,T,h5⟩:=q0c ok h4
            cases hk : y.k with
            | slice e =>
              rw [hk] at h5;have hu:=q21 T hk
              cases x with
              | c z =>
                cases z <;> first | exact h5.elim | skip
                case slc i off n q=>exact go n h5 (fun w _=>by simp [Builtin.len_,hat,SV.den,SC.den,run_underlying hu,goInt])
                case rs p n q=>exact go n h5 (fun w _=>by simp [Builtin.len_,hat,SV.den,SC.den,run_underlying hu,goInt])
              | _=>exact h5.elim
            | str =>
              rw [hk] at h5;have hu:=qav T hk
              cases x with
              | c z =>
                cases z <;> first | exact h5.elim | skip
                case str s=>exact go s.size h5 (fun w _=>by simp [Builtin.len_,hat,SV.den,SC.den,run_underlying hu,goInt])
              | _=>exact h5.elim
            | array n e =>
              rw [hk] at h5;have hu:=q34 T hk;exact go n h5 (fun w _=>by simp [Builtin.len_,hat,run_underlying hu,goInt])
            | ptr e =>
              rw [hk] at h5;have hu:=qps T hk;obtain ⟨z,Tz,h6⟩:=q0c ok h5
              cases hz : z.k with
              | array n e' =>
                rw [hz] at h6;have hu':=q34 Tz hz;exact go n h6 (fun w _=>by simp [Builtin.len_,hat,run_underlying hu,run_underlying hu',goInt])
              | _=>rw [hz] at h6;exact h6.elim
            | _=>rw [hk] at h5;exact h5.elim
          cases x with
          | c z =>
            cases z with
            | raw v =>
              obtain ⟨n,hf,hr⟩:=h2.h;exact go n hf (hr st.k)
            | _=>exact low h2
          | _=>exact low h2
        · exact h2.elim
      case min =>
        dsimp only [q85] at h2
        split at h2
        · obtain ⟨e0,hf⟩:=q51 h2;subst e0;refine fin (.c (.int _ _)) trivial hf ?_;intro w;simp only [Go.builtin,Builtin.min_,List.map_cons,List.map_nil,SV.den,SC.den,List.foldlM_cons,List.foldlM_nil,Builtin.min2,Sem.run_bind,Sem.run_pure,Result.andThen_ok];congr 3;rw [Int.min_def]
          split <;> split <;> omega
        · exact h2.elim
      case max =>
        dsimp only [q85] at h2
        split at h2
        · obtain ⟨e0,hf⟩:=q51 h2;subst e0;refine fin (.c (.int _ _)) trivial hf ?_;intro w;simp only [Go.builtin,Builtin.max_,List.map_cons,List.map_nil,SV.den,SC.den,List.foldlM_cons,List.foldlM_nil,Builtin.max2,Sem.run_bind,Sem.run_pure,Result.andThen_ok];congr 3;rw [Int.max_def]
          split <;> split <;> omega
        · exact h2.elim
  | _=>rw [ho] at h;exact h.elim
end
end Go.Sx
namespace Go.Sx
section
variable {P : Program} {tt : TT} {N : Nat} {env : Env} {m : M} {a : Act} {w : World} {o : Oper}
theorem q2d {d : Option Nat} {v : SV} {g : Env → Prop} {m' : M} {w' : World} (st : St N env m a w) (he : Ext m.B m'.B) (km : m'.ok) (s' : sat m'.props w') (kv : v.ok m'.B)
    (h : put N d v env g) : ∃ env',g env' ∧ St N env' m' (a.put d (v.den m'.B)) w':=by
  have live : ∀ t x,look env t (· = x) → x.ok m'.B ∧ a.tmps[t]? = some (x.den m'.B):=fun t x hx=>by
    have:=st.l t x hx;have e:=SV.ext he this.1;exact ⟨e.1,by rw [this.2,e.2]⟩
  cases d with
  | none=>exact ⟨env,h,st.d.trans he.ds.symm,st.n,live,km,s'⟩
  | some d =>
    simp only [put] at h
    cases hd : Nat.blt d N with
    | false=>rw [hd] at h;exact h.elim
    | true =>
      rw [hd] at h;have hlt : d < N:=by simpa [Nat.blt_eq] using hd
      refine ⟨_,h,st.d.trans he.ds.symm,by simp [Act.put,st.n],fun t x hx=>?_,km,s'⟩;simp only [look] at hx
      cases e : Nat.beq d t with
      | true =>
        rw [e] at hx;have hx : v = x:=hx;subst hx;have:=Nat.eq_of_beq_eq_true e;subst this;exact ⟨kv,by simp [Act.put,st.n,hlt]⟩
      | false =>
        rw [e] at hx;have hne:=Nat.ne_of_beq_eq_false e;have:=live t x hx;exact ⟨this.1,by rw [← this.2];simp [Act.put,hne]⟩
theorem q33 {d : Option Nat} {g : Env → Prop} (st : St N env m a w) (h : put N d (.tup []) env g) : ∃ env',g env' ∧ St N env' m (a.put d undef) w :=
  q2d st (.inl rfl) st.k st.s (by intro s hs;simp at hs) h
theorem q72 : ∀ {l : List Oper} {j : Nat} {f : Nat → Prop},dstAt l j f → ∃ s,(l[j]?).bind (·.dst) = some s ∧ f s
  | [],_,_,h=>h.elim
  | o :: r,0,f,h=>by
    simp only [dstAt] at h
    cases hd : o.dst with
    | none=>rw [hd] at h;exact h.elim
    | some d=>rw [hd] at h;exact ⟨d,by simp [hd],h⟩
  | o :: r,j + 1,f,h=>by
    obtain ⟨s,hs,hf⟩:=q72 (l:=r) h;exact ⟨s,by simpa using hs,hf⟩
theorem qdi {b want : Bool} {X Y : Prop} (h : fits b want X Y) : if b = want then X else Y:=by
  cases b <;> cases want <;> exact h
theorem St.know {s : Nat} {b : Bool} (st : St N env m a w) (hs : Sx.look env s (· = .c (.bool b))) (x : SC) (hx : x.den m.B = .bool b) (kx : x.ok m.B) : St N ((s,.c x) :: env) m a w:=by
  refine ⟨st.d,st.n,fun t y hy=>?_,st.k,st.s⟩;simp only [Sx.look] at hy
  cases e : Nat.beq s t with
  | true =>
    rw [e] at hy;have hy : SV.c x = y:=hy;subst hy;have:=Nat.eq_of_beq_eq_true e;subst this;have:=st.l s _ hs;exact ⟨kx,by rw [this.2];exact congrArg some hx.symm⟩
  | false=>rw [e] at hy;exact st.l t y hy
theorem nd_of {f : SV → M → Prop} (h : Sx.execOp P tt o env m f) : ∀ c,o.op ≠ .defer c:=by
  intro c e;unfold Sx.execOp at h;rw [e] at h;exact h
theorem q79 {ro : Option Nat} {n : Nat} {f : FuncId} {args : Array Value} {w : World} {R : Ending → World → Prop} : CallsIn (Wf ro) n P f args w R ↔ Calls P f args w R:=callsIn_wide
theorem qh1 {ro : Option Nat} {n : Nat} {l f : Nat} {tmps : Array Value} {x y : Code} {w : World} {R : Ending → World → Prop} (h : RoundIn Fence.wide 0 P l f tmps x y w R) : RoundIn (Wf ro) n P l f tmps x y w R :=
  ⟨trivial,fun c cs _=>h.2 c cs (room_wide _)⟩
theorem q97 {ro : Option Nat} {Q : Exit → Act → World → Prop} {next : Act → World → Prop} (hnd : ∀ c,o.op ≠ .defer c) (h : o.uponIn (Wf ro) 0 P a next Q ((Go.execOp a.eval o).run P w)) : o.wpIn (Wf ro) 0 P a w next Q :=
  ⟨fun _ _=>trivial,by rw [show o.semAt (Wf ro).round a.eval = Go.execOp a.eval o from Oper.semAt_eq _ _ _ hnd];exact h⟩
theorem q3z {ro : Option Nat} {Q : Exit → Act → World → Prop} {next : Act → World → Prop} {f : SV → M → Prop} (hnd : ∀ c,o.op ≠ .defer c) (h : Did P tt a o m w f) (km : m.ok) (hs : sat m.props w) (hn : ∀ v w',Ends m f v w' → next (a.put o.dst v) w') : o.wpIn (Wf ro) 0 P a w next Q:=by
  refine q97 hnd ?_
  rcases h with ⟨x,kx,hf,hr⟩ | ⟨_,⟨v,w',hr | ⟨hr,rfl⟩,he⟩ | ⟨n,args,hr,hc⟩ | ⟨l,fn,tmps,x,y,hr,hc⟩⟩
  · rw [hr w hs];exact hn _ _ ⟨x,m,rfl,kx,.inl rfl,km,hs,hf⟩
  · rw [hr];exact hn _ _ he
  · rw [hr];exact hn _ _ he
  · rw [hr,Oper.uponIn_enter];refine ⟨fun h=>(by cases h),q79.2 (hc.mono ?_)⟩;rintro e w' ⟨v,rfl,he⟩;exact hn _ _ he
  · rw [hr,Oper.uponIn_round];refine ⟨fun h=>(by cases h),qh1 (hc.mono ?_)⟩;rintro e w' ⟨v,rfl,he⟩;exact hn _ _ he
theorem q4z {ro : Option Nat} (ok : tt.ok P) {all : List Oper} {Q : Exit → Act → World → Prop} {f : Env → M → Prop} (hQ : ∀ a' w' env' m',St N env' m' a' w' → f env' m' → Q .normal a' w') :
    ∀ (r : List Oper) (env : Env) (m : M) (a : Act) (w : World),q5u P tt N all r env m f → St N env m a w → wpListIn (Wf ro) 0 P all.toArray Q r a w
  | [],env,m,a,w,h,st=>hQ _ _ _ _ st h
  | o :: r,env,m,a,w,h,st=>by
    have run : ∀ (env : Env),St N env m a w → Region.wanted o (yielded all.toArray a.tmps) = true →
        (Sx.execOp P tt o env m fun v m'=>put N o.dst v env fun env'=>q5u P tt N all r env' m' f) → wpListIn (Wf ro) 0 P all.toArray Q (o :: r) a w:=by
      intro env st hw h;unfold wpListIn;rw [if_pos hw];refine (q3z (nd_of h) (q1g ok st h) st.k st.s ?_);rintro v w' ⟨x,m',rfl,kx,he,km,hs,hf⟩;obtain ⟨env',hg,st'⟩:=q2d st he km hs kx hf;exact q4z ok hQ r env' m' _ w' hg st'
    have skip : ∀ (env : Env),St N env m a w → Region.wanted o (yielded all.toArray a.tmps) = false →
        (put N o.dst (.tup []) env fun env'=>q5u P tt N all r env' m f) → wpListIn (Wf ro) 0 P all.toArray Q (o :: r) a w:=by
      intro env st hw h;unfold wpListIn;rw [if_neg (by rw [hw];simp)];obtain ⟨env',hg,st'⟩:=q33 st h;refine ⟨fun _ _=>trivial,?_⟩;exact q4z ok hQ r env' m _ w hg st'
    have h : qhc P tt N all o (q5u P tt N all r) env m f:=h;unfold qhc at h
    cases hgd : o.guard with
    | none=>rw [hgd] at h;exact run env st (by simp [Region.wanted,hgd]) h
    | some jw =>
      obtain ⟨j,want⟩:=jw;rw [hgd] at h;obtain ⟨s,hs,h1⟩:=q72 h;obtain ⟨c,hc,h2⟩:=q4w h1;have hslot:=st.l s c hc
      have hy : ∀ b,c.den m.B = .bool b → Region.wanted o (yielded all.toArray a.tmps) = (b == want):=by
        intro b hb
        have : yielded all.toArray a.tmps j = some b:=by
          unfold yielded;simp only [List.getElem?_toArray,hs,Option.bind_some,hslot.2,hb]
        simp only [Region.wanted,hgd,this];cases b <;> cases want <;> rfl
      have both : ∀ (b : Bool) (env : Env),St N env m a w → c.den m.B = .bool b → fits b want (Sx.execOp P tt o env m fun v m'=>put N o.dst v env fun env'=>q5u P tt N all r env' m' f)
          (put N o.dst (.tup []) env fun env'=>q5u P tt N all r env' m f) → wpListIn (Wf ro) 0 P all.toArray Q (o :: r) a w:=by
        intro b env st hb h;have h:=qdi h
        by_cases e : b = want
        · rw [if_pos e] at h;exact run env st (by rw [hy b hb,e];simp) h
        · rw [if_neg e] at h;exact skip env st (by rw [hy b hb];simpa using e) h
      clear h h1
      cases c with
      | c x =>
        cases x with
        | tt=>exact both true env st rfl h2
        | ff=>exact both false env st rfl h2
        | bool b =>
          cases b with
          | true=>exact both true _ (st.know hc .tt rfl trivial) rfl (h2.t rfl)
          | false=>exact both false _ (st.know hc .ff rfl trivial) rfl (h2.f rfl)
        | _=>exact h2.elim
      | tup l =>
        cases l with
        | nil =>
          refine skip env st ?_ h2
          have : yielded all.toArray a.tmps j = none:=by
            unfold yielded;simp only [List.getElem?_toArray,hs,Option.bind_some,hslot.2];rfl
          simp only [Region.wanted,hgd,this];rfl
        | cons _ _=>exact h2.elim
      | _=>exact h2.elim
def Ex.toExit : Ex → Exit
  | .normal=>.normal
  | .exit i=>.exit i
  | .ret=>.ret
theorem Wk.st {env env' : Env} {m m' : M} (h : Wk env m env' m') (st : St N env m a w) : St N env' m' a w:=by
  obtain ⟨km,hs,hl⟩:=h.h w st.k st.s (fun t x hx=>(st.l t x hx).1);refine ⟨st.d.trans h.b.symm,st.n,fun t y hy=>?_,km,hs⟩;obtain ⟨ky,x,hx,e⟩:=hl t y hy;exact ⟨ky,by rw [(st.l t x hx).2,e]⟩
theorem q7h {a b : Bool} (h : (a && b) = true) : a = true ∧ b = true:=by cases a <;> cases b <;> simp_all
theorem qh6 {ro : Option Nat} {Q : Exit → Act → World → Prop} {c : Code} (I : Nat → Act → World → Prop) (n₀ : Nat) (h₀ : I n₀ a w)
    (round : ∀ n a w,I n a w → c.wpIn (Wf ro) 0 P (Exit.then (fun a' w'=>∃ n',n' < n ∧ I n' a' w') Q) a w) : (Code.loop c).wpIn (Wf ro) 0 P Q a w:=by
  refine wpIn_loop (fun a w=>∃ n,I n a w) (fun a w=>leastOf (fun n=>I n a w)) ⟨n₀,h₀⟩ ?_;intro a w hI;refine wpIn_mono (round _ a w (leastOf_spec hI).1) ?_;intro e a' w' hq
  cases e with
  | normal =>
    obtain ⟨n',hlt,hI'⟩:=hq;exact show (∃ n,I n a' w') ∧ leastOf (fun n=>I n a' w') < leastOf (fun n=>I n a w) from ⟨⟨n',hI'⟩,Nat.lt_of_le_of_lt ((leastOf_spec ⟨n',hI'⟩).2 n' hI') hlt⟩
  | _=>exact hq
theorem q22 {l m : List HP} {h : Hp} : seps (l ++ m) h ↔ seps (l ++ [all m]) h:=by
  constructor
  · intro s;exact q1t (l:=[all m]) (q14.2 (q1t s))
  · intro s;exact q1t (q14.1 (q1t (m:=[all m]) s))
theorem q4v {pr Z : List HP} {l : Nat} {o : Obj} (o' : Obj) (h : sat (pr ++ [all (blk l o :: Z)]) w) : w.heap[l]? = some o ∧ sat (pr ++ [all (blk l o' :: Z)]) (w.putObj l o'):=by
  have h1 : sat (blk l o :: (pr ++ Z)) w:=q19.1 (q22.2 h);have hl:=qdu h1;have hlt : l < w.heap.size:=(Array.getElem?_eq_some_iff.1 hl).1;refine ⟨hl,q22.1 (q19.2 (q36 h1 (World.putObj_heap_same hlt) (fun c hc=>World.putObj_heap_other hc)))⟩
theorem qic : ∀ {B : Names},dsOf B = [] → ¬ has B 1000000
  | [],_,h=>h
  | (k,b) :: r,hd,h=>by
    simp only [dsOf] at hd
    cases e : Nat.ble 1000000 k with
    | true=>rw [e] at hd;cases hd
    | false =>
      rw [e] at hd
      rcases (q4l k b r 1000000).1 h with rfl | h
      · cases e
      · exact qic hd h
theorem qd7 {B : Names} (hd : dsOf B = []) (r : Nat) : ExtS B ((1000000,r) :: B):=⟨fun i hi=>by
  have : ¬ 1000000 = i:=fun e=>qic hd (e ▸ hi);rw [q4l,qb2,if_neg this];exact ⟨.inr hi,rfl⟩⟩
theorem qgt {l : Nat} {rec : Loop} {p : Nat} {x y : Code} {B : Names} {σ : Type} {k : Nat → σ → Prop} {G : σ → List Chunk × List HP} {xs : List SV} {D : Nat} {tmps : Array Value}
    (hr : rec.state = .ready ∧ rec.pending = none ∧ rec.params = #[p] ∧ rec.assign = x ∧ rec.body = y ∧ rec.tmps = tmps) (hd : dsOf B = []) (hN : tmps.size = N) (hp : p < N)
    (hl : ∀ t x,look env t (· = x) → x.ok B ∧ tmps[t]? = some (x.den B))
    (ihx : ∀ env m a w Q f,exec P tt N x env m f → St N env m a w → (∀ e env m a w,f e env m → St N env m a w → Q e.toExit a w) → x.wpIn (Wf (some l)) 0 P Q a w)
    (ihy : ∀ env m a w Q f,exec P tt N y env m f → St N env m a w → (∀ e env m a w,f e env m → St N env m a w → Q e.toExit a w) → y.wpIn (Wf (some l)) 0 P Q a w)
    (h : ∀ i s x',xs[i]? = some x' → k i s → x'.ok [] ∧ ∀ R,exec P tt N x ((p,x') :: env) ⟨B,(G s).1,(G s).2 ++ [R]⟩ fun e env' m'=>e = .normal ∧ m' = ⟨B,(G s).1,(G s).2 ++ [R]⟩ ∧
      ∀ R,exec P tt N y env' ⟨B,(G s).1,(G s).2 ++ [R]⟩ fun e _ m'=>e = .normal ∧ ∃ s',k (i + 1) s' ∧
        (m'.ok → ∀ w,sat m'.props w → (M.mk B (G s').1 (G s').2).ok ∧ sat (M.props ⟨B,(G s').1,(G s').2 ++ [R]⟩) w)) :
    ∀ i x',xs[i]? = some x' → qi8 P l (x'.den [])
      (fun g=>∃ s,k i s ∧ (M.mk B (G s).1 (G s).2).ok ∧ all ((M.mk B (G s).1 (G s).2).props ++ [blk l (.loop rec),Mk D]) g)
      (fun g=>∃ s,k (i + 1) s ∧ (M.mk B (G s).1 (G s).2).ok ∧ all ((M.mk B (G s).1 (G s).2).props ++ [blk l (.loop rec),Mk D]) g):=by
  intro i x' hx R w2 hs;obtain ⟨g0,g1,d,hg0,hg1,⟨s,hk,hok,hall⟩,hR⟩:=hs;have s1 : sat (((M.mk B (G s).1 (G s).2).props ++ [blk l (.loop rec),Mk D]) ++ [R]) w2:=q14.1 ⟨g0,g1,d,hg0,hg1,hall,hR⟩;rw [List.append_assoc] at s1;have s2:=q22.1 s1;have key : ∀ s R,M.props ⟨B,(G s).1,(G s).2 ++ [R]⟩ = (M.mk B (G s).1 (G s).2).props ++ [R]:=fun s R=>by simp [M.props]
  obtain ⟨hlk,_⟩:=q4v (.loop rec) s2;obtain ⟨kx,hA⟩:=h i s x' hx hk;have kx':=SV.exts (B:=[]) (B':=B) ⟨fun i h=>h.elim⟩ kx;refine ⟨_,_,_,_,run_yield hlk (by rw [hr.2.2.1];rfl),?_⟩;rw [hr.2.2.1,hr.2.2.2.1,hr.2.2.2.2.1,hr.2.2.2.2.2];refine roundIn_of_wpIn trivial ?_;refine ihx _ _ _ _ _ _ (hA (all ([blk l (.loop rec),Mk D] ++ [R]))) ⟨hd.symm,?_,fun t z hz=>?_,hok,by rw [key];exact s2⟩ ?_
  · simpa using hN
  · simp only [look] at hz
    cases e : Nat.beq p t with
    | true =>
      rw [e] at hz;have hz : x' = z:=hz;subst hz;have:=Nat.eq_of_beq_eq_true e;subst this;refine ⟨kx'.1,?_⟩;rw [kx'.2]
      simp [hN,hp]
    | false =>
      rw [e] at hz;have hne:=Nat.ne_of_beq_eq_false e;have:=hl t z hz;refine ⟨this.1,?_⟩;rw [← this.2]
      simp [hne]
  · rintro e env' m' a' w' ⟨rfl,rfl,hB⟩ st';have s3:=st'.s;rw [key] at s3
    obtain ⟨hlk',s4⟩:=q4v (.loop { rec with state:=.busy }) s3;refine ⟨_,run_beginRound hlk' hr.1,?_⟩
    refine ihy _ _ _ _ _ _ (hB (all ([blk l (.loop { rec with state:=.busy }),Mk D] ++ [R]))) ⟨st'.d,st'.n,st'.l,hok,by rw [key];exact s4⟩ ?_;rintro e env2 m2 a2 w3 ⟨rfl,s',hk',hm⟩ st2;obtain ⟨hok',s5⟩:=hm st2.k w3 st2.s;rw [key] at s5;obtain ⟨hlk2,s6⟩:=q4v (.loop rec) s5
    have hrec : (Obj.loop { { rec with state:=.busy } with state:=if (none : Option Code).isNone then .ready else .done,pending:=none }) = .loop rec:=by
      obtain ⟨h1,h2,_⟩:=hr;cases rec
      simp_all
    refine ⟨_,_,run_endRound none hlk2,rfl,?_⟩;rw [hrec];have s7 : seps ((M.mk B (G s').1 (G s').2).props ++ ([blk l (.loop rec),Mk D] ++ [R])) _:=q22.2 s6;rw [← List.append_assoc] at s7;have s8:=q14.2 s7;obtain ⟨g0,g1,d,hg0,hg1,hall,hR⟩:=s8;exact ⟨g0,g1,d,hg0,hg1,⟨s',hk',hok',hall⟩,hR⟩
theorem qdw {l : Nat} {rec : Loop} {p p' : Nat} {x y : Code} {B : Names} {σ : Type} {k : Nat → σ → Prop} {G : σ → List Chunk × List HP} {xs : List (SV × SV)} {D : Nat} {tmps : Array Value}
    (hr : rec.state = .ready ∧ rec.pending = none ∧ rec.params = #[p,p'] ∧ rec.assign = x ∧ rec.body = y ∧ rec.tmps = tmps) (hd : dsOf B = []) (hN : tmps.size = N) (hp : p < N) (hp' : p' < N) (hne' : p ≠ p')
    (hl : ∀ t x,look env t (· = x) → x.ok B ∧ tmps[t]? = some (x.den B))
    (ihx : ∀ env m a w Q f,exec P tt N x env m f → St N env m a w → (∀ e env m a w,f e env m → St N env m a w → Q e.toExit a w) → x.wpIn (Wf (some l)) 0 P Q a w)
    (ihy : ∀ env m a w Q f,exec P tt N y env m f → St N env m a w → (∀ e env m a w,f e env m → St N env m a w → Q e.toExit a w) → y.wpIn (Wf (some l)) 0 P Q a w)
    (h : ∀ i s x',xs[i]? = some x' → k i s → (x'.1.ok [] ∧ x'.2.ok []) ∧ ∀ R,exec P tt N x ((p,x'.1) :: (p',x'.2) :: env) ⟨B,(G s).1,(G s).2 ++ [R]⟩ fun e env' m'=>e = .normal ∧ ∃ B1 H1,m' = ⟨B1,H1,(G s).2 ++ [R]⟩ ∧
      ∀ R,exec P tt N y env' ⟨B1,H1,(G s).2 ++ [R]⟩ fun e _ m'=>e = .normal ∧ ∃ s',k (i + 1) s' ∧
        (m'.ok → ∀ w,sat m'.props w → (M.mk B (G s').1 (G s').2).ok ∧ sat (M.props ⟨B,(G s').1,(G s').2 ++ [R]⟩) w)) :
    ∀ i x',xs[i]? = some x' → q80 P l (x'.1.den []) (x'.2.den [])
      (fun g=>∃ s,k i s ∧ (M.mk B (G s).1 (G s).2).ok ∧ all ((M.mk B (G s).1 (G s).2).props ++ [blk l (.loop rec),Mk D]) g)
      (fun g=>∃ s,k (i + 1) s ∧ (M.mk B (G s).1 (G s).2).ok ∧ all ((M.mk B (G s).1 (G s).2).props ++ [blk l (.loop rec),Mk D]) g):=by
  intro i x' hx R w2 hs;obtain ⟨g0,g1,d,hg0,hg1,⟨s,hk,hok,hall⟩,hR⟩:=hs;have s1 : sat (((M.mk B (G s).1 (G s).2).props ++ [blk l (.loop rec),Mk D]) ++ [R]) w2:=q14.1 ⟨g0,g1,d,hg0,hg1,hall,hR⟩;rw [List.append_assoc] at s1;have s2:=q22.1 s1;have key : ∀ s R,M.props ⟨B,(G s).1,(G s).2 ++ [R]⟩ = (M.mk B (G s).1 (G s).2).props ++ [R]:=fun s R=>by simp [M.props]
  obtain ⟨hlk,_⟩:=q4v (.loop rec) s2;obtain ⟨kx,hA⟩:=h i s x' hx hk;have kx':=SV.exts (B:=[]) (B':=B) ⟨fun i h=>h.elim⟩ kx.1;have kx2:=SV.exts (B:=[]) (B':=B) ⟨fun i h=>h.elim⟩ kx.2;refine ⟨_,_,_,_,run_yield hlk (by rw [hr.2.2.1];rfl),?_⟩;rw [hr.2.2.1,hr.2.2.2.1,hr.2.2.2.2.1,hr.2.2.2.2.2];refine roundIn_of_wpIn trivial ?_;refine ihx _ _ _ _ _ _ (hA (all ([blk l (.loop rec),Mk D] ++ [R]))) ⟨hd.symm,?_,fun t z hz=>?_,hok,by rw [key];exact s2⟩ ?_
  · simpa using hN
  · simp only [look] at hz
    cases e : Nat.beq p t with
    | true =>
      rw [e] at hz;have hz : x'.1 = z:=hz;subst hz;have:=Nat.eq_of_beq_eq_true e;subst this;refine ⟨kx'.1,?_⟩;rw [kx'.2]
      simp [hN,hp,Ne.symm hne']
    | false =>
      rw [e] at hz;have hne:=Nat.ne_of_beq_eq_false e
      cases e2 : Nat.beq p' t with
      | true =>
        rw [e2] at hz;have hz : x'.2 = z:=hz;subst hz;have:=Nat.eq_of_beq_eq_true e2;subst this;refine ⟨kx2.1,?_⟩;rw [kx2.2]
        simp [hN,hp']
      | false =>
        rw [e2] at hz;have hne2:=Nat.ne_of_beq_eq_false e2;have:=hl t z hz;refine ⟨this.1,?_⟩;rw [← this.2]
        simp [hne,hne2]
  · rintro e env' m' a' w' ⟨rfl,B1,H1,rfl,hB⟩ st';have key1 : ∀ R,M.props ⟨B1,H1,(G s).2 ++ [R]⟩ = (M.mk B1 H1 (G s).2).props ++ [R]:=fun R=>by simp [M.props]
    have s3:=st'.s;rw [key1] at s3
    obtain ⟨hlk',s4⟩:=q4v (.loop { rec with state:=.busy }) s3;refine ⟨_,run_beginRound hlk' hr.1,?_⟩
    refine ihy _ _ _ _ _ _ (hB (all ([blk l (.loop { rec with state:=.busy }),Mk D] ++ [R]))) ⟨st'.d,st'.n,st'.l,st'.k,by rw [key1];exact s4⟩ ?_;rintro e env2 m2 a2 w3 ⟨rfl,s',hk',hm⟩ st2;obtain ⟨hok',s5⟩:=hm st2.k w3 st2.s;rw [key] at s5;obtain ⟨hlk2,s6⟩:=q4v (.loop rec) s5
    have hrec : (Obj.loop { { rec with state:=.busy } with state:=if (none : Option Code).isNone then .ready else .done,pending:=none }) = .loop rec:=by
      obtain ⟨h1,h2,_⟩:=hr;cases rec
      simp_all
    refine ⟨_,_,run_endRound none hlk2,rfl,?_⟩;rw [hrec];have s7 : seps ((M.mk B (G s').1 (G s').2).props ++ ([blk l (.loop rec),Mk D] ++ [R])) _:=q22.2 s6;rw [← List.append_assoc] at s7;have s8:=q14.2 s7;obtain ⟨g0,g1,d,hg0,hg1,hall,hR⟩:=s8;exact ⟨g0,g1,d,hg0,hg1,⟨s',hk',hok',hall⟩,hR⟩
theorem qhi (ok : tt.ok P) : ∀ (c : Code) (ro : Option Nat) (_ : ro = none ∨ q96 c = true) (env : Env) (m : M) (a : Act) (w : World) (Q : Exit → Act → World → Prop) (f : Ex → Env → M → Prop),exec P tt N c env m f → St N env m a w →
    (∀ e env m a w,f e env m → St N env m a w → Q e.toExit a w) → c.wpIn (Wf ro) 0 P Q a w:=by
  intro c
  induction c with
  | skip=>intro ro hro env m a w Q f h st hQ;exact wpIn_skip (hQ .normal _ _ _ _ h st)
  | label l=>intro ro hro env m a w Q f h st hQ;exact wpIn_label (hQ .normal _ _ _ _ h st)
  | region id ops d =>
    intro ro hro env m a w Q f h st hQ
    cases d with
    | false=>exact wpIn_region_list (q4z ok (fun a' w' env' m' st' h'=>hQ .normal _ _ _ _ h' st') ops.toList env m a w h st)
    | true =>
      have h : Draw P tt N ops.toList env m fun env' m'=>f .normal env' m':=h;have:=h.h ro id Q a w st.d st.n st.l st.k st.s (fun a' w' env' m' hd hn hl hk hs hf=>hQ .normal _ _ _ _ hf ⟨hd,hn,hl,hk,hs⟩)
      simpa using this
  | seq x y ihx ihy =>
    intro ro hro env m a w Q f h st hQ;refine wpIn_seq (ihx ro (hro.imp id fun h=>(q7h h).1) env m a w _ _ h st ?_);intro e env m a w h st
    cases e with
    | normal=>exact ihy ro (hro.imp id fun h=>(q7h h).2) env m a w Q f h st hQ
    | exit i=>exact hQ (.exit i) _ _ _ _ h st
    | ret=>exact hQ .ret _ _ _ _ h st
  | cond c x y ihx ihy =>
    intro ro hro env m a w Q f h st hQ;obtain ⟨v,h1,kv,ev⟩:=st.ev h
    cases v with
    | c z =>
      cases z with
      | tt=>exact wpIn_cond (t:=true) ev (ihx ro (hro.imp id fun h=>(q7h h).1) env m a w Q f h1 st hQ)
      | ff=>exact wpIn_cond (t:=false) ev (ihy ro (hro.imp id fun h=>(q7h h).2) env m a w Q f h1 st hQ)
      | bool b =>
        refine wpIn_cond_split (t:=b) ev (fun hb=>ihx ro (hro.imp id fun h=>(q7h h).1) env m a w Q f (h1.t hb) st hQ) (fun hb=>ihy ro (hro.imp id fun h=>(q7h h).2) env m a w Q f (h1.f hb) st hQ)
      | _=>exact h1.elim
    | _=>exact h1.elim
  | block id b ih =>
    intro ro hro env m a w Q f h st hQ;refine wpIn_block (ih ro hro env m a w _ _ h st ?_);intro e env m a w h st
    cases e with
    | normal=>exact hQ .normal _ _ _ _ h st
    | exit i =>
      simp only [Ex.toExit,Exit.inBlock];dsimp only at h
      cases hb : Nat.beq i id with
      | true=>rw [hb] at h;rw [if_pos (Nat.eq_of_beq_eq_true hb)];exact hQ .normal _ _ _ _ h st
      | false=>rw [hb] at h;rw [if_neg (Nat.ne_of_beq_eq_false hb)];exact hQ (.exit i) _ _ _ _ h st
    | ret=>exact hQ .ret _ _ _ _ h st
  | loop b ih =>
    intro ro hro env m a w Q f h st hQ;have h : LoopOb (fun env m f=>exec P tt N b env m f) env m f:=h;obtain ⟨σ,E,G,p,μ,s,hp,hw,round⟩:=h.h;refine qh6 (fun n a w=>∃ s,p s ∧ μ s = n ∧ St N (E s) (G s) a w) (μ s) ⟨s,hp,rfl,hw.st st⟩ ?_;rintro n a w ⟨s,hp,rfl,st⟩;refine ih ro hro _ _ _ _ _ _ (round s hp) st ?_;intro e env m a w h st
    cases e with
    | normal=>obtain ⟨s',hp',hlt,hw⟩:=h;exact ⟨_,hlt,s',hp',rfl,hw.st st⟩
    | exit i=>exact hQ (.exit i) _ _ _ _ h st
    | ret=>exact hQ .ret _ _ _ _ h st
  | exit id=>intro ro hro env m a w Q f h st hQ;exact wpIn_exit (hQ (.exit id) _ _ _ _ h st)
  | ret=>intro ro hro env m a w Q f h st hQ;exact wpIn_ret (hQ .ret _ _ _ _ h st)
  | rangeFunc g ps x y ihx ihy =>
    intro ro hro env m a w Q f h st hQ;have hro : ro = none:=hro.resolve_right (by intro h;cases h);subst hro;obtain ⟨fv,h1,kf,ef⟩:=st.ev h;clear h
    cases fv with
    | c z =>
      cases z with
      | raw v =>
        cases v with
        | func fn first cap =>
          cases fn with
          | func n =>
            have h3 : (match first.toList,ps.toList,q96 x && q96 y with
              | [],[p],true=>Nat.blt p N = true ∧ RangeOb P n cap.toList p (exec P tt N x) (exec P tt N y) env m f
              | [],[p,p'],true=>(Nat.blt p N && Nat.blt p' N && !Nat.beq p p') = true ∧ RangeOb2 P n cap.toList p p' (exec P tt N x) (exec P tt N y) env m f
              | _,_,_=>False):=h1
            split at h3
            · rename_i p e1 e2 e3
              obtain ⟨hp,hruns,hd,xs,σ,k,G,I,τ,q,J,h0,hrounds,hiter,hend⟩:=h3;have hp : p < N:=by simpa [Nat.blt_eq] using hp
              obtain ⟨hnx,hny⟩:=q7h e3;have e1 : first = #[]:=by apply Array.ext';simpa using e1
              have e2 : ps = #[p]:=by apply Array.ext';simpa using e2
              subst e1 e2;refine wpIn_rangeFunc fun fn _=>?_
              let rc : Loop:={ state:=.ready,pending:=none,fn:=fn,tmps:=a.tmps,params:=#[p],assign:=x,body:=y,defers:=w.heap.size }
              let w1:=(w.alloc (.deferred (some []))).alloc (.loop rc)
              refine ⟨w.heap.size + 1,[mark w.heap.size],w1,{ target:=.fn (.func n) cap,args:=#[] ++ #[Value.func (.yield (w.heap.size + 1)) #[] #[]] },w1,n,(#[] ++ #[Value.func (.yield (w.heap.size + 1)) #[] #[]]) ++ cap,w1,
                run_enterLoop_outer fn a.tmps #[p] x y,?_,fun _ _=>trivial,q4p hruns _,fun h=>(by cases h),q79.2 ?_⟩
              · simp only [resolve,Deferred.ofValue,ef,SV.den,SC.den,Sem.run_pure]
                simp [Act.eval]
              · have eargs : ((#[] ++ #[Value.func (.yield (w.heap.size + 1)) #[] #[]]) ++ cap : Array Value) = (Value.func (.yield (w.heap.size + 1)) #[] #[] :: cap.toList).toArray:=by apply Array.ext';simp
                rw [eargs];obtain ⟨s,hk,hok,hs⟩:=h0 st.k w st.s;have s1:=q3d (w':=w.alloc (.deferred (some []))) hs (heap_alloc_new _ _) (fun c hc=>heap_alloc_old _ _ _ hc);have s2:=q3d (w':=w1) s1 (heap_alloc_new _ _) (fun c hc=>heap_alloc_old _ _ _ hc);rw [World.size_alloc] at s2
                have s3 : sat (all ((M.mk m.B (G s).1 (G s).2).props ++ [blk (w.heap.size + 1) (.loop rc),Mk w.heap.size]) :: I) w1:=by
                  refine q14.2 (q1t ?_);rw [← List.append_assoc];exact q1t (l:=[_,_]) s2
                have hR:=qgt (P:=P) (tt:=tt) (l:=w.heap.size + 1) (rec:=rc) (p:=p) (B:=m.B) (xs:=xs) (G:=G) (k:=k) (D:=w.heap.size) ⟨rfl,rfl,rfl,rfl,rfl,rfl⟩ hd st.n hp (fun t x hx=>st.l t x hx)
                  (ihx (some (w.heap.size + 1)) (.inr hnx)) (ihy (some (w.heap.size + 1)) (.inr hny)) hrounds
                refine (hiter _ _ hR w1 ?_).mono ?_
                · refine q1t (l:=[_]) ?_;obtain ⟨g0,g1,d,hg0,hg1,hall,hI⟩:=s3;exact ⟨g0,g1,d,hg0,hg1,⟨s,hk,hok,hall⟩,hI⟩
                · rintro e w3 ⟨v,t,rfl,hq,s4⟩;obtain ⟨g0,g1,d,hg0,hg1,⟨s',hk',hok',hall⟩,hJ⟩:=q1t (m:=[_]) s4;have s5 : sat ((M.mk m.B (G s').1 (G s').2).props ++ [blk (w.heap.size + 1) (.loop rc),Mk w.heap.size] ++ J t) w3:=q14.1 ⟨g0,g1,d,hg0,hg1,hall,hJ⟩;rw [List.append_assoc] at s5
                  obtain ⟨hlk,s6⟩:=q4v (.loop { rc with state:=.exhausted }) (q22.1 s5);refine ⟨none,_,run_endLoop hlk (by intro h;cases h),?_⟩;have hx:=qd7 hd w.heap.size;refine hQ .normal env _ _ _ (hend s' t w.heap.size hk' hq) ⟨?_,st.n,fun u z hz=>?_,fun c hc=>?_,?_⟩
                  · show mark w.heap.size :: a.defers = _;rw [st.d];rfl
                  · have:=st.l u z hz;have e:=SV.exts hx this.1;exact ⟨e.1,by rw [e.2];exact this.2⟩
                  · have:=hok' c hc;exact ⟨(hx.h _ this.1).1,(q2x hx this.2).1⟩
                  · have e1 : (M.mk m.B (G s').1 (G s').2).H.map (Chunk.p ((1000000,w.heap.size) :: m.B)) = (G s').1.map (Chunk.p m.B):=by
                      refine List.map_congr_left fun c hc=>?_;have:=hok' c hc;simp only [Chunk.p];rw [(hx.h _ this.1).2,(q2x hx this.2).2]
                    have s7:=q22.2 s6
                    have s8 : sat ((M.mk m.B (G s').1 (G s').2).props ++ ([Mk w.heap.size] ++ J t)) (w3.putObj (w.heap.size + 1) (.loop { rc with state:=.exhausted })):=by
                      obtain ⟨g,k,d,hg,hk,hp,hs⟩:=q19.1 s7;exact q2z hk hs
                    simp only [M.props] at s8 ⊢;rw [show List.map (Chunk.p ((1000000,w.heap.size) :: m.B)) (G s').1 = (G s').1.map (Chunk.p m.B) from e1];refine q07 ?_ s8;rw [List.append_assoc];refine List.Perm.append_left _ ?_;rw [← List.append_assoc];exact List.perm_append_comm
            · rename_i p p' e1 e2 e3
              obtain ⟨hp,hruns,hd,xs,σ,k,G,I,τ,q,J,h0,hrounds,hiter,hend⟩:=h3
              have hpp : (p < N ∧ p' < N) ∧ p ≠ p':=by
                have h:=hp;simp only [Bool.and_eq_true,Nat.blt_eq,Bool.not_eq_true'] at h;exact ⟨h.1,Nat.ne_of_beq_eq_false h.2⟩
              obtain ⟨hnx,hny⟩:=q7h e3;have e1 : first = #[]:=by apply Array.ext';simpa using e1
              have e2 : ps = #[p,p']:=by apply Array.ext';simpa using e2
              subst e1 e2;refine wpIn_rangeFunc fun fn _=>?_
              let rc : Loop:={ state:=.ready,pending:=none,fn:=fn,tmps:=a.tmps,params:=#[p,p'],assign:=x,body:=y,defers:=w.heap.size }
              let w1:=(w.alloc (.deferred (some []))).alloc (.loop rc)
              refine ⟨w.heap.size + 1,[mark w.heap.size],w1,{ target:=.fn (.func n) cap,args:=#[] ++ #[Value.func (.yield (w.heap.size + 1)) #[] #[]] },w1,n,(#[] ++ #[Value.func (.yield (w.heap.size + 1)) #[] #[]]) ++ cap,w1,
                run_enterLoop_outer fn a.tmps #[p,p'] x y,?_,fun _ _=>trivial,q4p hruns _,fun h=>(by cases h),q79.2 ?_⟩
              · simp only [resolve,Deferred.ofValue,ef,SV.den,SC.den,Sem.run_pure]
                simp [Act.eval]
              · have eargs : ((#[] ++ #[Value.func (.yield (w.heap.size + 1)) #[] #[]]) ++ cap : Array Value) = (Value.func (.yield (w.heap.size + 1)) #[] #[] :: cap.toList).toArray:=by apply Array.ext';simp
                rw [eargs];obtain ⟨s,hk,hok,hs⟩:=h0 st.k w st.s;have s1:=q3d (w':=w.alloc (.deferred (some []))) hs (heap_alloc_new _ _) (fun c hc=>heap_alloc_old _ _ _ hc);have s2:=q3d (w':=w1) s1 (heap_alloc_new _ _) (fun c hc=>heap_alloc_old _ _ _ hc);rw [World.size_alloc] at s2
                have s3 : sat (all ((M.mk m.B (G s).1 (G s).2).props ++ [blk (w.heap.size + 1) (.loop rc),Mk w.heap.size]) :: I) w1:=by
                  refine q14.2 (q1t ?_);rw [← List.append_assoc];exact q1t (l:=[_,_]) s2
                have hR:=qdw (P:=P) (tt:=tt) (l:=w.heap.size + 1) (rec:=rc) (p:=p) (p':=p') (B:=m.B) (xs:=xs) (G:=G) (k:=k) (D:=w.heap.size) ⟨rfl,rfl,rfl,rfl,rfl,rfl⟩ hd st.n hpp.1.1 hpp.1.2 hpp.2 (fun t x hx=>st.l t x hx)
                  (ihx (some (w.heap.size + 1)) (.inr hnx)) (ihy (some (w.heap.size + 1)) (.inr hny)) hrounds
                have hKR : ∀ R : HP,(∀ i s,k i s → R ∈ (G s).2) → ∀ (i : Nat) (g : Hp),(∃ s,k i s ∧ (M.mk m.B (G s).1 (G s).2).ok ∧ all ((M.mk m.B (G s).1 (G s).2).props ++ [blk (w.heap.size + 1) (.loop rc),Mk w.heap.size]) g) → ∃ g',Le g' g ∧ R g':=by
                  rintro R hRm i g ⟨s,hk,_,hall⟩;have hm : R ∈ (M.mk m.B (G s).1 (G s).2).props ++ [blk (w.heap.size + 1) (.loop rc),Mk w.heap.size]:=List.mem_append_left _ (by simp [M.props,hRm i s hk]);obtain ⟨l1,l2,e⟩:=List.append_of_mem hm;rw [e] at hall;obtain ⟨g',k,d,hg',hk,hp,hs⟩:=q19.1 hall;exact ⟨g',hg',hp⟩
                refine (hiter _ _ hR hKR w1 ?_).mono ?_
                · refine q1t (l:=[_]) ?_;obtain ⟨g0,g1,d,hg0,hg1,hall,hI⟩:=s3;exact ⟨g0,g1,d,hg0,hg1,⟨s,hk,hok,hall⟩,hI⟩
                · rintro e w3 ⟨v,t,rfl,hq,s4⟩;obtain ⟨g0,g1,d,hg0,hg1,⟨s',hk',hok',hall⟩,hJ⟩:=q1t (m:=[_]) s4;have s5 : sat ((M.mk m.B (G s').1 (G s').2).props ++ [blk (w.heap.size + 1) (.loop rc),Mk w.heap.size] ++ J t) w3:=q14.1 ⟨g0,g1,d,hg0,hg1,hall,hJ⟩;rw [List.append_assoc] at s5
                  obtain ⟨hlk,s6⟩:=q4v (.loop { rc with state:=.exhausted }) (q22.1 s5);refine ⟨none,_,run_endLoop hlk (by intro h;cases h),?_⟩;have hx:=qd7 hd w.heap.size;refine hQ .normal env _ _ _ (hend s' t w.heap.size hk' hq) ⟨?_,st.n,fun u z hz=>?_,fun c hc=>?_,?_⟩
                  · show mark w.heap.size :: a.defers = _;rw [st.d];rfl
                  · have:=st.l u z hz;have e:=SV.exts hx this.1;exact ⟨e.1,by rw [e.2];exact this.2⟩
                  · have:=hok' c hc;exact ⟨(hx.h _ this.1).1,(q2x hx this.2).1⟩
                  · have e1 : (M.mk m.B (G s').1 (G s').2).H.map (Chunk.p ((1000000,w.heap.size) :: m.B)) = (G s').1.map (Chunk.p m.B):=by
                      refine List.map_congr_left fun c hc=>?_;have:=hok' c hc;simp only [Chunk.p];rw [(hx.h _ this.1).2,(q2x hx this.2).2]
                    have s7:=q22.2 s6
                    have s8 : sat ((M.mk m.B (G s').1 (G s').2).props ++ ([Mk w.heap.size] ++ J t)) (w3.putObj (w.heap.size + 1) (.loop { rc with state:=.exhausted })):=by
                      obtain ⟨g,k,d,hg,hk,hp,hs⟩:=q19.1 s7;exact q2z hk hs
                    simp only [M.props] at s8 ⊢;rw [show List.map (Chunk.p ((1000000,w.heap.size) :: m.B)) (G s').1 = (G s').1.map (Chunk.p m.B) from e1];refine q07 ?_ s8;rw [List.append_assoc];refine List.Perm.append_left _ ?_;rw [← List.append_assoc];exact List.perm_append_comm
            · exact h3.elim
          | _=>exact h1.elim
        | _=>exact h1.elim
      | _=>exact h1.elim
    | _=>exact h1.elim
  | _=>intro ro hro env m a w Q f h st hQ;exact h.elim
end
end Go.Sx
