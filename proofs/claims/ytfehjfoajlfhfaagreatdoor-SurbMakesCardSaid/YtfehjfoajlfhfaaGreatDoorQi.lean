import Derived.Test.YtfehjfoajlfhfaaGreatDoorQh
import Derived.Test.YtfehjfoajlfhfaaGreatDoorQb
import Derived.Test.YtfehjfoajlfhfaaGreatDoorQf
namespace Go.Proofs.YtfehjfoajlfhfaaGreatDoor
open Go.Sx
set_option maxRecDepth 100000
set_option pp.deepTerms false
set_option pp.maxSteps 300
set_option linter.unusedSimpArgs false
set_option linter.unusedVariables false
section
def layH (s : List UInt8) (c : Cmd) (beh : List UInt8) : List UInt8:=xorB (c.enc.1 ++ beh) (q03 s)
theorem qbk {s : List UInt8} {c : Cmd} {beh : List UInt8} (hc : c.id.length = 8) (hb : beh.length ≤ 176) : (layH s c beh).length = 16 + beh.length:=by
  have:=Cmd.enc_len hc;unfold layH;rw [q16 (by rw [List.length_append,q1o];omega),List.length_append];omega
attribute [local irreducible] macD q01 strS q03
theorem Seg.ok_cmd (c : Cmd) (hc : c.id.length = 8) (B : Names) : okL B c.sg:=⟨trivial,trivial,trivial,mok hc _,trivial⟩
theorem lay_h (A R : HP) (hE : Ent A R) (hK : Gl A) (s : List UInt8) (hs : s.length = 32) (c : Cmd) (hc : c.id.length = 8) (a : Option Addr) (cap : Nat) (beh : List UInt8) (hb : Rd R a (u8s beh)) (h0 : 1 ≤ beh.length) (h1 : beh.length ≤ 176) :
    FB Tryz.prog 64 [.agg [.many 32 (u8s s)],.agg c.sg,.c (.rs a beh.length cap)] A 5 (layH s c beh):=by
  have hb:=hb.ent hE;have hks:=mok hs;have hel:=Cmd.enc_len hc;have hsl:=q1o s;refine Con.of' tt_ok Tryz.func64 rfl (by decide) [.agg [.many 32 (u8s s)],.agg c.sg,.c (.rs a beh.length cap)] [] [] rfl rfl trivial ⟨⟨hks _,trivial⟩,Seg.ok_cmd c hc _,trivial,trivial⟩ rfl ?_;(conv=>whnf);intro b3;(conv=>whnf);intro b4;(conv=>whnf);refine Cq.pu (qmf _ c hc) rfl ?_;unfold layH;generalize c.enc = E at hel ⊢;obtain ⟨E,e⟩:=E;dsimp only at hel ⊢;(conv=>whnf);intro b7;conv=>whnf
  refine q2q (a:=some (radr (b7,0))) (n:=16) (cap:=16) (k:=beh.length) (xs:=u8s E) (ys:=u8s beh) rfl (Src.slc (by exact ⟨[],by show (u8s E ++ []) = u8s E ++ [];rfl⟩)) (by omega) (by rw [u8l,hel]) (q0s _) (u8l _) (Src.rs (A:=A) (by simp) hb) (q0s _) ⟨rfl,by decide,by decide⟩ (by omega) 24 (.inr rfl) ?_;intro a9 c9 hc9 hn9;rw [← q0n];(conv=>whnf);refine Cq.new (qbe _ (hK.ent (Ent.a mm)) s hs) rfl fun t ht=>?_;generalize q03 s = Y at hsl ⊢;conv=>whnf
  have hwl : (E ++ beh).length = 16 + beh.length:=by rw [List.length_append,hel]
  have hxl : (xorB (E ++ beh) Y).length = 16 + beh.length:=by rw [q16 (by omega),hwl]
  refine Cq.by' [] [1] (mix_c _ (OwnO t 192 5 1 (u8s Y)) (Ent.a mm) a9 c9 (E ++ beh) ⟨by omega,fun h=>absurd h hn9⟩ t 192 Y OwnO.rd (by omega) (by omega)) (by rw [hwl,hsl];rfl) ⟨rfl,rfl,rfl,fun _ _=>⟨rfl,?_⟩⟩
  (conv=>whnf);exact Ret.m (a9,c9) [] [0,1] ⟨by dsimp only;omega,fun h=>absurd h hn9⟩ (by rw [hxl];rfl) kk kk ⟨rfl,rfl⟩
end
section
def fillG : List UInt8 → List (List UInt8) → List UInt8
  | f,[]=>f
  | f,s :: r=>fillG (xorB (f ++ List.replicate 32 0) ((q03 s).drop (192 - (f.length + 32)))) r
def q0u (l : List (List UInt8)) : List UInt8:=fillG [] (l.take (l.length - 1))
theorem q5x {f s : List UInt8} (hf : f.length + 32 ≤ 192) : (xorB (f ++ List.replicate 32 0) ((q03 s).drop (192 - (f.length + 32)))).length = f.length + 32:=by
  rw [q16 (by rw [List.length_drop,q1o];simp;omega)];simp
theorem q67 : ∀ (l : List (List UInt8)) (f : List UInt8),f.length + 32 * l.length ≤ 192 → (fillG f l).length = f.length + 32 * l.length
  | [],f,_=>rfl
  | s :: r,f,h=>by
    simp only [List.length_cons] at h;rw [fillG,q67 r _ (by rw [q5x (by omega)];omega),q5x (by omega),List.length_cons];omega
theorem q5p {l : List (List UInt8)} (h1 : 1 ≤ l.length) (h : l.length ≤ 5) : (q0u l).length = 32 * (l.length - 1):=by
  unfold q0u;have : (l.take (l.length - 1)).length = l.length - 1:=by rw [List.length_take];omega
  rw [q67 _ _ (by rw [this];show 0 + _ ≤ _;omega),this];show 0 + _ = _;omega
attribute [local irreducible] macD q01 strS q03
theorem q75 : ∀ (l : List (List UInt8)) (f s : List UInt8),fillG f (l ++ [s]) = xorB (fillG f l ++ List.replicate 32 0) ((q03 s).drop (192 - ((fillG f l).length + 32)))
  | [],_,_=>rfl
  | x :: r,f,s=>q75 r _ s
theorem qpw {R : HP} {t : Option Addr} {y : List UInt8} (h : Rd R t (u8s y)) (k : Nat) (hk : k ≤ y.length) (hy : y.length = 192) : Rd R (cutA t 192 k 1) (u8s (y.drop k)):=by
  have:=h.cut 192 k (192 - k) (by omega);rw [← q3p,← q1e,List.take_of_length_le (by rw [List.length_drop];omega)] at this;exact this
theorem qm8 (A R : HP) (hE : Ent A R) (hK : Gl A) (a : Option Addr) (cap : Nat) (l : List (List UInt8)) (hl : okK l) (hr : Rd R a (rowK l)) (h1 : 1 ≤ l.length) (h5 : l.length ≤ 5) (hcap : l.length ≤ cap) :
    FB Tryz.prog 63 [.c (.rs a l.length cap)] A 5 (q0u l):=by
  have hr:=hr.ent hE;refine Con.of' tt_ok Tryz.func63 rfl (by decide) [.c (.rs a l.length cap)] [] [] rfl rfl trivial kk rfl ?_;(conv=>whnf);refine Ar.i64 (by omega) ?_;(conv=>whnf);have e0 : (l.length : Int) - 1 = ((l.length - 1 : Nat) : Int):=by omega
  rw [e0];refine ⟨⟨by omega,by omega⟩,?_⟩;conv=>whnf
  refine LoopOb.m (σ:=Nat × Option Addr × Nat) (fun s=>[(3,.c (.rs s.2.1 (fillG [] (l.take s.1)).length s.2.2)),(10,.c (.rs a (l.length - 1) cap)),(11,.c (.int .i64 ((l.length - 1 : Nat) : Int))),(12,.c (.int .i64 s.1))])
    (fun s=>⟨[],[],[Own s.2.1 s.2.2 5 1 (u8s (fillG [] (l.take s.1))),A]⟩) (fun s=>s.1 ≤ l.length - 1 ∧ Fc s.2.1 s.2.2 (fillG [] (l.take s.1))) (fun s=>l.length - 1 - s.1) (0,none,0) ⟨Nat.zero_le _,Fc.nil⟩ ?_ ?_
  · refine Wk.own0 5 1 ?_;refine Wk.m [] [0,0] ⟨⟨rfl,kk⟩,⟨?_,kk⟩,⟨rfl,kk⟩,⟨rfl,kk⟩,trivial⟩ trivial ⟨rfl,rfl⟩;show Value.slice (cutA a _ 0 32) (((l.length - 1 : Nat) : Int).toNat - 0) (cap - 0) = Value.slice a (l.length - 1) cap;rw [qap];rfl
  rintro ⟨i,a3,c3⟩ ⟨hi,hc⟩;dsimp only at hi hc ⊢;(conv=>whnf);refine Cond.d (fun h=>?_) (fun h=>?_)
  · have hi' : i < l.length:=by omega
    have hk : l[i].length = 32:=hl _ (List.getElem_mem hi');have hfl:=q67 (l.take i) [] (by rw [List.length_take];show 0 + _ ≤ _;omega);have ht : (l.take i).length = i:=by rw [List.length_take];omega
    rw [ht] at hfl;have hfl : (fillG [] (l.take i)).length = 32 * i:=by rw [hfl];show 0 + _ = _;omega
    obtain ⟨f1,hf1⟩ : ∃ f1,fillG [] (l.take (i + 1)) = f1:=⟨_,rfl⟩;have es:=q75 (l.take i) [] l[i];rw [← List.take_succ_eq_append_getElem hi',hf1] at es;have hf1l : f1.length = 32 * i + 32:=by rw [es,q5x (by omega),hfl]
    generalize fillG [] (l.take i) = f at hfl hc es ⊢;(conv=>whnf);refine ⟨by omega,PtrOb.rd (A:=A) (by simp) hr (by rw [q0k hl];omega) fun p hp=>?_⟩;subst hp;(conv=>whnf);refine ldk (A:=A) (l:=l) i (by simp) hr hl hi' rfl rfl rfl (by show _ + (i : Int).toNat * 32 = _;omega) ?_;(conv=>whnf);intro b5;(conv=>whnf);refine q3m (n:=f.length) (k:=32) (xs:=u8s f) (z0:=.int .u8 0) (.refl _) (u8l _) rfl ⟨rfl,by decide,by decide⟩ rfl (by omega) 3 rfl ?_;intro a4 c4 hc4 hn4;conv=>whnf
    refine Cq.new (qbe _ (hK.ent (Ent.a mm)) l[i] hk) rfl fun t ht=>?_;have hsl:=q1o l[i];generalize q03 l[i] = Y at hsl es ⊢;(conv=>whnf);have e1 : (192 : Int) - ((f.length + 32 : Nat) : Int) = ((192 - (f.length + 32) : Nat) : Int):=by omega
    rw [e1];refine Ar.i64 (by omega) ?_;(conv=>whnf);refine ⟨by omega,?_⟩;(conv=>whnf);have hul : u8s f ++ List.replicate 32 (Value.int .u8 0) = u8s (f ++ List.replicate 32 0):=by rw [q0n];simp [u8s,u8]
    rw [hul];have hfz : (f ++ List.replicate 32 (0 : UInt8)).length = f.length + 32:=by simp
    have hdl : (Y.drop (192 - (f.length + 32))).length = f.length + 32:=by rw [List.length_drop];omega
    refine Cq.by' [] [1] (mix_c _ (OwnO t 192 5 1 (u8s Y)) (Ent.a mm) a4 c4 (f ++ List.replicate 32 0) ⟨by omega,fun h=>by have:=hn4 h;omega⟩ (cutA t 192 (192 - (f.length + 32)) 1) (192 - (192 - (f.length + 32))) (Y.drop (192 - (f.length + 32))) (qpw OwnO.rd _ (by omega) hsl) (by omega) (by omega)) ?_ ⟨rfl,rfl,rfl,fun _ _=>⟨rfl,?_⟩⟩
    · rw [hfz,hdl];show [Value.slice a4 (f.length + 32) c4,Value.slice (cutA t 192 (192 - (f.length + 32)) 1) (192 - (192 - (f.length + 32))) (192 - (192 - (f.length + 32)))] = [Value.slice a4 (f.length + 32) c4,Value.slice (cutA t 192 (192 - (f.length + 32)) 1) (f.length + 32) (192 - (192 - (f.length + 32)))];rw [show 192 - (192 - (f.length + 32)) = f.length + 32 by omega]
    rw [← es];(conv=>whnf);refine Ar.i64 (by omega) ?_;(conv=>whnf);refine ⟨(i + 1,a4,c4),⟨by dsimp only;omega,by dsimp only;rw [hf1];exact ⟨by omega,fun h=>by have:=hn4 h;omega⟩⟩,by dsimp only;omega,?_⟩;dsimp only;rw [hf1];refine Wk.m [] [0,1] ⟨⟨?_,kk⟩,⟨rfl,kk⟩,⟨rfl,kk⟩,⟨rfl,kk⟩,trivial⟩ trivial ⟨rfl,rfl⟩;show Value.slice a4 (f.length + 32) c4 = Value.slice a4 f1.length c4;rw [hf1l,hfl]
  obtain rfl : i = l.length - 1:=by omega
  (conv=>whnf);exact Ret.m (a3,c3) [] [0,0] hc rfl kk kk ⟨rfl,rfl⟩
end
section
structure HopS where
  key : List UInt8
  cmd : Cmd
abbrev HopS.sg (h : HopS) : List Seg:=[.many 32 (u8s h.key),.one (.int .i64 h.cmd.k),.one (.int .i64 h.cmd.n),.one (.int .i64 h.cmd.d),.many 8 (u8s h.cmd.id)]
structure HopS.ok (h : HopS) : Prop where
  k : h.key.length = 32
  c : h.cmd.id.length = 8
theorem HopS.okL {h : HopS} (o : h.ok) (B : Names) : okL B h.sg:=⟨mok o.k _,trivial,trivial,trivial,mok o.c _,trivial⟩
def HopS.cs (h : HopS) : List Value:=dens [] h.sg
theorem HopS.cs_len {h : HopS} (o : h.ok) : h.cs.length = 43:=by
  show (u8s h.key ++ ([_] ++ ([_] ++ ([_] ++ (u8s h.cmd.id ++ []))))).length = 43
  simp [u8l,o.k,o.c]
theorem HopS.one {h : HopS} (o : h.ok) : ∀ v ∈ h.cs,v.oneCell' = true:=q0q (q04 (HopS.okL o []))
def okHs (l : List HopS) : Prop:=∀ h ∈ l,HopS.ok h
def rowH (l : List HopS) : List Value:=(l.map HopS.cs).flatten
theorem q9h (l m : List HopS) : rowH (l ++ m) = rowH l ++ rowH m:=by simp [rowH]
theorem q1q {l : List HopS} (h : okHs l) : (rowH l).length = l.length * 43:=by
  have:=q1x (css:=l.map HopS.cs) (n:=43) (fun c hc=>by simp at hc;obtain ⟨y,hy,rfl⟩:=hc;exact HopS.cs_len (h y hy))
  simpa [rowH] using this
theorem qdh {l : List HopS} (h : okHs l) (k : Nat) : okHs (l.take k):=fun x hx=>h x (List.mem_of_mem_take hx)
theorem q4q {l : List HopS} (h : okHs l) (k : Nat) (hk : k ≤ l.length) : (rowH l).drop (k * 43) = rowH (l.drop k):=by
  have e : rowH l = rowH (l.take k) ++ rowH (l.drop k):=by rw [← q9h,List.take_append_drop]
  have hl : (rowH (l.take k)).length = k * 43:=by rw [q1q (qdh h k),List.length_take,Nat.min_eq_left hk]
  rw [e,← hl,List.drop_left]
theorem ldh {t : Nat} {x : TyX} {b off : Nat} {m : M} {f : SV → Prop} {A : HP} {p : Nat × Nat} {l : List HopS} (i : Nat) (hA : A ∈ m.F) (hr : Rd A (some (radr p)) (rowH l)) (h : okHs l) (hi : i < l.length)
    (hx : x.k.agg = true) (hn : x.size = 43) (hb : b = p.1) (ho : off = p.2 + i * 43) (hf : f (.agg l[i].sg)) : With (Ty Tryz.prog t x) (LdOb Tryz.prog t ⟨b,off,none⟩ m f):=by
  have o : l[i].ok:=h _ (List.getElem_mem hi);have k2:=q4o (q04 (HopS.okL o [])) m.B;refine lds (A:=A) (i * 43) l[i].sg hx hA hr hb ho ?_ ?_ (by omega) k2.1 hf
  · rw [k2.2,hn,q4q h _ (by omega),List.drop_eq_getElem_cons hi];show l[i].cs = (l[i].cs ++ _).take 43;rw [← HopS.cs_len o,List.take_left]
  · rw [k2.2,hn];exact HopS.cs_len o
def hopOk (n i : Nat) (h : HopS) : Bool:=h.cmd.may && (decide (h.cmd.k = 1) != decide (i + 1 = n))
def q0d (l : List HopS) : Bool:=decide ((∀ i,(h : i < l.length) → hopOk l.length i l[i] = true) ∧ 1 ≤ l.length ∧ l.length ≤ 5)
theorem qpg (A R : HP) (hE : Ent A R) (a : Option Addr) (cap : Nat) (l : List HopS) (hl : okHs l) (hr : Rd R a (rowH l)) (hn : l.length ≤ 1000000000) :
    Pu Tryz.prog 61 [.c (.rs a l.length cap)] A (.c (.bool (q0d l))):=by
  have hr:=hr.ent hE;refine Con.of' tt_ok Tryz.func61 rfl (by decide) [.c (.rs a l.length cap)] [] [] rfl rfl trivial kk rfl ?_;conv=>whnf
  refine LoopOb.m (σ:=Nat) (fun i=>[(0,.c (.rs a l.length cap)),(6,.c (.rs a l.length cap)),(7,.c (.int .i64 l.length)),(8,.c (.int .i64 i))]) (fun i=>⟨[],[],[A]⟩)
    (fun i=>i ≤ l.length ∧ ∀ j,(h : j < l.length) → j < i → hopOk l.length j l[j] = true) (fun i=>l.length - i) 0 ⟨Nat.zero_le _,fun j h h2=>absurd h2 (by omega)⟩ (Wk.m [] [0] kk trivial ⟨rfl,rfl⟩) ?_
  rintro i ⟨hi,hq⟩;(conv=>whnf);refine Cond.d (fun h=>?_) (fun h=>?_)
  · have hi' : i < l.length:=by omega
    have o : l[i].ok:=hl _ (List.getElem_mem hi');(conv=>whnf);refine ⟨by omega,PtrOb.rd (A:=A) (by simp) hr (by rw [q1q hl];omega) fun p hp=>?_⟩;subst hp;(conv=>whnf);refine ldh (A:=A) (l:=l) i (by simp) hr hl hi' rfl rfl rfl (by show _ + (i : Int).toNat * 43 = _;omega) ?_;have hok : hopOk l.length i l[i] = (l[i].cmd.may && (decide (l[i].cmd.k = 1) != decide (i + 1 = l.length))):=rfl
    have hall : hopOk l.length i l[i] = false → q0d l = false:=fun e=>by
      unfold q0d;rw [decide_eq_false_iff_not];rintro ⟨h1,_⟩;rw [h1 i hi'] at e;cases e
    have hnx : hopOk l.length i l[i] = true → ∀ j,(h : j < l.length) → j < i + 1 → hopOk l.length j l[j] = true:=fun e j hj h2=>by
      by_cases e2 : j = i
      · subst e2;exact e
      · exact hq j hj (by omega)
    generalize hopOk l.length i l[i] = g at hok hall hnx;(conv=>whnf);intro b4;(conv=>whnf);refine Ar.i64 (by omega) ?_;(conv=>whnf);refine Cq.pu (may_c _ l[i].cmd o.c) rfl ?_;(conv=>whnf);refine Cond.not ⟨fun em=>?_,fun em=>?_⟩
    · rw [em,Bool.true_and] at hok
      have hb : ((l[i].cmd.k == 1) == ((i : Int) == (l.length : Int) - 1)) = !g:=by
        have e1 : ((i : Int) == (l.length : Int) - 1) = decide (i + 1 = l.length):=by
          rw [Bool.eq_iff_iff];simp;omega
        have e2 : (l[i].cmd.k == 1) = decide (l[i].cmd.k = 1):=by
          rw [Bool.eq_iff_iff];simp
        rw [e1,e2,hok];cases decide (l[i].cmd.k = 1) <;> cases decide (i + 1 = l.length) <;> rfl
      (conv=>whnf);refine ⟨fun eb=>?_,fun eb=>?_⟩
      · rw [hb] at eb;rw [hall (by cases g <;> simp_all)];(conv=>whnf);exact Ret.m () [] [0] trivial rfl kk kk ⟨rfl,rfl⟩
      · rw [hb] at eb;(conv=>whnf);refine Ar.i64 (by omega) ?_;(conv=>whnf);exact ⟨i + 1,⟨by omega,hnx (by cases g <;> simp_all)⟩,by omega,Wk.m [] [0] kk trivial ⟨rfl,rfl⟩⟩
    · rw [em,Bool.false_and] at hok;rw [hall hok];(conv=>whnf);exact Ret.m () [] [0] trivial rfl kk kk ⟨rfl,rfl⟩
  obtain rfl : i = l.length:=by omega
  (conv=>whnf);refine Cond.d (fun h1=>?_) (fun h1=>?_)
  · conv=>whnf
    have e : q0d l = decide ((l.length : Int) ≤ 5):=by
      unfold q0d;rw [decide_eq_decide];exact ⟨fun h=>by omega,fun h=>⟨fun j hj=>hq j hj hj,by omega,by omega⟩⟩
    rw [e];exact Ret.m () [] [0] trivial rfl kk kk ⟨rfl,rfl⟩
  · conv=>whnf
    have e : q0d l = false:=by
      unfold q0d;rw [decide_eq_false_iff_not];rintro ⟨_,h2,_⟩;omega
    rw [e];exact Ret.m () [] [0] trivial rfl kk kk ⟨rfl,rfl⟩
end
section
def q2l : List (List UInt8) → List UInt8 → List (List UInt8) → List HopS → List (List UInt8) × Int
  | _,_,out,[]=>(out,0)
  | chain,alpha,out,h :: r =>
    if (q02 h.key chain).2 = 0 then
      (if (q00 (q08 (q02 h.key chain).1 alpha) alpha).2 = 0 then
        q2l (chain ++ [q08 (q02 h.key chain).1 alpha]) (q00 (q08 (q02 h.key chain).1 alpha) alpha).1 (out ++ [(q02 h.key chain).1]) r
      else ([],7))
    else ([],7)
def q0a (secret : List UInt8) (l : List HopS) : List (List UInt8) × Int:=q2l [secret] (q05 secret) [] l
theorem q71 {chain out : List (List UInt8)} {alpha : List UInt8} {h : HopS} {r : List HopS} (e : (q02 h.key chain).2 ≠ 0) : q2l chain alpha out (h :: r) = ([],7):=if_neg e
theorem q77 {chain out : List (List UInt8)} {alpha : List UInt8} {h : HopS} {r : List HopS} (e : (q02 h.key chain).2 = 0) (e2 : (q00 (q08 (q02 h.key chain).1 alpha) alpha).2 ≠ 0) : q2l chain alpha out (h :: r) = ([],7):=(if_pos e).trans (if_neg e2)
theorem q5w {chain out : List (List UInt8)} {alpha : List UInt8} {h : HopS} {r : List HopS} (e : (q02 h.key chain).2 = 0) (e2 : (q00 (q08 (q02 h.key chain).1 alpha) alpha).2 = 0) :
    q2l chain alpha out (h :: r) = q2l (chain ++ [q08 (q02 h.key chain).1 alpha]) (q00 (q08 (q02 h.key chain).1 alpha) alpha).1 (out ++ [(q02 h.key chain).1]) r:=(if_pos e).trans (if_pos e2)
theorem q2p (k : List UInt8) : (q05 k).length = 32:=q10 _ _
attribute [local irreducible] macD q01 strS q03 q00 q02 q0e q06 q05 q08
theorem q4j : okK []:=fun x hx=>absurd hx (by simp)
theorem qd1 : ∀ (l : List HopS) (chain out : List (List UInt8)) (alpha : List UInt8),okK out → okK (q2l chain alpha out l).1 ∧ (q2l chain alpha out l).1.length ≤ out.length + l.length ∧ ((q2l chain alpha out l).2 = 0 → (q2l chain alpha out l).1.length = out.length + l.length)
  | [],_,out,_,h=>⟨h,Nat.le_refl _,fun _=>rfl⟩
  | h :: r,chain,out,alpha,ho=>by
    by_cases e : (q02 h.key chain).2 = 0
    · by_cases e2 : (q00 (q08 (q02 h.key chain).1 alpha) alpha).2 = 0
      · rw [q5w e e2];obtain ⟨a,b,c⟩:=qd1 r (chain ++ [q08 (q02 h.key chain).1 alpha]) (out ++ [(q02 h.key chain).1]) (q00 (q08 (q02 h.key chain).1 alpha) alpha).1 (q46 ho (q4t (q41 _ _)));rw [List.length_append] at b c;simp only [List.length_cons,List.length_nil] at b c ⊢;exact ⟨a,by omega,fun h0=>by have:=c h0;omega⟩
      · rw [q77 e e2];exact ⟨q4j,Nat.zero_le _,fun h0=>absurd h0 (by show ¬ (7 : Int) = 0;decide)⟩
    · rw [q71 e];exact ⟨q4j,Nat.zero_le _,fun h0=>absurd h0 (by show ¬ (7 : Int) = 0;decide)⟩
abbrev RowK (a : Option Addr) (c T : Nat) (l : List (List UInt8)) : HP:=Own a c T 32 (rowK l)
structure AgS where
  i : Nat
  chain : List (List UInt8)
  alpha : List UInt8
  out : List (List UInt8)
  x6 : Option Addr × Nat
  x8 : Option Addr × Nat
structure AgI (Z : List (List UInt8) × Int) (l : List HopS) (s : AgS) : Prop where
  i : s.i ≤ l.length
  c : okK s.chain
  cl : s.chain.length = s.i + 1
  a : s.alpha.length = 32
  o : okK s.out
  ol : s.out.length = s.i
  f : Fc s.x8.1 s.x8.2 s.out
  z : q2l s.chain s.alpha s.out (l.drop s.i) = Z
theorem qo0 (A R : HP) (hE : Ent A R) (hK : Gl A) (secret : List UInt8) (hs : secret.length = 32) (a : Option Addr) (cap : Nat) (l : List HopS) (hl : okHs l) (hr : Rd R a (rowH l)) (hn : l.length ≤ 5) :
    Con Tryz.prog 62 [.agg [.many 32 (u8s secret)],.c (.rs a l.length cap)] [] [] A (fun t : Option Addr × Nat=>Fc t.1 t.2 (q0a secret l).1) (fun t=>.tup [.c (.rs t.1 (q0a secret l).1.length t.2),.c (.int .i64 (q0a secret l).2)]) (fun _=>[]) (fun t=>[RowK t.1 t.2 127 (q0a secret l).1]):=by
  have hr:=hr.ent hE;have hks:=mok hs;have hpl:=q2p secret;have hpub:=fun A=>qbp A secret hs;unfold q0a;generalize hZ : q2l [secret] (q05 secret) [] l = Z;generalize q05 secret = al at hpl hpub hZ;obtain ⟨Z1,Z2⟩:=Z;dsimp only;refine Con.of' tt_ok Tryz.func62 rfl (by decide) [.agg [.many 32 (u8s secret)],.c (.rs a l.length cap)] [] [] rfl rfl trivial ⟨⟨hks _,trivial⟩,trivial,trivial⟩ rfl ?_;(conv=>whnf);intro b2;(conv=>whnf);intro b16;(conv=>whnf);refine Cq.pu (hpub _) rfl ?_;(conv=>whnf);intro b7
  conv=>whnf
  refine LoopOb.m (σ:=AgS) (fun s=>[(6,.c (.rs s.x6.1 s.chain.length s.x6.2)),(7,.c (.ptr 7 0)),(8,.c (.rs s.x8.1 s.out.length s.x8.2)),(19,.c (.rs a l.length cap)),(20,.c (.int .i64 l.length)),(21,.c (.int .i64 s.i))])
    (fun s=>⟨[(7,b7)],[(7,[.many 32 (u8s s.alpha)],23)],[RowK s.x8.1 s.x8.2 127 s.out,RowK s.x6.1 s.x6.2 23 s.chain,A]⟩)
    (AgI (Z1,Z2) l) (fun s=>l.length - s.i) ⟨0,[secret],al,[],(some (radr (b16,0)),1),(none,0)⟩ ⟨Nat.zero_le _,q4t hs,rfl,hpl,q4j,rfl,Fc.nil,hZ⟩ ?_ ?_
  · refine Wk.own 16 1 1 32 ⟨_,_,rfl,⟨rfl,Nat.le_refl _⟩,⟨hks _,trivial⟩,Wk.own0 127 32 ?_⟩;refine Wk.m [7] [0,0,0] kk ⟨⟨kk,mok hpl _,trivial⟩,trivial⟩ ⟨rfl,?_⟩;show [Own none 0 _ 32 [],Own (some (radr (b16,0))) 1 _ 32 ((u8s secret ++ []).take (1 * 32)),A] = [Own none 0 _ 32 [],Own (some (radr (b16,0))) 1 _ 32 (u8s secret ++ []),A];rw [List.take_of_length_le (by rw [List.append_nil,u8l];omega)]
  rintro ⟨i,chain,al,out,⟨a6,c6⟩,⟨a8,c8⟩⟩ I;have hi:=I.i;have hc:=I.c;have hcl:=I.cl;have ha:=I.a;have ho:=I.o;have hol:=I.ol;have hf:=I.f;have hz:=I.z;dsimp only at hi hc hcl ha ho hol hf hz ⊢;(conv=>whnf);refine Cond.d (fun h=>?_) (fun h=>?_)
  · have hi' : i < l.length:=by omega
    have o : l[i].ok:=hl _ (List.getElem_mem hi');rw [List.drop_eq_getElem_cons hi'] at hz;(conv=>whnf);have hA:=fun (h0 : (q02 l[i].key chain).2 ≠ 0)=>(q71 (alpha:=al) (out:=out) (r:=l.drop (i + 1)) h0).symm.trans hz;have hB:=fun (h0 : (q02 l[i].key chain).2 = 0) (h1 : (q00 (q08 (q02 l[i].key chain).1 al) al).2 ≠ 0)=>(q77 (out:=out) (r:=l.drop (i + 1)) h0 h1).symm.trans hz
    have hC:=fun (h0 : (q02 l[i].key chain).2 = 0) (h1 : (q00 (q08 (q02 l[i].key chain).1 al) al).2 = 0)=>(q5w (out:=out) (r:=l.drop (i + 1)) h0 h1).symm.trans hz;clear hz;refine ⟨by omega,PtrOb.rd (A:=A) (by simp) hr (by rw [q1q hl];omega) fun p hp=>?_⟩;subst hp;(conv=>whnf);refine ldh (A:=A) (l:=l) i (by simp) hr hl hi' rfl rfl rfl (by show _ + (i : Int).toNat * 43 = _;omega) ?_;(conv=>whnf);intro b10;(conv=>whnf);refine Cq.pu (qpj _ (RowK a6 c6 23 chain) (Ent.a mm) a6 c6 l[i].key chain o.k hc Own.rd (by omega)) rfl ?_
    have hk:=q41 l[i].key chain;generalize q02 l[i].key chain = y at hA hB hC hk ⊢;obtain ⟨k,e1⟩:=y;dsimp only at hA hB hC hk ⊢;(conv=>whnf);intro b11;(conv=>whnf);refine Cond.neI (fun h1=>?_) (fun h1=>?_)
    · have hq:=hA h1;have hz1 : [] = Z1:=congrArg Prod.fst hq;have hz2 : 7 = Z2:=congrArg Prod.snd hq;subst hz1 hz2;(conv=>whnf);refine Ret.own0 127 32 ?_;exact Ret.m (none,0) [] [0,2] Fc.nil rfl kk kk ⟨rfl,rfl⟩
    have hB:=hB h1;have hC:=hC h1;(conv=>whnf);intro b13;(conv=>whnf);refine Cq.pu (q6v _ (hK.ent (Ent.a mm)) k al hk ha) rfl ?_;have hbl:=q43 k al;generalize q08 k al = b at hB hC hbl ⊢;(conv=>whnf);intro b14;(conv=>whnf);refine Cq.pu (q84 _ b al hbl ha) rfl ?_;have htl:=q1y b al;generalize q00 b al = y at hB hC htl ⊢;obtain ⟨t,e2⟩:=y;dsimp only at hB hC htl ⊢;(conv=>whnf);refine Cond.neI (fun h2=>?_) (fun h2=>?_)
    · have hq:=hB h2;have hz1 : [] = Z1:=congrArg Prod.fst hq;have hz2 : 7 = Z2:=congrArg Prod.snd hq;subst hz1 hz2;(conv=>whnf);refine Ret.own0 127 32 ?_;exact Ret.m (none,0) [] [0,2] Fc.nil rfl kk kk ⟨rfl,rfl⟩
    have hC:=hC h2
    refine Draw.cut (σ:=(Option Addr × Nat) × (Option Addr × Nat)) (fun s=>[(6,.c (.rs s.2.1 (chain.length + 1) s.2.2)),(7,.c (.ptr 7 0)),(8,.c (.rs s.1.1 (out.length + 1) s.1.2)),(19,.c (.rs (some (radr p)) l.length cap)),(20,.c (.int .i64 l.length)),(21,.c (.int .i64 i))])
      (fun s=>⟨[(7,b7)],[(7,[.many 32 (u8s t)],23)],[Own s.1.1 s.1.2 127 32 (rowK out ++ u8s k),Own s.2.1 s.2.2 23 32 (rowK chain ++ u8s b),A]⟩) (fun s=>(out.length + 1 ≤ s.1.2 ∧ (s.1.1 = none → out.length + 1 = 0)) ∧ chain.length + 1 ≤ s.2.2) ?_ ?_
    · refine Draw.free (by kernel_rfl) tt_ok (Tv.of [0,1,4,5] (.two 2 ((.two 3 (Tv.of [6,7,8,9] .nil) 6 (Tv.of [3,7,8,9] .nil))) 6 (Tv.of [2,3,7,8,9] .nil))) 1000000 _ _ (by kernel_rfl) (fun k=>k) (Sub.r [14,13,11,10,7] [2] ?_);(conv=>whnf);refine ⟨?_,?_⟩
      · (conv=>whnf);intro b48;refine Sub.r [14,13,11,10,7] [2] ?_;(conv=>whnf);refine ⟨?_,?_⟩
        · (conv=>whnf);refine q1a (a:=a8) (n:=out.length) (cap:=c8) (xs:=rowK out) (k:=1) (ys:=u8s k) (src:=.c (.slc 48 0 1 1)) (F':=[RowK a6 c6 23 chain,A]) (.refl _) (q0k ho) (by rw [u8l,hk];rfl) (by exact Src.slc ⟨[],rfl⟩) (q0s _) (by show (out.length + 1 + (out.length + 1) / 4 + 192) * 32 ≤ 281474976710656;omega) (by omega) (by decide) 123 (.inr rfl) ?_;intro a8n c8n hc8 hn8;refine Sub.r [14,13,11,10,7] [2] ?_;(conv=>whnf);intro b52;refine Sub.r [14,13,11,10,7] [2] ?_;conv=>whnf
          refine q1a (a:=a6) (n:=chain.length) (cap:=c6) (xs:=rowK chain) (k:=1) (ys:=u8s b) (src:=.c (.slc 52 0 1 1)) (F':=[Own a8n c8n 127 32 (rowK out ++ u8s k),A]) (.swap _ _ _) (q0k hc) (by rw [u8l,hbl];rfl) (by exact Src.slc ⟨[],rfl⟩) (q0s _) (by show (chain.length + 1 + (chain.length + 1) / 4 + 192) * 32 ≤ 281474976710656;omega) (by omega) (by decide) 60 (.inr rfl) ?_;intro a6n c6n hc6 hn6;refine Sub.r [14,13,11,10,7] [2] ?_;conv=>whnf
          exact ⟨((a8n,c8n),(a6n,c6n)),⟨⟨hc8,hn8⟩,hc6⟩,Wk.m [7] [1,0,0] kk ⟨⟨kk,mok htl _,trivial⟩,trivial⟩ ⟨rfl,rfl⟩⟩
        · (conv=>whnf);intro b52;refine Sub.r [14,13,11,10,7] [2] ?_;(conv=>whnf);refine q1a (a:=a8) (n:=out.length) (cap:=c8) (xs:=rowK out) (k:=1) (ys:=u8s k) (src:=.c (.slc 48 0 1 1)) (F':=[RowK a6 c6 23 chain,A]) (.refl _) (q0k ho) (by rw [u8l,hk];rfl) (by exact Src.slc ⟨[],rfl⟩) (q0s _) (by show (out.length + 1 + (out.length + 1) / 4 + 192) * 32 ≤ 281474976710656;omega) (by omega) (by decide) 123 (.inr rfl) ?_;intro a8n c8n hc8 hn8;refine Sub.r [14,13,11,10,7] [2] ?_;conv=>whnf
          refine q1a (a:=a6) (n:=chain.length) (cap:=c6) (xs:=rowK chain) (k:=1) (ys:=u8s b) (src:=.c (.slc 52 0 1 1)) (F':=[Own a8n c8n 127 32 (rowK out ++ u8s k),A]) (.swap _ _ _) (q0k hc) (by rw [u8l,hbl];rfl) (by exact Src.slc ⟨[],rfl⟩) (q0s _) (by show (chain.length + 1 + (chain.length + 1) / 4 + 192) * 32 ≤ 281474976710656;omega) (by omega) (by decide) 60 (.inr rfl) ?_;intro a6n c6n hc6 hn6;refine Sub.r [14,13,11,10,7] [2] ?_;conv=>whnf
          exact ⟨((a8n,c8n),(a6n,c6n)),⟨⟨hc8,hn8⟩,hc6⟩,Wk.m [7] [1,0,0] kk ⟨⟨kk,mok htl _,trivial⟩,trivial⟩ ⟨rfl,rfl⟩⟩
      · (conv=>whnf);intro b52;refine Sub.r [14,13,11,10,7] [2] ?_;(conv=>whnf);intro b48;refine Sub.r [14,13,11,10,7] [2] ?_;(conv=>whnf);refine q1a (a:=a8) (n:=out.length) (cap:=c8) (xs:=rowK out) (k:=1) (ys:=u8s k) (src:=.c (.slc 48 0 1 1)) (F':=[RowK a6 c6 23 chain,A]) (.refl _) (q0k ho) (by rw [u8l,hk];rfl) (by exact Src.slc ⟨[],rfl⟩) (q0s _) (by show (out.length + 1 + (out.length + 1) / 4 + 192) * 32 ≤ 281474976710656;omega) (by omega) (by decide) 123 (.inr rfl) ?_;intro a8n c8n hc8 hn8
        refine Sub.r [14,13,11,10,7] [2] ?_;(conv=>whnf);refine q1a (a:=a6) (n:=chain.length) (cap:=c6) (xs:=rowK chain) (k:=1) (ys:=u8s b) (src:=.c (.slc 52 0 1 1)) (F':=[Own a8n c8n 127 32 (rowK out ++ u8s k),A]) (.swap _ _ _) (q0k hc) (by rw [u8l,hbl];rfl) (by exact Src.slc ⟨[],rfl⟩) (q0s _) (by show (chain.length + 1 + (chain.length + 1) / 4 + 192) * 32 ≤ 281474976710656;omega) (by omega) (by decide) 60 (.inr rfl) ?_;intro a6n c6n hc6 hn6;refine Sub.r [14,13,11,10,7] [2] ?_;conv=>whnf
        exact ⟨((a8n,c8n),(a6n,c6n)),⟨⟨hc8,hn8⟩,hc6⟩,Wk.m [7] [1,0,0] kk ⟨⟨kk,mok htl _,trivial⟩,trivial⟩ ⟨rfl,rfl⟩⟩
    rintro ⟨⟨a8n,c8n⟩,a6n,c6n⟩ ⟨⟨h8,h8n⟩,h6⟩;dsimp only at h8 h8n h6 ⊢;(conv=>whnf);refine Ar.i64 (by omega) ?_;(conv=>whnf);have er : ∀ (x : List (List UInt8)) (y : List UInt8),rowK (x ++ [y]) = rowK x ++ u8s y:=fun x y=>by rw [q2r];simp [rowK]
    refine ⟨⟨i + 1,chain ++ [b],t,out ++ [k],(a6n,c6n),(a8n,c8n)⟩,⟨by dsimp only;omega,q46 hc (q4t hbl),by simp [hcl],htl,q46 ho (q4t hk),by simp [hol],⟨by simp;omega,fun h=>absurd (h8n h) (by omega)⟩,hC⟩,by dsimp only;omega,?_⟩;refine Wk.m [7] [0,0,0] ⟨⟨?_,kk⟩,⟨rfl,kk⟩,⟨?_,kk⟩,⟨rfl,kk⟩,⟨rfl,kk⟩,⟨rfl,kk⟩,trivial⟩ ⟨⟨kk,mok htl _,trivial⟩,trivial⟩ ⟨rfl,?_⟩
    · show Value.slice a6n (chain.length + 1) c6n = Value.slice a6n (chain ++ [b]).length c6n;rw [List.length_append];rfl
    · show Value.slice a8n (out.length + 1) c8n = Value.slice a8n (out ++ [k]).length c8n;rw [List.length_append];rfl
    · show [_,_,_] = [Own a8n c8n 127 32 (rowK (out ++ [k])),Own a6n c6n 23 32 (rowK (chain ++ [b])),A];rw [er,er]
  obtain rfl : i = l.length:=by omega
  rw [List.drop_length] at hz;have hz1 : out = Z1:=congrArg Prod.fst hz;have hz2 : 0 = Z2:=congrArg Prod.snd hz;subst hz1 hz2;(conv=>whnf);exact Ret.m (a8,c8) [] [0,1] hf rfl kk kk ⟨rfl,rfl⟩
end
section
structure HdrS where
  alpha : List UInt8
  beta : List UInt8
  gamma : List UInt8
abbrev HdrS.sg (h : HdrS) : List Seg:=[.many 32 (u8s h.alpha),.many 160 (u8s h.beta),.many 16 (u8s h.gamma)]
structure HdrS.ok (h : HdrS) : Prop where
  a : h.alpha.length = 32
  b : h.beta.length = 160
  g : h.gamma.length = 16
theorem HdrS.okL {h : HdrS} (o : h.ok) (B : Names) : okL B h.sg:=⟨mok o.a _,mok o.b _,mok o.g _,trivial⟩
def hdr0 : HdrS:=⟨zk,List.replicate 160 0,List.replicate 16 0⟩
theorem hdr0_ok : hdr0.ok:=⟨q1h,List.length_replicate,List.length_replicate⟩
def kAt (ss : List (List UInt8)) (i : Nat) : List UInt8:=ss.getD i []
def cAt (hs : List HopS) (i : Nat) : Cmd:=(hs.getD i ⟨[],cmd0⟩).cmd
theorem q5d {ss : List (List UInt8)} {i : Nat} (h : i < ss.length) : kAt ss i = ss[i]:=by simp [kAt,h]
theorem q7n {hs : List HopS} {i : Nat} (h : i < hs.length) : cAt hs i = hs[i].cmd:=by simp [cAt,h]
def betaJ (ss : List (List UInt8)) (hs : List HopS) : Nat → List UInt8
  | 0=>layH (kAt ss (hs.length - 1)) (cAt hs (hs.length - 1)) (List.replicate (160 - (q0u ss).length - 16) 0) ++ q0u ss
  | j + 1=>layH (kAt ss (hs.length - 2 - j)) (cAt hs (hs.length - 2 - j)) (q0j (kAt ss (hs.length - 2 - j + 1)) (betaJ ss hs j) ++ (betaJ ss hs j).take 128)
def q0b (x : List UInt8) (hs : List HopS) : HdrS × List (List UInt8) × Int :=
  if q0d hs = true then
    (if (q0a x hs).2 = 0 then (⟨q05 x,betaJ (q0a x hs).1 hs (hs.length - 1),q0j (kAt (q0a x hs).1 0) (betaJ (q0a x hs).1 hs (hs.length - 1))⟩,(q0a x hs).1,0)
    else (hdr0,[],(q0a x hs).2))
  else (hdr0,[],14)
theorem q7b {x : List UInt8} {hs : List HopS} (h : q0d hs = false) : q0b x hs = (hdr0,[],14):=if_neg (by rw [h];decide)
theorem q8m {x : List UInt8} {hs : List HopS} (h : q0d hs = true) (h2 : (q0a x hs).2 ≠ 0) : q0b x hs = (hdr0,[],(q0a x hs).2):=(if_pos h).trans (if_neg h2)
theorem q6q {x : List UInt8} {hs : List HopS} (h : q0d hs = true) (h2 : (q0a x hs).2 = 0) : q0b x hs = (⟨q05 x,betaJ (q0a x hs).1 hs (hs.length - 1),q0j (kAt (q0a x hs).1 0) (betaJ (q0a x hs).1 hs (hs.length - 1))⟩,(q0a x hs).1,0):=(if_pos h).trans (if_pos h2)
attribute [local irreducible] macD q01 strS q03 q00 q02 q0e q06 q05 q08
theorem q6l (x : List UInt8) (hs : List HopS) : okK (q0a x hs).1 ∧ (q0a x hs).1.length ≤ hs.length ∧ ((q0a x hs).2 = 0 → (q0a x hs).1.length = hs.length):=by
  have:=qd1 hs [x] [] (q05 x) q4j;unfold q0a
  simpa using this
theorem q3b {hs : List HopS} (h : q0d hs = true) : 1 ≤ hs.length ∧ hs.length ≤ 5:=by
  unfold q0d at h;exact (of_decide_eq_true h).2
theorem qei {hs : List HopS} (h : okHs hs) {i : Nat} (hi : i < hs.length) : (cAt hs i).id.length = 8:=by rw [q7n hi];exact (h _ (List.getElem_mem hi)).c
theorem q61 {ss : List (List UInt8)} {hs : List HopS} (ho : okHs hs) (h1 : 1 ≤ hs.length) (h5 : hs.length ≤ 5) (hl : ss.length = hs.length) : ∀ j,j ≤ hs.length - 1 → (betaJ ss hs j).length = 160
  | 0,_=>by
    have hf:=q5p (l:=ss) (by omega) (by omega);show (layH _ _ _ ++ _).length = 160;rw [List.length_append,qbk (qei ho (by omega)) (by rw [List.length_replicate];omega),List.length_replicate];omega
  | j + 1,h=>by
    have:=q61 ho h1 h5 hl j (by omega);have hp:=q24 (kAt ss (hs.length - 2 - j + 1)) (betaJ ss hs j);show (layH _ _ _).length = 160;rw [qbk (qei ho (by omega)) (by rw [List.length_append,List.length_take];omega),List.length_append,List.length_take];omega
theorem q68 (x : List UInt8) {hs : List HopS} (ho : okHs hs) : (q0b x hs).1.ok ∧ okK (q0b x hs).2.1 ∧ (q0b x hs).2.1.length ≤ 5:=by
  cases hr : q0d hs with
  | false=>rw [q7b hr];exact ⟨hdr0_ok,q4j,Nat.zero_le _⟩
  | true =>
    obtain ⟨h1,h5⟩:=q3b hr;obtain ⟨ha,hb,hc⟩:=q6l x hs
    by_cases h2 : (q0a x hs).2 = 0
    · rw [q6q hr h2];exact ⟨⟨q2p x,q61 ho h1 h5 (hc h2) _ (Nat.le_refl _),q24 _ _⟩,ha,by dsimp only;omega⟩
    · rw [q8m hr h2];exact ⟨hdr0_ok,q4j,Nat.zero_le _⟩
theorem ldhc {t : Nat} {x : TyX} {b off : Nat} {m : M} {f : SV → Prop} {A : HP} {p : Nat × Nat} {l : List HopS} (i : Nat) (hA : A ∈ m.F) (hr : Rd A (some (radr p)) (rowH l)) (h : okHs l) (hi : i < l.length)
    (hx : x.k.agg = true) (hn : x.size = 11) (hb : b = p.1) (ho : off = p.2 + i * 43 + 32) (hf : f (.agg l[i].cmd.sg)) : With (Ty Tryz.prog t x) (LdOb Tryz.prog t ⟨b,off,none⟩ m f):=by
  have o : l[i].ok:=h _ (List.getElem_mem hi);have k2:=q4o (q04 (Seg.ok_cmd l[i].cmd o.c [])) m.B
  have hlen : (dens [] l[i].cmd.sg).length = 11:=by
    show ([_] ++ ([_] ++ ([_] ++ (u8s l[i].cmd.id ++ [])))).length = 11
    simp [u8l,o.c]
  refine lds (A:=A) (i * 43 + 32) l[i].cmd.sg hx hA hr hb (by omega) ?_ ?_ (by omega) k2.1 hf
  · rw [k2.2,hn,← List.drop_drop,q4q h _ (by omega),List.drop_eq_getElem_cons hi];show _ = ((u8s l[i].key ++ dens [] l[i].cmd.sg ++ rowH (l.drop (i + 1))).drop 32).take 11;rw [List.append_assoc,List.drop_append_of_le_length (by rw [u8l,o.k];omega),List.drop_eq_nil_of_le (by rw [u8l,o.k];omega),List.nil_append,← hlen,List.take_left]
  · rw [k2.2,hn];exact hlen
end
section
attribute [local irreducible] macD q01 strS q03 q00 q02 q0e q06 q05 q08 q0a q0d
set_option maxHeartbeats 2000000 in
theorem qpc (A R : HP) (hE : Ent A R) (hK : Gl A) (x : List UInt8) (hx : x.length = 32) (a : Option Addr) (cap : Nat) (hs : List HopS) (ho : okHs hs) (hr : Rd R a (rowH hs)) (hn : hs.length ≤ 1000000) :
    Con Tryz.prog 24 [.agg [.many 32 (u8s x)],.c (.rs a hs.length cap)] [] [] A (fun t : Option Addr × Nat=>Fc t.1 t.2 (q0b x hs).2.1) (fun t=>.tup [.agg (q0b x hs).1.sg,.c (.rs t.1 (q0b x hs).2.1.length t.2),.c (.int .i64 (q0b x hs).2.2)]) (fun _=>[]) (fun t=>[RowK t.1 t.2 23 (q0b x hs).2.1]):=by
  have hr:=hr.ent hE;have hks:=mok hx;have hok0 : ∀ B,okL B hdr0.sg:=HdrS.okL hdr0_ok;refine Con.of' tt_ok Tryz.func24 rfl (by decide) [.agg [.many 32 (u8s x)],.c (.rs a hs.length cap)] [] [] rfl rfl trivial ⟨⟨hks _,trivial⟩,trivial,trivial⟩ rfl ?_;(conv=>whnf);intro b2;(conv=>whnf);intro b4;(conv=>whnf);refine Cq.pu (qpg _ A (Ent.a mm) a cap hs ho hr (by omega)) rfl ?_
  cases hrt : q0d hs with
  | false =>
    rw [q7b hrt];(conv=>whnf);refine ⟨(fun _=>?_),(fun e=>nomatch e)⟩;(conv=>whnf);refine Ret.own0 23 32 ?_;exact Ret.m (none,0) [] [0,0] Fc.nil rfl ⟨hok0 _,trivial,trivial,trivial⟩ kk ⟨rfl,rfl⟩
  | true =>
  obtain ⟨h1,h5⟩:=q3b hrt;obtain ⟨hak,hal,hae⟩:=q6l x hs;(conv=>whnf);refine ⟨(fun e=>nomatch e),(fun _=>?_)⟩;(conv=>whnf);refine Cq.new (qo0 _ A (Ent.a mm) (hK.ent (Ent.a mm)) x hx a cap hs ho hr h5) rfl ?_;rintro ⟨a7,c7⟩ hf7;have hB:=q8m (x:=x) hrt;have hC:=q6q (x:=x) hrt;generalize q0a x hs = Z at hak hal hae hf7 hB hC ⊢;obtain ⟨ss,e7⟩:=Z;dsimp only at hak hal hae hf7 hB hC ⊢;(conv=>whnf);refine Cond.neI (fun h2=>?_) (fun h2=>?_)
  · rw [hB h2];(conv=>whnf);refine Ret.own0 23 32 ?_;exact Ret.m (none,0) [] [0,1] Fc.nil rfl ⟨hok0 _,trivial,trivial,trivial⟩ kk ⟨rfl,rfl⟩
  rw [hC h2];have hsl:=hae h2;clear hB hC;dsimp only;(conv=>whnf);have e0 : (hs.length : Int) - 1 = ((hs.length - 1 : Nat) : Int):=by omega
  rw [e0];refine Ar.i64 (by omega) ?_;(conv=>whnf);have hfl:=q5p (l:=ss) (by omega) (by omega);refine Cq.fb (qm8 _ (RowK a7 c7 127 ss) (Ent.a mm) (hK.ent (Ent.a mm)) a7 c7 ss hak Own.rd (by omega) (by omega) hf7.1) rfl fun a10 c10 hc10=>?_;(conv=>whnf);refine Draw.a (by kernel_rfl) tt_ok (Tv.of (List.range 16) .nil) 1000000 (by kernel_rfl) ?_;(conv=>whnf);have hi7 : hs.length - 1 < ss.length:=by omega
  have hih : hs.length - 1 < hs.length:=by omega
  refine ⟨by omega,PtrOb.rd (A:=RowK a7 c7 127 ss) (by simp) Own.rd (by rw [q0k hak];omega) fun p7 hp7=>?_⟩;subst hp7;(conv=>whnf);refine ldk (A:=RowK (some (radr p7)) c7 127 ss) (l:=ss) (hs.length - 1) (by simp) Own.rd hak hi7 rfl rfl rfl (by show _ + ((hs.length - 1 : Nat) : Int).toNat * 32 = _;omega) ?_;(conv=>whnf);refine ⟨by omega,PtrOb.rd (A:=A) (by simp) hr (by rw [q1q ho];omega) fun p hp=>?_⟩;subst hp;conv=>whnf
  refine ldhc (A:=A) (l:=hs) (hs.length - 1) (by simp) hr ho hih rfl rfl rfl (by show _ + ((hs.length - 1 : Nat) : Int).toNat * 43 + 32 = _;omega) ?_;(conv=>whnf);refine Ar.i64 (by omega) ?_;(conv=>whnf);have e1 : (160 : Int) - (q0u ss).length - 16 = ((160 - (q0u ss).length - 16 : Nat) : Int):=by omega
  rw [e1];refine Ar.i64 (by omega) ?_;(conv=>whnf);refine ⟨⟨by omega,by omega,by omega,by show (1 : Int) * _ ≤ _;omega⟩,?_⟩;intro b49;(conv=>whnf);refine Sub.r [4,2] [0,0,0] ?_;(conv=>whnf);have hkl : ss[hs.length - 1].length = 32:=hak _ (List.getElem_mem hi7);have hcl : hs[hs.length - 1].cmd.id.length = 8:=(ho _ (List.getElem_mem hih)).c
  have hb0 : betaJ ss hs 0 = layH ss[hs.length - 1] hs[hs.length - 1].cmd (List.replicate (160 - (q0u ss).length - 16) 0) ++ q0u ss:=by
    show layH (kAt ss (hs.length - 1)) (cAt hs (hs.length - 1)) _ ++ _ = _;rw [q5d hi7,q7n hih]
  obtain ⟨m,hm⟩ : ∃ m,160 - (q0u ss).length - 16 = m:=⟨_,rfl⟩;rw [hm] at hb0 ⊢;have hzm : u8s (List.replicate m 0) = List.replicate m (Value.int .u8 0):=q4k m;refine Cq.fb (lay_h _ (blk b49 (.cells (List.replicate m (Value.int .u8 0) ++ []).toArray 5)) (Ent.a mm) (hK.ent (Ent.a mm)) ss[hs.length - 1] hkl hs[hs.length - 1].cmd hcl (some (radr (b49,0))) m (List.replicate m 0) (by rw [hzm];exact q1p) (by rw [List.length_replicate];omega) (by rw [List.length_replicate];omega)) (by rw [List.length_replicate];rfl) fun a11 c11 hc11=>?_
  have hll:=qbk (s:=ss[hs.length - 1]) (beh:=List.replicate m 0) hcl (by rw [List.length_replicate];omega);rw [List.length_replicate] at hll;generalize layH ss[hs.length - 1] hs[hs.length - 1].cmd (List.replicate m 0) = L at hb0 hc11 hll ⊢;(conv=>whnf);refine Sub.r [4,2] [1,1,1] ?_;(conv=>whnf);refine appb (l:=L) (m:=q0u ss) (.refl _) (Src.rs (A:=Own a10 c10 5 1 (u8s (q0u ss))) (by simp) Own.rd) rfl rfl ⟨rfl,by decide,by decide⟩ (by omega) 24 (.inr rfl) ?_;clear hc11;intro a11 c11 hc11;rw [← hb0] at hc11 ⊢;conv=>whnf
  refine Ar.i64 (by omega) ?_;(conv=>whnf);obtain ⟨N,hN⟩ : ∃ N,hs.length - 1 = N:=⟨_,rfl⟩;have hbl:=q61 ho h1 h5 hsl;rw [hN] at hbl
  refine LoopOb.m (σ:=Nat × Option Addr × Nat) (fun s=>[(1,.c (.rs (some (radr p)) hs.length cap)),(2,.c (.ptr 2 0)),(4,.c (.ptr 4 0)),(7,.c (.rs (some (radr p7)) ss.length c7)),(11,.c (.rs s.2.1 (betaJ ss hs s.1).length s.2.2)),(12,.c (.int .i64 ((N : Int) - 1 - s.1)))])
    (fun s=>⟨[(4,b4),(2,b2)],[(4,hdr0.sg,59),(2,[.many 32 (u8s x)],23)],[Own s.2.1 s.2.2 5 1 (u8s (betaJ ss hs s.1)),RowK (some (radr p7)) c7 127 ss,A]⟩)
    (fun s=>s.1 ≤ N ∧ Fc s.2.1 s.2.2 (betaJ ss hs s.1)) (fun s=>N - s.1) (0,a11,c11) ⟨Nat.zero_le _,hc11⟩ ?_ ?_
  · refine Wk.m [4,2] [0,1,1] ⟨⟨rfl,kk⟩,⟨rfl,kk⟩,⟨rfl,kk⟩,⟨rfl,kk⟩,⟨rfl,kk⟩,⟨?_,kk⟩,trivial⟩ ⟨⟨kk,hok0 _⟩,⟨kk,hks _,trivial⟩,trivial⟩ ⟨rfl,rfl⟩;show Value.int .i64 (((hs.length - 1 : Nat) : Int) - 1) = Value.int .i64 ((N : Int) - 1 - (0 : Nat));congr 1;omega
  clear hc11;rintro ⟨j,a11,c11⟩ ⟨hj,hc11⟩;dsimp only at hj hc11 ⊢;have hbj:=hbl j hj;(conv=>whnf);refine Cond.d (fun h=>?_) (fun h=>?_)
  · obtain ⟨i,hi⟩ : ∃ i,N - 1 - j = i:=⟨_,rfl⟩;have hi2 : (N : Int) - 1 - j = (i : Int):=by omega
    have his : i + 1 < ss.length:=by omega
    have hih2 : i < hs.length:=by omega
    have hk1 : ss[i + 1].length = 32:=hak _ (List.getElem_mem his);have hk0 : ss[i].length = 32:=hak _ (List.getElem_mem (by omega : i < ss.length));have hci : hs[i].cmd.id.length = 8:=(ho _ (List.getElem_mem hih2)).c
    have hbs : betaJ ss hs (j + 1) = layH ss[i] hs[i].cmd (q0j ss[i + 1] (betaJ ss hs j) ++ (betaJ ss hs j).take 128):=by
      show layH (kAt ss (hs.length - 2 - j)) (cAt hs (hs.length - 2 - j)) (q0j (kAt ss (hs.length - 2 - j + 1)) _ ++ _) = _;rw [show hs.length - 2 - j = i by omega,q5d (by omega),q5d his,q7n hih2]
    have hbl1:=hbl (j + 1) (by omega);obtain ⟨B1,hB1⟩ : ∃ B1,betaJ ss hs (j + 1) = B1:=⟨_,rfl⟩;rw [hB1] at hbs hbl1;generalize betaJ ss hs j = Bj at hbj hc11 hbs ⊢;rw [hi2];(conv=>whnf);refine Ar.i64 (by omega) ?_;(conv=>whnf);refine ⟨by omega,PtrOb.rd (A:=RowK (some (radr p7)) c7 127 ss) (by simp) Own.rd (by rw [q0k hak];omega) fun q hq=>?_⟩;obtain rfl:=q1z hq;(conv=>whnf);refine ldk (A:=RowK (some (radr p7)) c7 127 ss) (l:=ss) (i + 1) (by simp) Own.rd hak his rfl rfl rfl (by show _ + ((i : Int) + 1).toNat * 32 = _;omega) ?_;conv=>whnf
    refine Cq.pu (qbw _ (Own a11 c11 5 1 (u8s Bj)) (Ent.a mm) (hK.ent (Ent.a mm)) ss[i + 1] hk1 a11 c11 Bj ⟨Own.rd,hc11⟩ (by omega)) rfl ?_;have hpl:=q24 ss[i + 1] Bj;generalize q0j ss[i + 1] Bj = T at hpl hbs ⊢;(conv=>whnf);intro b13;(conv=>whnf);refine Draw.a (by kernel_rfl) tt_ok (Tv.of (List.range 15) .nil) 1000000 (by kernel_rfl) ?_;(conv=>whnf);refine ⟨by omega,PtrOb.rd (A:=RowK (some (radr p7)) c7 127 ss) (by simp) Own.rd (by rw [q0k hak];omega) fun q hq=>?_⟩;obtain rfl:=q1z hq;conv=>whnf
    refine ldk (A:=RowK (some (radr p7)) c7 127 ss) (l:=ss) i (by simp) Own.rd hak (by omega) rfl rfl rfl (by show _ + (i : Int).toNat * 32 = _;omega) ?_;(conv=>whnf);refine ⟨by omega,PtrOb.rd (A:=A) (by simp) hr (by rw [q1q ho];omega) fun q hq=>?_⟩;obtain rfl:=q1z hq;(conv=>whnf);refine ldhc (A:=A) (l:=hs) i (by simp) hr ho hih2 rfl rfl rfl (by show _ + (i : Int).toNat * 43 + 32 = _;omega) ?_;(conv=>whnf);have hcc:=hc11.1;refine ⟨⟨by omega,by omega⟩,?_⟩;conv=>whnf
    have h128 : Rd (Own a11 c11 5 1 (u8s Bj)) (cutA a11 c11 0 1) (u8s (Bj.take 128)):=by
      have:=(Own.rd (a:=a11) (cap:=c11) (e:=5) (size:=1) (xs:=u8s Bj)).cut c11 0 128 (by omega)
      rwa [List.drop_zero,← q1e] at this
    have hl128 : (Bj.take 128).length = 128:=by rw [List.length_take];omega
    refine q2q (a:=some (radr (b13,0))) (n:=16) (cap:=16) (k:=128) (xs:=u8s T) (ys:=u8s (Bj.take 128)) rfl (Src.slc (by exact ⟨[],by show (u8s T ++ []) = u8s T ++ [];rfl⟩)) (by omega) (by rw [u8l,hpl]) (q0s _) (by rw [u8l,hl128]) (Src.rs (A:=Own a11 c11 5 1 (u8s Bj)) (by simp) h128) (q0s _) ⟨rfl,by decide,by decide⟩ (by omega) 24 (.inr rfl) ?_;intro a14 c14 hc14 hn14;rw [← q0n];refine Sub.r [13,4,2] [1,1,1] ?_;(conv=>whnf);have hl14 : (T ++ Bj.take 128).length = 16 + 128:=by rw [List.length_append];omega
    refine Cq.fb (lay_h _ (Own a14 c14 5 1 (u8s (T ++ Bj.take 128))) (Ent.a mm) (hK.ent (Ent.a mm)) ss[i] hk0 hs[i].cmd hci a14 c14 (T ++ Bj.take 128) Own.rd (by omega) (by omega)) (by rw [hl14];rfl) fun a15 c15 hc15=>?_;rw [← hbs] at hc15 ⊢;(conv=>whnf);refine Sub.r [13,4,2] [2,2,2] ?_;(conv=>whnf);refine Ar.i64 (by omega) ?_;(conv=>whnf);refine ⟨(j + 1,a15,c15),⟨by dsimp only;omega,by dsimp only;rw [hB1];exact hc15⟩,by dsimp only;omega,?_⟩;dsimp only;rw [hB1]
    refine Wk.m [4,2] [0,2,2] ⟨⟨rfl,kk⟩,⟨rfl,kk⟩,⟨rfl,kk⟩,⟨rfl,kk⟩,⟨rfl,kk⟩,⟨?_,kk⟩,trivial⟩ ⟨⟨kk,hok0 _⟩,⟨kk,hks _,trivial⟩,trivial⟩ ⟨rfl,rfl⟩;show Value.int .i64 ((i : Int) - 1) = Value.int .i64 ((N : Int) - 1 - (j + 1 : Nat));congr 1;omega
  obtain rfl : j = N:=by omega
  rw [hN];generalize betaJ ss hs j = B at hbj hc11 ⊢;have er : ∀ (x : List (List UInt8)) (y : List UInt8),rowK (x ++ [y]) = rowK x ++ u8s y:=fun x y=>by rw [q2r];simp [rowK]
  conv=>whnf
  refine LoopOb.m (σ:=Nat × Option Addr × Nat) (fun s=>[(2,.c (.ptr 2 0)),(4,.c (.ptr 4 0)),(7,.c (.rs (some (radr p7)) ss.length c7)),(11,.c (.rs a11 B.length c11)),(14,.c (.rs s.2.1 s.1 s.2.2)),(81,.c (.rs (some (radr p7)) ss.length c7)),(82,.c (.int .i64 ss.length)),(83,.c (.int .i64 s.1))])
    (fun s=>⟨[(4,b4),(2,b2)],[(4,hdr0.sg,59),(2,[.many 32 (u8s x)],23)],[Own s.2.1 s.2.2 23 32 (rowK (ss.take s.1)),Own a11 c11 5 1 (u8s B),RowK (some (radr p7)) c7 127 ss,A]⟩)
    (fun s=>s.1 ≤ ss.length ∧ s.1 ≤ s.2.2 ∧ (s.2.1 = none → s.1 = 0)) (fun s=>ss.length - s.1) (0,none,0) ⟨Nat.zero_le _,Nat.le_refl _,fun _=>rfl⟩ ?_ ?_
  · refine Wk.own0 23 32 ?_;exact Wk.m [4,2] [0,0,0,0] kk ⟨⟨kk,hok0 _⟩,⟨kk,hks _,trivial⟩,trivial⟩ ⟨rfl,rfl⟩
  rintro ⟨i,a14,c14⟩ ⟨hi,hc14,hn14⟩;dsimp only at hi hc14 hn14 ⊢;(conv=>whnf);refine Cond.d (fun h=>?_) (fun h=>?_)
  · have hi' : i < ss.length:=by omega
    have hk0 : ss[i].length = 32:=hak _ (List.getElem_mem hi');(conv=>whnf);refine ⟨by omega,PtrOb.rd (A:=RowK (some (radr p7)) c7 127 ss) (by simp) Own.rd (by rw [q0k hak];omega) fun q hq=>?_⟩;obtain rfl:=q1z hq;(conv=>whnf);refine ldk (A:=RowK (some (radr p7)) c7 127 ss) (l:=ss) i (by simp) Own.rd hak hi' rfl rfl rfl (by show _ + (i : Int).toNat * 32 = _;omega) ?_;(conv=>whnf);intro b16;(conv=>whnf);intro b89;(conv=>whnf);have htl : (ss.take i).length = i:=by rw [List.length_take];omega
    refine q1a (a:=a14) (n:=i) (cap:=c14) (xs:=rowK (ss.take i)) (k:=1) (ys:=u8s ss[i]) (src:=.c (.slc 89 0 1 1)) (F':=[Own a11 c11 5 1 (u8s B),RowK (some (radr p7)) c7 127 ss,A]) (.refl _) (by rw [q0k (qfn hak i),htl]) (by rw [u8l,hk0];rfl) (by exact Src.slc ⟨[],rfl⟩) (q0s _) (by show (i + 1 + (i + 1) / 4 + 192) * 32 ≤ 281474976710656;omega) (by omega) (by decide) 60 (.inr rfl) ?_;intro a15 c15 hc15 hn15;rw [← er,← List.take_succ_eq_append_getElem hi'];(conv=>whnf);refine Ar.i64 (by omega) ?_;conv=>whnf
    exact ⟨(i + 1,a15,c15),⟨by dsimp only;omega,hc15,fun e=>absurd (hn15 e) (by omega)⟩,by dsimp only;omega,Wk.m [4,2] [0,0,0,0] kk ⟨⟨kk,hok0 _⟩,⟨kk,hks _,trivial⟩,trivial⟩ ⟨rfl,rfl⟩⟩
  obtain rfl : i = ss.length:=by omega
  rw [List.take_length];(conv=>whnf);refine Draw.a (by kernel_rfl) tt_ok (Tv.of [0,2,3,4,5,6,7,8,11,1,9,10,12,13,14] .nil) 12 (by kernel_rfl) ?_;(conv=>whnf);refine ⟨by omega,PtrOb.rd (A:=Own a11 c11 5 1 (u8s B)) (by simp) Own.rd (by rw [u8l];omega) fun q hq=>?_⟩;subst hq;(conv=>whnf);refine lds (A:=Own (some (radr q)) c11 5 1 (u8s B)) 0 [.many 160 (u8s B)] rfl (by simp) Own.rd rfl rfl ?_ ?_ (by decide) (q04 ⟨mok hbj _,trivial⟩) ?_
  · show u8s B ++ [] = ((u8s B).drop 0).take 160;rw [List.append_nil,List.drop_zero,List.take_of_length_le (by rw [u8l];omega)]
  · show (u8s B ++ []).length = 160;rw [List.append_nil,u8l,hbj]
  (conv=>whnf);refine ⟨by omega,PtrOb.rd (A:=RowK (some (radr p7)) c7 127 ss) (by simp) Own.rd (by rw [q0k hak];omega) fun q2 hq2=>?_⟩;obtain rfl:=q1z hq2;(conv=>whnf);have hk0 : kAt ss 0 = ss[0]:=q5d (by omega);have hkl0 : ss[0].length = 32:=hak _ (List.getElem_mem (by omega : 0 < ss.length));rw [hk0];refine ldk (A:=RowK (some (radr p7)) c7 127 ss) (l:=ss) 0 (by simp) Own.rd hak (by omega) rfl rfl rfl rfl ?_;(conv=>whnf);refine Cq.pu (qbp _ x hx) rfl ?_;(conv=>whnf);refine Sub.r [4,2] [0,0,0,0] ?_;conv=>whnf
  refine Cq.pu (qbw _ (Own (some (radr q)) c11 5 1 (u8s B)) (Ent.a mm) (hK.ent (Ent.a mm)) ss[0] hkl0 (some (radr q)) c11 B ⟨Own.rd,hc11⟩ (by omega)) rfl ?_;(conv=>whnf);refine Sub.r [4,2] [0,0,0,0] ?_;(conv=>whnf);exact Ret.m (a14,c14) [] [0,2] ⟨hc14,fun e=>List.eq_nil_of_length_eq_zero (hn14 e)⟩ rfl ⟨⟨mok (q2p x) _,mok hbj _,mok (q24 _ _) _,trivial⟩,trivial,trivial,trivial⟩ kk ⟨rfl,rfl⟩
end
end Go.Proofs.YtfehjfoajlfhfaaGreatDoor
