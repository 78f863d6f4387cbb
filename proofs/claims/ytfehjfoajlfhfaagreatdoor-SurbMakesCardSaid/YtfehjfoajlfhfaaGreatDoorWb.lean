import Derived.Test.YtfehjfoajlfhfaaGreatDoorWa
import Derived.Deep.DeepAppendWide
import Derived.OrdersIn
import Derived.ChangeArms
import Derived.OpenShut
import Derived.Carry
import Derived.WideShapes
import Derived.Laws.BytesArg
/- The walker's second part: contracts, rows of cells, shapes of values, the arguments of a law. No program in it. -/
/- Contracts of functions: how one is entered, and how it is used at a call. No program in it. -/
namespace Go.Sx
abbrev Cel:=Nat × List Seg × Nat
def Cel.p (c : Cel) : HP:=blk c.1 (.cells (dens [] c.2.1).toArray c.2.2)
structure Con (P : Program) (f : Nat) (args : List SV) (qc : List Cel) (pre : List HP) (A : HP) {τ : Type} (p : τ → Prop) (val : τ → SV) (qc' : τ → List Cel) (post : τ → List HP) : Prop where
  runs : Runs P f
  h : ∀ w,sat (qc.map Cel.p ++ (pre ++ [A])) w → Calls P f (args.map (SV.den [])).toArray w fun e w' =>
    ∃ t,p t ∧ e = .returned ((val t).den []) ∧ (val t).ok [] ∧ (∀ c ∈ qc' t,∀ s ∈ c.2.1,s.ok []) ∧ sat ((qc' t).map Cel.p ++ (post t ++ [A])) w'
def pickH : List Nat → List Chunk → List Chunk → (List Chunk → List Chunk → Prop) → Prop
  | [],_,H,f=>f [] H
  | _ :: _,[],_,_=>False
  | i :: cs,_ :: fuel,H,f=>findH H i fun c rest=>pickH cs fuel rest fun l r=>f (c :: l) r
where
  findH : List Chunk → Nat → (Chunk → List Chunk → Prop) → Prop
  | [],_,_=>False
  | c :: r,i,f=>match Nat.beq c.1 i with
    | true=>f c r
    | false=>findH r i fun c' r'=>f c' (c :: r')
def pickF : List Nat → List HP → (List HP → List HP → Prop) → Prop
  | [],F,f=>f [] F
  | i :: is,F,f=>at_ F i fun p rest=>pickF is rest fun l r=>f (p :: l) r
where
  at_ : List HP → Nat → (HP → List HP → Prop) → Prop
  | [],_,_=>False
  | p :: r,i,f=>match i with
    | 0=>f p r
    | i + 1=>at_ r i fun q r'=>f q (p :: r')
def qhw : List Chunk → List Cel → List Chunk → (List Chunk → Prop) → Prop
  | [],[],r,f=>f r
  | (i,_,_) :: cs,(_,s,t) :: l,r,f=>qhw cs l r fun H=>f ((i,s,t) :: H)
  | _,_,_,_=>False
theorem qam : ∀ {H : List Chunk} {i : Nat} {f : Chunk → List Chunk → Prop},pickH.findH H i f → ∃ c r,f c r ∧ H.Perm (c :: r)
  | [],_,_,h=>h.elim
  | c :: r,i,f,h=>by
    simp only [pickH.findH] at h
    cases e : Nat.beq c.1 i with
    | true=>rw [e] at h;exact ⟨c,r,h,.refl _⟩
    | false =>
      rw [e] at h;obtain ⟨c',r',hf,hp⟩:=qam h;exact ⟨c',_,hf,(hp.cons c).trans (.swap _ _ _)⟩
theorem q1i : ∀ {cs : List Nat} {fuel H : List Chunk} {f : List Chunk → List Chunk → Prop},pickH cs fuel H f → ∃ l r,f l r ∧ H.Perm (l ++ r)
  | [],_,H,f,h=>⟨[],H,h,.refl _⟩
  | i :: cs,[],H,f,h=>h.elim
  | i :: cs,_ :: fuel,H,f,h=>by
    obtain ⟨c,r,h,hp⟩:=qam h;obtain ⟨l,r',h,hp'⟩:=q1i h;exact ⟨_,r',h,hp.trans (hp'.cons c)⟩
theorem qev : ∀ {F : List HP} {i : Nat} {f : HP → List HP → Prop},pickF.at_ F i f → ∃ p r,f p r ∧ F.Perm (p :: r)
  | [],_,_,h=>h.elim
  | p :: r,0,f,h=>⟨p,r,h,.refl _⟩
  | p :: r,i + 1,f,h=>by
    obtain ⟨c',r',hf,hp⟩:=qev (F:=r) h;exact ⟨c',_,hf,(hp.cons p).trans (.swap _ _ _)⟩
theorem q1j : ∀ {cs : List Nat} {F : List HP} {f : List HP → List HP → Prop},pickF cs F f → ∃ l r,f l r ∧ F.Perm (l ++ r)
  | [],F,f,h=>⟨[],F,h,.refl _⟩
  | i :: cs,F,f,h=>by
    obtain ⟨c,r,h,hp⟩:=qev h;obtain ⟨l,r',h,hp'⟩:=q1j h;exact ⟨_,r',h,hp.trans (hp'.cons c)⟩
theorem q95 {B : Names} : ∀ {cs : List Chunk} {l : List Cel} {r : List Chunk} {f : List Chunk → Prop},qhw cs l r f → (∀ c ∈ cs,has B c.1) → (∀ c ∈ l,∀ s ∈ c.2.1,s.ok []) → (l.map (·.1) = cs.map fun c=>bl B c.1) →
    ∃ H,f (H ++ r) ∧ H.map (Chunk.p B) = l.map Cel.p ∧ ∀ c ∈ H,Chunk.ok B c
  | [],[],r,f,h,_,_,_=>⟨[],h,rfl,by simp⟩
  | (i,s0,t0) :: cs,(b,s,t) :: l,r,f,h,hc,hl,hb=>by
    simp only [List.map_cons,List.cons.injEq] at hb;obtain ⟨H,hf,hp,hk⟩:=q95 (cs:=cs) (l:=l) (r:=r) (f:=fun H=>f ((i,s,t) :: H)) h (fun c hx=>hc c (by simp [hx])) (fun c hx=>hl c (by simp [hx])) hb.2;have ks:=q4o (hl (b,s,t) (by simp)) B;refine ⟨(i,s,t) :: H,hf,?_,?_⟩
    · simp only [List.map_cons,hp];congr 1;simp only [Chunk.p,Cel.p,← hb.1,ks.2]
    · intro c hx
      rcases List.mem_cons.1 hx with rfl | hx
      · exact ⟨hc (i,s0,t0) List.mem_cons_self,ks.1⟩
      · exact hk c hx
  | [],_ :: _,_,_,h,_,_,_=>h.elim
  | _ :: _,[],_,_,h,_,_,_=>h.elim
theorem qqq {x : SV} (h : x.ok []) (B : Names) : x.ok B ∧ x.den B = x.den []:=by
  have sc : ∀ x : SC,x.ok [] → x.ok B ∧ x.den B = x.den []:=fun x h=>by cases x <;> first | exact ⟨trivial,rfl⟩ | exact h.elim | exact ⟨h,rfl⟩
  cases x with
  | c x=>exact sc x h
  | agg l=>have:=q4o h B;exact ⟨this.1,by simp [SV.den,this.2]⟩
  | tup l =>
    have : ∀ s ∈ l,s.ok B ∧ s.den B = s.den []:=fun s hs=>by
      have:=h s hs
      cases s with
      | c x=>exact sc x this
      | agg l=>have:=q4o this B;exact ⟨this.1,by simp [SA.den,this.2]⟩
    exact ⟨fun s hs=>(this s hs).1,by simp only [SV.den];congr 2;exact List.map_congr_left fun s hs=>(this s hs).2⟩
theorem Cq.by' {P : Program} {fn : Nat} {args args' : List SV} {qc : List Cel} {pre : List HP} {A : HP} {τ : Type} {p : τ → Prop} {val : τ → SV} {qc' : τ → List Cel} {post : τ → List HP}
    {B : Names} {H : List Chunk} {F : List HP} {f : SV → List Chunk → List HP → Prop} (cs fi : List Nat) (C : Con P fn args' qc pre A p val qc' post)
    (hargs : args.map (SV.den B) = args'.map (SV.den []))
    (h : pickH cs H H fun ch rH=>pickF fi F fun l rF=>(ch.map (Chunk.p B) = qc.map Cel.p) ∧ (l = pre) ∧ (A = all (rH.map (Chunk.p B) ++ rF)) ∧
      ∀ t,p t → ((qc' t).map (·.1) = ch.map fun c=>bl B c.1) ∧ qhw ch (qc' t) rH fun H'=>f (val t) H' (post t ++ rF)) : Cq P fn args ⟨B,H,F⟩ f:=by
  refine .runs C.runs fun km w hs=>?_;obtain ⟨ch,rH,h1,pH⟩:=q1i h;obtain ⟨l,rF,⟨e1,e2,e3,h2⟩,pF⟩:=q1j h1;subst e2
  have s1 : sat (qc.map Cel.p ++ (l ++ [A])) w:=by
    rw [← e1,e3];have s2 : sat ((ch ++ rH).map (Chunk.p B) ++ (l ++ rF)) w:=q07 ((pH.map _).append pF) hs
    have s3 : sat (all (rH.map (Chunk.p B) ++ rF) :: (ch.map (Chunk.p B) ++ l)) w:=by
      refine q14.2 (q07 ?_ s2);rw [List.map_append]
      have a1 : (ch.map (Chunk.p B) ++ rH.map (Chunk.p B) ++ (l ++ rF)).Perm (rH.map (Chunk.p B) ++ rF ++ (ch.map (Chunk.p B) ++ l)):=by
        refine (List.perm_append_comm (l₁:=ch.map (Chunk.p B)) (l₂:=rH.map (Chunk.p B))).append (List.perm_append_comm (l₁:=l) (l₂:=rF)) |>.trans ?_
        simp only [List.append_assoc];refine List.Perm.append_left _ ?_;refine (List.perm_append_comm_assoc _ _ _).trans ?_
        simp
      exact a1
    refine q07 ?_ s3;rw [← List.append_assoc];exact (List.perm_append_comm (l₁:=[_]) (l₂:=ch.map (Chunk.p B) ++ l))
  rw [hargs];refine (C.h w s1).mono ?_;rintro e w' ⟨t,hp,rfl,kv,kc,s4⟩;obtain ⟨hb,hr⟩:=h2 t hp;have hch : ∀ c ∈ ch ++ rH,Chunk.ok B c:=fun c hc=>km c (pH.mem_iff.2 hc);obtain ⟨H',hf,hH,kH⟩:=q95 (B:=B) hr (fun c hc=>(hch c (by simp [hc])).1) kc hb;have kv':=qqq kv B;refine ⟨val t,H' ++ rH,post t ++ rF,by rw [kv'.2],kv'.1,?_,?_,hf⟩
  · simp only [M.props,List.map_append,hH];rw [e3] at s4
    have s5 : sat (all (rH.map (Chunk.p B) ++ rF) :: ((qc' t).map Cel.p ++ post t)) w':=by
      refine q07 ?_ s4;rw [← List.append_assoc];exact (List.perm_append_comm (l₁:=(qc' t).map Cel.p ++ post t) (l₂:=[_]))
    refine q07 ?_ (q14.1 s5)
    have a1 : (rH.map (Chunk.p B) ++ rF ++ ((qc' t).map Cel.p ++ post t)).Perm ((qc' t).map Cel.p ++ rH.map (Chunk.p B) ++ (post t ++ rF)):=by
      refine (List.perm_append_comm).trans ?_;simp only [List.append_assoc];refine List.Perm.append_left _ ?_;exact List.perm_append_comm_assoc _ _ _
    exact a1
  · intro c hc
    rcases List.mem_append.1 hc with hc | hc
    · exact kH c hc
    · exact hch c (by simp [hc])
def env0 : Nat → List SV → Env
  | _,[]=>[]
  | i,x :: r=>(i,x) :: env0 (i + 1) r
structure Ret (B : Names) (H : List Chunk) (F : List HP) (v : SV) {τ : Type} (p : τ → Prop) (val : τ → SV) (qc' : τ → List Cel) (post : τ → List HP) (A : HP) : Prop where
  h : ∃ t,p t ∧ v.den B = (val t).den [] ∧ (val t).ok [] ∧ (∀ c ∈ qc' t,∀ s ∈ c.2.1,s.ok []) ∧ ∀ w,sat (M.props ⟨B,H,F⟩) w → sat ((qc' t).map Cel.p ++ (post t ++ [A])) w
noncomputable def resOf (_P : Program) (tt : TT) (env : Env) (m : M) (rs : List ResultVar) : (List SA → Prop) → Prop :=
  @List.rec ResultVar (fun _=>(List SA → Prop) → Prop) (fun f=>f []) (fun x _ ih f=>match x with
    | .tmp t=>look env t fun v=>match v with
      | .c x=>ih fun l=>f (.c x :: l)
      | .agg x=>ih fun l=>f (.agg x :: l)
      | .tup _=>False
    | .cell t ty=>look env t fun a=>match a with
      | .c (.ptr i off)=>tt.get ty fun x=>match m with
        | ⟨B,H,_⟩=>atH H i fun segs _ _=>takeV B segs off x.size x.k.agg fun v=>match v with
          | .c x=>ih fun l=>f (.c x :: l)
          | .agg x=>ih fun l=>f (.agg x :: l)
          | .tup _=>False
      | _=>False) rs
def tupOf : List SA → SV
  | [x]=>x.sv
  | l=>.tup l
noncomputable def retK (P : Program) (tt : TT) (rs : List ResultVar) (f : M → SV → Prop) : Ex → Env → M → Prop
  | .exit _,_,_=>False
  | _,env,m=>q9p m.B (resOf P tt env m rs fun l=>f m (tupOf l))
inductive MarkOut (m : M) (g : M → Prop) : Prop where
  | no : q9p m.B (g m) → MarkOut m g
  | one (i r : Nat) : dsOf m.B = [mark r] → pickF.at_ m.F i (fun p rest=>p = Mk r ∧ g ⟨m.B,m.H,rest⟩) → MarkOut m g
noncomputable def retM (P : Program) (tt : TT) (rs : List ResultVar) (f : M → SV → Prop) : Ex → Env → M → Prop
  | .exit _,_,_=>False
  | _,env,m=>MarkOut m fun m=>resOf P tt env m rs fun l=>f m (tupOf l)
def q7j (tmps : Array Value) : ResultVar → Sem Value
  | .tmp t=>pure (tmps.getD t undef)
  | .cell c t=>do loadVar t (← asAddr (tmps.getD c undef))
theorem qa7 {P : Program} {tt : TT} (ok : tt.ok P) {N : Nat} {env : Env} {m : M} {a : Act} {w : World} (st : St N env m a w) : ∀ {rs : List ResultVar} {f : List SA → Prop},resOf P tt env m rs f →
    ∃ l,f l ∧ (∀ x ∈ l,x.ok m.B) ∧ (rs.mapM (q7j a.tmps)).run P w = .ok (l.map (SA.den m.B)) w
  | [],f,h=>⟨[],h,by simp,rfl⟩
  | v0 :: r,f,h=>by
    have step : ∀ x : SA,(q7j a.tmps v0).run P w = .ok (x.den m.B) w → x.ok m.B → (resOf P tt env m r fun l=>f (x :: l)) →
        ∃ l,f l ∧ (∀ x ∈ l,x.ok m.B) ∧ ((v0 :: r).mapM (q7j a.tmps)).run P w = .ok (l.map (SA.den m.B)) w:=by
      intro x hx kx h;obtain ⟨l,hf,kl,hr⟩:=qa7 ok st h;refine ⟨_,hf,fun y hy=>?_,?_⟩
      · rcases List.mem_cons.1 hy with rfl | hy
        · exact kx
        · exact kl y hy
      · simp only [List.mapM_cons,Sem.run_bind,hx,Result.andThen_ok,hr,Sem.run_pure,List.map_cons]
    cases v0 with
    | tmp t =>
      obtain ⟨v,h1,kv,hv⟩:=st.look h;have hd : (q7j a.tmps (.tmp t)).run P w = .ok (v.den m.B) w:=by simp [q7j,hv]
      cases v with
      | c x=>exact step (.c x) hd kv h1
      | agg x=>exact step (.agg x) hd kv h1
      | tup _=>exact h1.elim
    | cell t ty =>
      obtain ⟨v,h1,kv,hv⟩:=st.look h
      cases v with
      | c z =>
        cases z with
        | ptr i off =>
          obtain ⟨x,T,h2⟩:=q0c ok h1
          cases m with
          | mk B H F =>
          obtain ⟨H1,s,t',H2,pt,rfl,h3,_⟩:=q2f h2;have ks:=(st.k (i,s,t') (by simp)).2;obtain ⟨v,hf,kv',hv'⟩:=q5a ks h3
          have load : (q7j a.tmps (.cell t ty)).run P w = .ok (v.den B) w:=by
            have hd : a.tmps.getD t undef = .pointer (some ⟨bl B i,off,none⟩):=by simp [hv,SV.den,SC.den]
            simp only [q7j,hd,asAddr,Sem.run_bind,Sem.run_pure,Result.andThen_ok];exact q1f T (q2c st.s) hv'
          cases v with
          | c x=>exact step (.c x) load kv' hf
          | agg x=>exact step (.agg x) load kv' hf
          | tup _=>exact hf.elim
        | _=>exact h1.elim
      | _=>exact h1.elim
theorem qh4 {B : Names} {l : List SA} (k : ∀ x ∈ l,x.ok B) : (tupOf l).ok B ∧ (if h : (l.map (SA.den B)).toArray.size = 1 then (l.map (SA.den B)).toArray[0] else .tuple (l.map (SA.den B)).toArray) = (tupOf l).den B:=by
  match l with
  | []=>exact ⟨fun s hs=>by simp at hs,rfl⟩
  | [.c x]=>exact ⟨(k (.c x) (by simp) : x.ok B),rfl⟩
  | [.agg x]=>exact ⟨(k (.agg x) (by simp) : (SA.agg x).ok B),rfl⟩
  | x :: y :: r=>exact ⟨k,by rw [dif_neg (by simp)];rfl⟩
theorem qd8 : ∀ (l : List SV) (k t : Nat) (x : SV),look (env0 k l) t (· = x) → k ≤ t ∧ l[t - k]? = some x
  | [],_,_,_,h=>h.elim
  | y :: r,k,t,x,h=>by
    simp only [env0,look] at h
    cases e : Nat.beq k t with
    | true =>
      rw [e] at h;have:=Nat.eq_of_beq_eq_true e;subst this;have h : y = x:=h;exact ⟨Nat.le_refl _,by simp [h]⟩
    | false =>
      rw [e] at h;have hne:=Nat.ne_of_beq_eq_false e;obtain ⟨h1,h2⟩:=qd8 r (k + 1) t x h;refine ⟨by omega,?_⟩;rw [show t - k = (t - (k + 1)) + 1 by omega]
      simpa using h2
theorem Con.ofG {P : Program} {tt : TT} (ok : tt.ok P) {f : Nat} {args : List SV} {qc : List Cel} {pre : List HP} {A : HP} {τ : Type} {p : τ → Prop} {val : τ → SV} {qc' : τ → List Cel} {post : τ → List HP}
    {fd : Func} {c : Code} (hf : P.funcs[f]? = some fd) (hb : fd.body = some c) (hn : (fd.name == "runtime.NumGoroutine") = false) (args0 : List SV) (B : Names) (H : List Chunk)
    (hargs : args.map (SV.den []) = args0.map (SV.den B)) (hH : H.map (Chunk.p B) = qc.map Cel.p) (kH : ∀ c ∈ H,Chunk.ok B c) (kargs : ∀ x ∈ args0,x.ok B)
    (hN : args0.length ≤ fd.ntmps) (hB : dsOf B = [])
    {K : Ex → Env → M → Prop} (hK : ∀ e env m,K e env m → retM P tt fd.results.toList (fun m v=>Ret m.B m.H m.F v p val qc' post A) e env m) (h : exec P tt fd.ntmps c (env0 0 args0) ⟨B,H,pre ++ [A]⟩ K) :
    Con P f args qc pre A p val qc' post:=by
  refine ⟨⟨fd,hf,by rw [hb];rfl,hn⟩,fun w hs=>callsIn_wide.1 (callsIn_of_wp_marks (F:=Fence.wide) (n:=0) hf hb trivial ?_)⟩
  have st : St fd.ntmps (env0 0 args0) ⟨B,H,pre ++ [A]⟩ { tmps:=(args.map (SV.den [])).toArray ++ Array.replicate (fd.ntmps - (args.map (SV.den [])).toArray.size) undef,defers:=[] } w:=by
    refine ⟨hB.symm,?_,fun t x hx=>?_,kH,?_⟩
    · have : args.length = args0.length:=by have:=congrArg List.length hargs;simpa using this
      simp;omega
    · obtain ⟨_,hx⟩:=qd8 args0 0 t x hx;refine ⟨kargs x (List.mem_of_getElem? hx),?_⟩;simp only [Nat.sub_zero] at hx
      have hlt : t < args0.length:=by
        rcases Nat.lt_or_ge t args0.length with h | h
        · exact h
        · rw [List.getElem?_eq_none h] at hx;cases hx
      have hl : args.length = args0.length:=by have:=congrArg List.length hargs;simpa using this
      rw [hargs];rw [Array.getElem?_append_left (by simpa using hlt)]
      simp [hx]
    · simp only [M.props,hH];exact hs
  refine qhi ok c none (.inl rfl) _ _ _ _ _ _ h st ?_;intro e env m a w' hr st';have hr:=hK _ _ _ hr
  have key : ∀ m w',St fd.ntmps env m a w' → resOf P tt env m fd.results.toList (fun l=>Ret m.B m.H m.F (tupOf l) p val qc' post A) → ∃ v,(results fd a.tmps).run P w' = .ok v w' ∧
      (fun e w'=>∃ t,p t ∧ e = Ending.returned ((val t).den []) ∧ (val t).ok [] ∧ (∀ c ∈ qc' t,∀ s ∈ c.2.1,s.ok []) ∧ sat ((qc' t).map Cel.p ++ (post t ++ [A])) w') (.returned v) w':=by
    intro m w' st' hr;obtain ⟨l,hr,kl,hrun⟩:=qa7 ok st' hr;obtain ⟨t,hp,hv,kv,kq,hm⟩:=hr.h;have ht:=qh4 kl;refine ⟨(tupOf l).den m.B,?_,t,hp,by rw [hv],kv,kq,hm w' st'.s⟩
    have e : results fd a.tmps = (do let vs ← fd.results.mapM (q7j a.tmps);pure (if h : vs.size = 1 then vs[0] else .tuple vs)):=by
      unfold results;congr 2
    rw [e];simp only [Array.mapM_eq_mapM_toList,Sem.run_bind,Sem.run_map];rw [hrun];simp only [Result.andThen_ok,Sem.run_pure,Result.ok.injEq,and_true];exact ht.2
  have key2 : MarkOut m (fun m=>resOf P tt env m fd.results.toList (fun l=>Ret m.B m.H m.F (tupOf l) p val qc' post A)) → LeavesInM Fence.wide 0 P fd a.tmps
      (fun e w'=>∃ t,p t ∧ e = Ending.returned ((val t).den []) ∧ (val t).ok [] ∧ (∀ c ∈ qc' t,∀ s ∈ c.2.1,s.ok []) ∧ sat ((qc' t).map Cel.p ++ (post t ++ [A])) w') a.defers .returning w':=by
    rintro (hr | ⟨i,r,hd,hr⟩)
    · obtain ⟨hd,hr⟩:=q7i hr;rw [st'.d,hd];exact key m w' st' hr
    · rw [st'.d,hd];obtain ⟨x,rest,⟨rfl,hr⟩,pF⟩:=qev hr;have s1 : sat (Mk r :: (m.H.map (Chunk.p m.B) ++ rest)) w':=q19.1 (q07 (List.Perm.append_left _ pF) st'.s);have hb:=qdu s1;have hlt : r < w'.heap.size:=(Array.getElem?_eq_some_iff.1 hb).1;refine ⟨(fun h=>by cases h),.inl ⟨r,_,rfl,run_takeDeferred hb,key ⟨m.B,m.H,rest⟩ _ ⟨st'.d,st'.n,st'.l,st'.k,?_⟩ hr⟩⟩;obtain ⟨g,k,d,hg,hk,hp,hs⟩:=q36 s1 (World.putObj_heap_same (o:=.deferred none) hlt) (fun c hc=>World.putObj_heap_other hc);exact q2z hk hs
  cases e with
  | normal=>exact key2 hr
  | ret=>exact key2 hr
  | exit i=>exact hr.elim
theorem qr8 {P : Program} {tt : TT} {rs : List ResultVar} {f : M → SV → Prop} {e : Ex} {env : Env} {m : M} (h : retK P tt rs f e env m) : retM P tt rs f e env m:=by
  cases e with
  | exit i=>exact h.elim
  | _=>exact .no h
theorem Con.of {P : Program} {tt : TT} (ok : tt.ok P) {f : Nat} {args : List SV} {qc : List Cel} {pre : List HP} {A : HP} {τ : Type} {p : τ → Prop} {val : τ → SV} {qc' : τ → List Cel} {post : τ → List HP}
    {fd : Func} {c : Code} (hf : P.funcs[f]? = some fd) (hb : fd.body = some c) (hn : (fd.name == "runtime.NumGoroutine") = false) (args0 : List SV) (B : Names) (H : List Chunk)
    (hargs : args.map (SV.den []) = args0.map (SV.den B)) (hH : H.map (Chunk.p B) = qc.map Cel.p) (kH : ∀ c ∈ H,Chunk.ok B c) (kargs : ∀ x ∈ args0,x.ok B)
    (hN : args0.length ≤ fd.ntmps) (hB : dsOf B = [])
    (h : exec P tt fd.ntmps c (env0 0 args0) ⟨B,H,pre ++ [A]⟩ (retK P tt fd.results.toList fun m v=>Ret m.B m.H m.F v p val qc' post A)) :
    Con P f args qc pre A p val qc' post :=
  Con.ofG ok hf hb hn args0 B H hargs hH kH kargs hN hB (fun _ _ _ h=>qr8 h) h
theorem Con.ofM {P : Program} {tt : TT} (ok : tt.ok P) {f : Nat} {args : List SV} {qc : List Cel} {pre : List HP} {A : HP} {τ : Type} {p : τ → Prop} {val : τ → SV} {qc' : τ → List Cel} {post : τ → List HP}
    {fd : Func} {c : Code} (hf : P.funcs[f]? = some fd) (hb : fd.body = some c) (hn : (fd.name == "runtime.NumGoroutine") = false) (args0 : List SV) (B : Names) (H : List Chunk)
    (hargs : args.map (SV.den []) = args0.map (SV.den B)) (hH : H.map (Chunk.p B) = qc.map Cel.p) (kH : ∀ c ∈ H,Chunk.ok B c) (kargs : ∀ x ∈ args0,x.ok B)
    (hN : args0.length ≤ fd.ntmps) (hB : dsOf B = [])
    (h : exec P tt fd.ntmps c (env0 0 args0) ⟨B,H,pre ++ [A]⟩ (retM P tt fd.results.toList fun m v=>Ret m.B m.H m.F v p val qc' post A)) :
    Con P f args qc pre A p val qc' post :=
  Con.ofG ok hf hb hn args0 B H hargs hH kH kargs hN hB (fun _ _ _ h=>h) h
end Go.Sx
namespace Go.Sx
def SC.okB : SC → Bool
  | .ptr .. | .elt .. | .slc ..=>false
  | .raw v=>v.oneCell'
  | _=>true
def Seg.okB : Seg → Bool
  | .one x=>x.okB
  | .many n l=>l.length == n && l.all (·.oneCell')
def TT.okB (tt : TT) : Bool:=tt.rows.all fun r=>r.2.zero.all Seg.okB && q2a r.2.zero == r.2.size
theorem TT.ok_of {P : Program} {tt : TT} (h : tt.rows.map (fun r=>infoX P r.1) = tt.rows.map (fun r=>some (r.2.k,r.2.size,r.2.bytes,some (dens [] r.2.zero)))) (h' : tt.okB = true) : tt.ok P:=by
  refine ⟨h,fun r hr=>?_⟩;have h1:=List.all_eq_true.1 h' r hr;simp only [Bool.and_eq_true,List.all_eq_true,beq_iff_eq] at h1;refine ⟨fun s hs=>?_,h1.2⟩;have h2:=h1.1 s hs
  cases s with
  | one x =>
    have h2 : x.okB = true:=h2;show x.ok [];cases x <;> first | trivial | (simp [SC.okB] at h2;done) | exact h2
  | many n l =>
    have h2 : (l.length == n && l.all (·.oneCell')) = true:=h2;simp only [Bool.and_eq_true,beq_iff_eq,List.all_eq_true] at h2;exact h2
theorem Ar.i64 {z : Int} {f : Int → Prop} (h : -9223372036854775808 ≤ z ∧ z ≤ 9223372036854775807) (k : f z) : Ar .i64 z f:=⟨by rw [IntWalk.i64_in z h];exact k⟩
theorem Ar.wr {k : IntKind} {z : Int} {f : Int → Prop} (h : f (k.wrap z)) : Ar k z f:=⟨h⟩
end Go.Sx
namespace Go.Sx
theorem qf3 {p : HP} {l : List HP} {w : World} (h : p ∈ l) (s : sat l w) : ∃ g,Le g (hpOf w) ∧ p g:=by
  obtain ⟨l1,l2,rfl⟩:=List.append_of_mem h;obtain ⟨g,k,d,hg,hk,hp,hs⟩:=q19.1 s;exact ⟨g,hg,hp⟩
theorem sat_F {m : M} {A : HP} {w : World} (h : A ∈ m.F) (s : sat m.props w) : ∃ g,Le g (hpOf w) ∧ A g :=
  qf3 (l:=m.props) (by simp only [M.props];exact List.mem_append_right _ h) s
def At (h : Hp) (p : Nat × Nat) (xs : List Value) : Prop:=∃ cs T fz,h p.1 = some (.cells cs T fz) ∧ ∀ (j : Nat) u,xs[j]? = some u → cs[p.2 + j]? = some u
def Rd (A : HP) (a : Option Addr) (xs : List Value) : Prop:=∀ h,A h → xs = [] ∨ ∃ p,a = some (radr p) ∧ At h p xs
theorem At.le {h g : Hp} (l : Le h g) {p : Nat × Nat} {xs : List Value} (x : At h p xs) : At g p xs :=
  let ⟨cs,T,fz,e,f⟩:=x;⟨cs,T,fz,l.out _ _ e,f⟩
theorem At.cell {w : World} {p : Nat × Nat} {xs : List Value} (x : At (hpOf w) p xs) {j : Nat} {u : Value} (h : xs[j]? = some u) : w.cell? ⟨p.1,p.2 + j,none⟩ = some u:=by
  obtain ⟨cs,T,fz,e,f⟩:=x;rw [cell_of_row w p.1 (p.2 + j) cs T fz e];exact f j u h
theorem At.sub {h : Hp} {p : Nat × Nat} {xs : List Value} (x : At h p xs) (l n : Nat) : At h (p.1,p.2 + l) ((xs.drop l).take n):=by
  obtain ⟨cs,T,fz,e,f⟩:=x;refine ⟨cs,T,fz,e,fun j u hj=>?_⟩;rw [List.getElem?_take] at hj
  split at hj
  · rw [List.getElem?_drop] at hj;rw [← f _ _ hj,Nat.add_assoc]
  · cases hj
theorem Rd.cutS {A : HP} {a : Option Addr} {xs : List Value} (r : Rd A a xs) (m l n s : Nat) (h : l + n ≤ m) : Rd A (cutA a m l s) ((xs.drop (l * s)).take (n * s)):=by
  intro g hg
  rcases r g hg with rfl | ⟨p,rfl,r'⟩
  · left;simp
  · by_cases e : n = 0
    · left;simp [e]
    · right
      refine ⟨(p.1,p.2 + l * s),?_,r'.sub _ _⟩;unfold cutA;rw [if_neg (by omega)]
      simp [radr,q0l]
theorem Rd.cut {A : HP} {a : Option Addr} {xs : List Value} (r : Rd A a xs) (m l n : Nat) (h : l + n ≤ m) : Rd A (cutA a m l 1) ((xs.drop l).take n):=by
  have:=r.cutS m l n 1 h
  simpa using this
theorem Rd.all {A : HP} {l : List HP} (h : A ∈ l) {a : Option Addr} {xs : List Value} (r : Rd A a xs) : Rd (all l) a xs:=by
  intro g hg;obtain ⟨l1,l2,rfl⟩:=List.append_of_mem h;obtain ⟨g',k,d,hg',hk,hp,hs⟩:=q19.1 hg;exact (r g' hp).imp id fun ⟨p,e,r⟩=>⟨p,e,r.le hg'⟩
theorem PtrOb.rd {A : HP} {a : Option Addr} {m : M} {f : Nat × Nat → Prop} {xs : List Value} (hA : A ∈ m.F) (hr : Rd A a xs) (hne : 0 < xs.length) (h : ∀ p,a = some (radr p) → f p) : PtrOb a m f:=by
  refine ⟨fun _ w hs=>?_⟩;obtain ⟨g,hg,hp⟩:=sat_F hA hs
  rcases hr g hp with rfl | ⟨p,e,_⟩
  · simp at hne
  · exact ⟨p,e,h p e⟩
theorem ld {P : Program} {t : Nat} {x : TyX} {b off : Nat} {m : M} {f : SV → Prop} {A : HP} {p : Nat × Nat} {xs : List Value} (j : Nat) (z : SC) (hx : x.k.agg = false) (hA : A ∈ m.F) (hr : Rd A (some (radr p)) xs)
    (hb : b = p.1) (ho : off = p.2 + j) (hz : xs[j]? = some (z.den m.B)) (kz : z.ok m.B) (h : f (.c z)) : With (Ty P t x) (LdOb P t ⟨b,off,none⟩ m f):=by
  refine ⟨fun T=>⟨.c z,kz,h,fun km w hs=>?_⟩⟩;obtain ⟨g,hg,hp⟩:=sat_F hA hs
  rcases hr g hp with rfl | ⟨q,e,hr⟩
  · simp at hz
  · obtain rfl : p = q:=by cases p;cases q;simp [radr] at e;simp [e]
    obtain ⟨cs,T',fz,e,h2⟩:=hr.le hg;subst hb ho;refine q1f T (L:=cs.toList) e ?_;rw [hx];simp only [Bool.false_eq_true,if_false,Array.getElem?_toList];exact h2 j _ hz
theorem lds {P : Program} {t : Nat} {x : TyX} {b off : Nat} {m : M} {f : SV → Prop} {A : HP} {p : Nat × Nat} {xs : List Value} (j : Nat) (l : List Seg) (hx : x.k.agg = true) (hA : A ∈ m.F) (hr : Rd A (some (radr p)) xs)
    (hb : b = p.1) (ho : off = p.2 + j) (hl : dens m.B l = (xs.drop j).take x.size) (hn : (dens m.B l).length = x.size) (hpos : 0 < x.size) (k1 : ∀ s ∈ l,s.ok m.B) (h : f (.agg l)) :
    With (Ty P t x) (LdOb P t ⟨b,off,none⟩ m f):=by
  refine ⟨fun T=>⟨.agg l,k1,h,fun km w hs=>?_⟩⟩;show (loadVar t ⟨b,off,none⟩).run P w = .ok (.agg (dens m.B l).toArray) w;generalize dens m.B l = l at hl hn ⊢;obtain ⟨g,hg,hp⟩:=sat_F hA hs
  rcases hr g hp with rfl | ⟨q,e,hr⟩
  · subst hl;simp at hn;omega
  · obtain rfl : p = q:=by cases p;cases q;simp [radr] at e;simp [e]
    obtain ⟨cs,T',fz,e,h2⟩:=hr.le hg;subst hb ho;have hlen : j + x.size ≤ xs.length:=by rw [hl] at hn;simp at hn;omega
    have hcs : ∀ i,i < x.size → cs.toList[p.2 + j + i]? = l[i]?:=by
      intro i hi;have hli : l[i]? = xs[j + i]?:=by rw [hl,List.getElem?_take_of_lt hi,List.getElem?_drop]
      have hb2 : j + i < xs.length:=by omega
      have h3:=h2 (j + i) xs[j + i] (List.getElem?_eq_getElem hb2);rw [hli,List.getElem?_eq_getElem hb2,← h3]
      simp [Nat.add_assoc]
    refine q1f T (L:=cs.toList) e ?_;rw [hx];simp only [if_true]
    have hfit : p.2 + j + x.size ≤ cs.toList.length:=by
      have:=hcs (x.size - 1) (by omega);rw [List.getElem?_eq_getElem (l:=l) (by omega)] at this;have:=(List.getElem?_eq_some_iff.1 this).1;omega
    refine ⟨hfit,?_⟩;congr 2
    apply List.ext_getElem?
    intro i
    by_cases hi : i < x.size
    · rw [List.getElem?_take_of_lt hi,List.getElem?_drop,hcs i hi]
    · have e1 : l[i]? = none:=List.getElem?_eq_none (by omega);have e2 : ((cs.toList.drop (p.2 + j)).take x.size)[i]? = none:=List.getElem?_eq_none (by rw [List.length_take];omega);rw [e1,e2]
def free (fz : Nat × Nat) (n : Nat) : Prop:=∀ i,i < n → ¬ (fz.1 ≤ i ∧ i < fz.2)
def Own (a : Option Addr) (cap e size : Nat) (xs : List Value) : HP:=fun h =>
  (a = none ∧ cap = 0 ∧ xs = []) ∨ ∃ b junk fz,a = some ⟨b,0,none⟩ ∧ h b = some (.cells (xs ++ junk).toArray e fz) ∧ xs.length + junk.length = cap * size ∧ free fz (cap * size) ∧ ∀ v ∈ xs ++ junk,v.oneCell' = true
theorem Own.rd {a : Option Addr} {cap e size : Nat} {xs : List Value} : Rd (Own a cap e size xs) a xs:=by
  rintro h (⟨_,_,rfl⟩ | ⟨b,junk,fz,rfl,hb,hl,hf,h1⟩)
  · exact .inl rfl
  · refine .inr ⟨(b,0),rfl,_,_,_,hb,fun j u hj=>?_⟩;have:=(List.getElem?_eq_some_iff.1 hj).1
    simp [List.getElem?_append_left this,hj]
theorem free_spec {w : World} {b i n : Nat} {cs : Array Value} {e : Nat} {fz : Nat × Nat} (hb : w.heap[b]? = some (.cells cs e fz)) (hf : free fz n) (hi : i < n) : w.frozen? ⟨b,i,none⟩ = false:=by
  simp only [World.frozen?,hb];have:=hf i hi;simp only [Bool.and_eq_false_iff,decide_eq_false_iff_not];omega
theorem q0w {P : Program} {b e n : Nat} {fz : Nat × Nat} (hf : free fz n) : ∀ (vs : List Value) (o i : Nat) (L : List Value) (w : World),w.heap[b]? = some (.cells L.toArray e fz) → L.length = n → o + i + vs.length ≤ n → (∀ v ∈ vs,v.oneCell' = true) →
    (storeCells ⟨b,o,none⟩ vs i).run P w = .ok () (w.setRow b (L.take (o + i) ++ (vs ++ L.drop (o + i + vs.length))).toArray)
  | [],o,i,L,w,hb,hn,_,_=>by
    simp only [storeCells,Sem.run_pure,List.nil_append,List.length_nil,Nat.add_zero,List.take_append_drop];congr 1;exact (setRow_self w b _ e fz hb).symm
  | v :: vs,o,i,L,w,hb,hn,hfit,h1=>by
    simp only [List.length_cons] at hfit
    have hc : w.cell? ⟨b,o + i,none⟩ = some (L[o + i]'(by omega)):=by
      rw [cell_of_row w b (o + i) _ e fz hb]
      simp [show o + i < L.length by omega]
    have hset : w.setCell ⟨b,o + i,none⟩ v = w.setRow b (L.set (o + i) v).toArray:=by
      rw [setCell_eq_setRow w b (o + i) _ e fz v hb]
      simp
    have hb':=(q2y (cs':=(L.set (o + i) v).toArray) hb).1;simp only [storeCells,q0l,Sem.run_bind];rw [run_store P w _ v .plain (h1 v (by simp)),hc];simp only [free_spec hb hf (show o + i < n by omega),Bool.false_eq_true,if_false,Result.andThen_ok,hset];rw [q0w hf vs o (i + 1) (L.set (o + i) v) _ hb' (by simpa using hn) (by omega) (fun u hu=>h1 u (by simp [hu])),setRow_setRow];congr 2
    have e1 : (L.set (o + i) v).take (o + (i + 1)) = L.take (o + i) ++ [v]:=by
      rw [show o + (i + 1) = (o + i) + 1 by omega,List.take_add_one,List.take_set_of_le (by omega)]
      simp [show o + i < L.length by omega]
    have e2 : (L.set (o + i) v).drop (o + (i + 1) + vs.length) = L.drop (o + i + (v :: vs).length):=by
      rw [List.drop_set_of_lt (by omega)];simp only [List.length_cons];congr 1;omega
    rw [e1,e2]
    simp
def Src (m : M) (x : SV) (k : Nat) (ys : List Value) : Prop:=m.ok → ∀ w,sat m.props w →
  (∃ (p : Addr) (c : Nat),x.den m.B = .slice (some p) k c ∧ ∀ (j : Nat) u,ys[j]? = some u → w.cell? (p.add j) = some u) ∨ (∃ c : Nat,x.den m.B = .slice none k c ∧ ys = []) ∨
    ∃ s : ByteArray,x.den m.B = .string s ∧ s.size = k ∧ ys = s.data.toList.map fun b=>.int .u8 b.toNat
theorem Src.rs {m : M} {A : HP} (hA : A ∈ m.F) {a : Option Addr} {k c : Nat} {ys : List Value} (hr : Rd A a ys) : Src m (.c (.rs a k c)) k ys:=by
  intro _ w hs;obtain ⟨g,hg,hp⟩:=sat_F hA hs
  rcases hr g hp with rfl | ⟨p,rfl,r'⟩
  · cases a with
    | none=>exact .inr (.inl ⟨c,rfl,rfl⟩)
    | some p=>exact .inl ⟨p,c,rfl,fun j u h=>by simp at h⟩
  · exact .inl ⟨radr p,c,rfl,fun j u h=>by simp only [radr,q0l];exact (r'.le hg).cell h⟩
theorem Src.nil {m : M} {c : Nat} : Src m (.c (.rs none 0 c)) 0 []:=fun _ _ _=>.inr (.inl ⟨c,rfl,rfl⟩)
theorem Src.str {m : M} (s : ByteArray) : Src m (.c (.str s)) s.size (s.data.toList.map fun b=>.int .u8 b.toNat):=fun _ _ _=>.inr (.inr ⟨s,rfl,rfl,rfl⟩)
theorem Src.slc {B : Names} {H : List Chunk} {F : List HP} {i off k c : Nat} {ys : List Value} (h : atH H i fun segs _ _=>∃ r,(dens B segs).drop off = ys ++ r) : Src ⟨B,H,F⟩ (.c (.slc i off k c)) k ys:=by
  intro km w hs;obtain ⟨H1,s,t,H2,put,rfl,⟨r,hr⟩,_⟩:=q2f h;refine .inl ⟨⟨bl B i,off,none⟩,c,rfl,fun j u hj=>?_⟩;rw [q0l];have hb:=q2c hs;rw [cell_of_row w (bl B i) (off + j) _ t _ hb];have hlt:=(List.getElem?_eq_some_iff.1 hj).1;have : ((dens B s).drop off)[j]? = some u:=by rw [hr,List.getElem?_append_left hlt,hj]
  simpa using this
theorem Src.run {P : Program} {m : M} {x : SV} {k size : Nat} {ys : List Value} {w w' : World} (h : Src m x k ys) (km : m.ok) (hs : sat m.props w) (he : w'.heap = w.heap) (hl : ys.length = k * size) :
    (Builtin.lenOf (x.den m.B)).run P w' = .ok k w' ∧ (Builtin.firstCells size k (x.den m.B)).run P w' = .ok ys.toArray w':=by
  rcases h km w hs with ⟨p,c,e,hc⟩ | ⟨c,e,rfl⟩ | ⟨s,e,hk,rfl⟩
  · rw [e];refine ⟨rfl,?_⟩;simp only [Builtin.firstCells];rw [← hl];refine run_loadCells_list (P:=P) w' p ys fun j v hj=>?_;have:=hc j v hj;unfold World.cell? at this ⊢;rw [he];exact this
  · rw [e];exact ⟨rfl,rfl⟩
  · rw [e];refine ⟨by simp [Builtin.lenOf,hk],?_⟩;simp only [Builtin.firstCells,Sem.run_pure];subst hk;congr 1
    apply Array.ext'
    simp
theorem q2u (z : Array Value) (n : Nat) : (Builtin.zeroCells z n).size = n * z.size:=by simp [Builtin.zeroCells]
theorem q37 {z : Array Value} (h : ∀ v ∈ z.toList,v.oneCell' = true) (n : Nat) : ∀ v ∈ (Builtin.zeroCells z n).toList,v.oneCell' = true:=by
  intro v hv;simp only [Builtin.zeroCells,Array.toList_map,Array.toList_range,List.mem_map,List.mem_range] at hv;obtain ⟨i,hi,rfl⟩:=hv
  have hz : 0 < z.size:=by
    rcases Nat.eq_zero_or_pos z.size with h0 | h0
    · rw [h0] at hi;simp at hi
    · exact h0
  have hm:=Nat.mod_lt i hz;rw [getElem!_pos z (i % z.size) hm];exact h _ (by simp)
theorem q4d {a : Option Addr} {cap e size : Nat} {xs : List Value} {l : List HP} {w : World} (s : sat (Own a cap e size xs :: l) w) :
    (a = none ∧ cap = 0 ∧ xs = []) ∨ ∃ b junk fz,a = some ⟨b,0,none⟩ ∧ w.heap[b]? = some (.cells (xs ++ junk).toArray e fz) ∧ xs.length + junk.length = cap * size ∧ free fz (cap * size) ∧ (∀ v ∈ xs ++ junk,v.oneCell' = true) ∧
      sat (blk b (.cells (xs ++ junk).toArray e fz) :: l) w:=by
  obtain ⟨g,k,d,hg,hk,h,hs⟩:=s
  rcases h with h | ⟨b,junk,fz,ha,hb,hl,hf,h1⟩
  · exact .inl h
  · exact .inr ⟨b,junk,fz,ha,hg.out _ _ hb,hl,hf,h1,g,k,d,hg,hk,hb,hs⟩
theorem qc6 {p : HP} {l : List HP} {w : World} (s : sat (p :: l) w) : sat l w:=by
  obtain ⟨g,k,d,hg,hk,hp,hs⟩:=s;exact q2z hk hs
theorem q1a {P : Program} {t e ty n cap k : Nat} {x y : TyX} {a : Option Addr} {xs ys : List Value} {B : Names} {H : List Chunk} {F F' : List HP} {src : SV} {f : SV → M → Prop}
    (hF : F.Perm (Own a cap e y.size xs :: F')) (hxs : xs.length = n * y.size) (hys : ys.length = k * y.size) (hsrc : Src ⟨B,H,F⟩ src k ys) (h1 : ∀ v ∈ ys,v.oneCell' = true)
    (hbig : (n + k + (n + k) / 4 + 192) * y.bytes ≤ 281474976710656) (hbig' : n + k ≤ 281474976710656) (hpos : 0 < y.bytes) (ts : Nat) (hts : P.underlying ts = some .string ∨ ts = t)
    (h : ∀ a' cap',n + k ≤ cap' → (a' = none → n + k = 0) → f (.c (.rs a' (n + k) cap')) ⟨B,H,Own a' cap' e y.size (xs ++ ys) :: F'⟩) :
    With (Ty P t x ∧ x.k = .slice e ∧ Ty P e y) (RunOb P (Builtin.append_ #[t,ts] ty ([SV.c (.rs a n cap),src].map (SV.den B)).toArray) ⟨B,H,F⟩ f):=by
  refine ⟨fun ⟨T,hk,E⟩=>⟨fun km w hs=>?_⟩⟩;have hu:=q21 T hk;obtain ⟨ie,_,_,hie,_,_,hes,heb,hez,hec⟩:=E.h
  rename_i z _ _
  have hzs : z.cells.size = y.size:=by rw [← Array.length_toList,hec,q0y E.z,E.l]
  have hz1 : ∀ v ∈ z.cells.toList,v.oneCell' = true:=by rw [hec];exact q0q E.z
  have hs2 : sat (Own a cap e y.size xs :: (H.map (Chunk.p B) ++ F')) w:=q07 ((List.Perm.append_left _ hF).trans List.perm_middle) hs;have src1:=hsrc.run (P:=P) km hs rfl hys;have src2:=hsrc.run (P:=P) (w':=w.drew) km hs rfl hys
  have old : ∀ w',w'.heap = w.heap → (Builtin.firstCells y.size n (.slice a n cap)).run P w' = .ok xs.toArray w':=by
    intro w' he;have : Src ⟨B,H,F⟩ (.c (.rs a n cap)) n xs:=Src.rs (A:=Own a cap e y.size xs) (hF.mem_iff.2 (by simp)) Own.rd;exact (this.run (P:=P) km hs he hxs).2
  have eargs : ([SV.c (.rs a n cap),src].map (SV.den B)).toArray = #[.slice a n cap,src.den B]:=rfl;show ∃ v w',(Builtin.append_ #[t,ts] ty ([SV.c (.rs a n cap),src].map (SV.den B)).toArray).run P w = .ok v w' ∧ _;rw [eargs];have src1 : (Builtin.lenOf (src.den B)).run P w = .ok k w ∧ (Builtin.firstCells y.size k (src.den B)).run P w = .ok ys.toArray w:=src1;have src2 : (Builtin.lenOf (src.den B)).run P w.drew = .ok k w.drew ∧ (Builtin.firstCells y.size k (src.den B)).run P w.drew = .ok ys.toArray w.drew:=src2;generalize src.den B = sv at src1 src2 ⊢
  -- what the result needs
  have fin : ∀ (v : Value) (w' : World) (a' : Option Addr) (cap' : Nat),v = .slice a' (n + k) cap' → n + k ≤ cap' → (a' = none → n + k = 0) → sat (Own a' cap' e y.size (xs ++ ys) :: (H.map (Chunk.p B) ++ F')) w' →
      (Builtin.append_ #[t,ts] ty #[.slice a n cap,sv]).run P w = .ok v w' →
      ∃ v w',(Builtin.append_ #[t,ts] ty #[.slice a n cap,sv]).run P w = .ok v w' ∧ ∃ x m',v = SV.den m'.B x ∧ x.ok m'.B ∧ m'.ok ∧ sat m'.props w' ∧
        (m'.B = B ∨ ∃ d b,fresh B d True ∧ m'.B = (d,b) :: B) ∧ f x m':=by
    intro v w' a' cap' hv hc1 hc2 hs' hr;refine ⟨v,w',hr,.c (.rs a' (n + k) cap'),⟨B,H,Own a' cap' e y.size (xs ++ ys) :: F'⟩,hv,trivial,km,?_,.inl rfl,h a' cap' hc1 hc2⟩;exact q07 List.perm_middle.symm hs'
  have hsz : ∀ w',(sizeOf e).run P w' = .ok y.size w':=fun w'=>E.run_sizeOf w';have hty : ∀ w',(typeInfo e).run P w' = .ok ie w':=fun w'=>by simp [typeInfo,hie]
  have hzero : ∀ w',(zeroValue e).run P w' = .ok z w':=fun w'=>by simp [zeroValue,typeInfo,hie,hez]
  have hund : ∀ w',(underlying t).run P w' = .ok (.slice e) w':=fun w'=>run_underlying hu w'
  have hundts : (∀ w',(underlying ts).run P w' = .ok .string w') ∨ ∀ w',(underlying ts).run P w' = .ok (.slice e) w':=by
    rcases hts with h | rfl
    · exact .inl fun w'=>run_underlying h w'
    · exact .inr hund
  by_cases hroom : n + k ≤ cap
  · rcases q4d hs2 with ⟨rfl,rfl,rfl⟩ | ⟨b,junk,fz,rfl,hb,hl,hf,hone,hs3⟩
    · have hn0 : n = 0:=by omega
      have hk0 : k = 0:=by omega
      subst hn0 hk0;have hy0 : ys = []:=List.eq_nil_of_length_eq_zero (by simpa using hys);subst hy0;refine fin (.slice none 0 0) w none 0 rfl (Nat.le_refl _) (fun _=>rfl) hs2 ?_
      rcases hundts with hz | hz <;> simp [Builtin.append_,hund,hsz,hz,src1.1,src1.2]
    · have hst:=q0w (P:=P) hf ys (n * y.size) 0 (xs ++ junk) w hb (by simpa using hl) (by rw [hys,Nat.add_zero,← Nat.add_mul];exact Nat.mul_le_mul_right _ hroom) h1;have e1 : (xs ++ junk).take (n * y.size + 0) = xs:=by rw [Nat.add_zero,← hxs,List.take_left]
      have e2 : (xs ++ junk).drop (n * y.size + 0 + ys.length) = junk.drop ys.length:=by rw [Nat.add_zero,← hxs,← List.drop_drop,List.drop_left]
      rw [e1,e2] at hst;have hw:=q2y (cs':=(xs ++ (ys ++ junk.drop ys.length)).toArray) hb
      have hjl : ys.length ≤ junk.length:=by
        rw [hys];have:=Nat.mul_le_mul_right y.size hroom;rw [Nat.add_mul] at this;omega
      refine fin (.slice (some ⟨b,0,none⟩) (n + k) cap) _ (some ⟨b,0,none⟩) cap rfl hroom (fun h=>by cases h) (q0x (fun g hg=>.inr ⟨b,junk.drop ys.length,fz,rfl,by rw [List.append_assoc];exact hg,?_,hf,?_⟩) (q36 hs3 hw.1 hw.2)) ?_
      · simp;omega
      · intro v hv;simp only [List.mem_append] at hv hone
        rcases hv with (hv | hv) | hv
        · exact hone v (.inl hv)
        · exact h1 v hv
        · exact hone v (.inr (List.mem_of_mem_drop hv))
      · rcases hundts with hz | hz <;> simp [Builtin.append_,hund,hsz,hz,src1.1,src1.2,hroom,q0l,hst]
  · have hgrow:=growslice_fits_wide (need:=n + k) (old:=cap) (bytes:=y.bytes) (by omega) hbig
    have hneed : ¬ ((n + k : Nat) : Int) > IntKind.i64.max:=by
      simp only [IntKind.max,IntKind.signed,IntKind.bits];simp;omega
    have hq : (Question.appendCap (n + k) cap e).forced = false:=rfl
    let nc:=(Question.appendCap (n + k) cap e).cut (w.tape w.drawn (.appendCap (n + k) cap e))
    have hnc : n + k ≤ nc:=by simp only [nc,Question.cut];omega
    refine fin (.slice (some ⟨w.heap.size,0,none⟩) (n + k) nc) (w.drew.alloc (.cells (xs.toArray ++ ys.toArray ++ Builtin.zeroCells z.cells (nc - (n + k))) e)) (some ⟨w.heap.size,0,none⟩) nc rfl hnc (fun h=>by cases h) ?_ ?_
    · have s4 : sat (H.map (Chunk.p B) ++ F') w.drew:=q3u (qc6 hs2) rfl
      have s5:=q3d (o:=.cells (xs.toArray ++ ys.toArray ++ Builtin.zeroCells z.cells (nc - (n + k))) e) (w':=w.drew.alloc (.cells (xs.toArray ++ ys.toArray ++ Builtin.zeroCells z.cells (nc - (n + k))) e)) s4
        (heap_alloc_new _ _) (fun c hc=>heap_alloc_old _ _ _ hc)
      refine q0x (fun g hg=>.inr ⟨w.heap.size,(Builtin.zeroCells z.cells (nc - (n + k))).toList,(0,0),rfl,?_,?_,fun i _ h=>by omega,?_⟩) s5
      · rw [show ((xs ++ ys ++ (Builtin.zeroCells z.cells (nc - (n + k))).toList).toArray) = xs.toArray ++ ys.toArray ++ Builtin.zeroCells z.cells (nc - (n + k)) by simp];exact hg
      · rw [List.length_append,hxs,hys,Array.length_toList,q2u,hzs,← Nat.add_mul,← Nat.add_mul];congr 1;omega
      · intro v hv;simp only [List.mem_append] at hv
        rcases hv with (hv | hv) | hv
        · rcases q4d hs2 with ⟨_,_,rfl⟩ | ⟨b,junk,fz,_,_,_,_,hone,_⟩
          · simp at hv
          · exact hone v (by simp [hv])
        · exact h1 v hv
        · exact q37 hz1 _ v hv
    · have hold:=old w.drew rfl;have hb0 : ¬ y.bytes = 0:=by omega
      have hc1 : ¬ (9223372036854775807 < (n : Int) + (k : Int) ∧ y.bytes = 0):=by omega
      have hc2 : ¬ 281474976710656 < Builtin.nextslicecap (n + k) cap * y.bytes:=by omega
      rcases hundts with hz | hz <;> simp [Builtin.append_,hund,hsz,hz,src1.1,hroom,hty,heb] <;> rw [if_neg hc1,if_neg hc2] <;>
        simp [hq,hold,src2.2,hzero,newRow,nc] <;> rw [← Array.append_assoc] <;> simp
end Go.Sx
namespace Go.Sx
def okL (B : Names) : List Seg → Prop
  | []=>True
  | s :: r=>s.ok B ∧ okL B r
theorem q04 {B : Names} : ∀ {l : List Seg},okL B l → ∀ s ∈ l,s.ok B
  | [],_=>by simp
  | s :: r,h=>by
    intro s' hs
    rcases List.mem_cons.1 hs with rfl | hs
    · exact h.1
    · exact q04 h.2 s' hs
def okH (B : Names) : List Chunk → Prop
  | []=>True
  | c :: r=>(has B c.1 ∧ okL B c.2.1) ∧ okH B r
theorem q52 {B : Names} : ∀ {l : List Chunk},okH B l → ∀ c ∈ l,Chunk.ok B c
  | [],_=>by simp
  | s :: r,h=>by
    intro s' hs
    rcases List.mem_cons.1 hs with rfl | hs
    · exact ⟨h.1.1,q04 h.1.2⟩
    · exact q52 h.2 s' hs
def okC : List Cel → Prop
  | []=>True
  | c :: r=>okL [] c.2.1 ∧ okC r
theorem qgl : ∀ {l : List Cel},okC l → ∀ c ∈ l,∀ s ∈ c.2.1,s.ok []
  | [],_=>by simp
  | s :: r,h=>by
    intro s' hs
    rcases List.mem_cons.1 hs with rfl | hs
    · exact q04 h.1
    · exact qgl h.2 s' hs
def okT (B : Names) : List SA → Prop
  | []=>True
  | .c x :: r=>x.ok B ∧ okT B r
  | .agg l :: r=>okL B l ∧ okT B r
def okV (B : Names) : SV → Prop
  | .c x=>x.ok B
  | .agg l=>okL B l
  | .tup l=>okT B l
theorem qbh {B : Names} : ∀ {l : List SA},okT B l → ∀ x ∈ l,x.ok B
  | [],_=>by simp
  | .c s :: r,h=>by
    intro s' hs
    rcases List.mem_cons.1 hs with rfl | hs
    · exact h.1
    · exact qbh h.2 s' hs
  | .agg s :: r,h=>by
    intro s' hs
    rcases List.mem_cons.1 hs with rfl | hs
    · exact q04 h.1
    · exact qbh h.2 s' hs
theorem qgn {B : Names} : ∀ {x : SV},okV B x → x.ok B
  | .c _,h=>h
  | .agg _,h=>q04 h
  | .tup _,h=>qbh h
def okA (B : Names) : List SV → Prop
  | []=>True
  | x :: r=>okV B x ∧ okA B r
theorem qaz {B : Names} : ∀ {l : List SV},okA B l → ∀ x ∈ l,x.ok B
  | [],_=>by simp
  | s :: r,h=>by
    intro s' hs
    rcases List.mem_cons.1 hs with rfl | hs
    · exact qgn h.1
    · exact qaz h.2 s' hs
def Parts (cs fi : List Nat) (B : Names) (H : List Chunk) (F : List HP) (L : List HP) (R : List HP) : Prop :=
  pickH cs H H fun ch _=>pickF fi F fun l _=>ch.map (Chunk.p B) = L ∧ l = R
theorem Parts.sat {cs fi : List Nat} {B : Names} {H : List Chunk} {F L R : List HP} (h : Parts cs fi B H F L R) {w : World} (s : sat (M.props ⟨B,H,F⟩) w) : sat (L ++ R) w:=by
  obtain ⟨ch,rH,h1,pH⟩:=q1i h;obtain ⟨l,rF,⟨e1,e2⟩,pF⟩:=q1j h1;subst e1 e2;have s2 : Sx.sat ((ch ++ rH).map (Chunk.p B) ++ (l ++ rF)) w:=q07 ((pH.map _).append pF) s
  have p3 : ((ch ++ rH).map (Chunk.p B) ++ (l ++ rF)).Perm ((ch.map (Chunk.p B) ++ l) ++ (rH.map (Chunk.p B) ++ rF)):=by
    rw [List.map_append];simp only [List.append_assoc];refine List.Perm.append_left _ ?_;exact List.perm_append_comm_assoc _ _ _
  obtain ⟨g,k,d,hg,hk,h1,h2⟩:=q0o.1 (q07 p3 s2);exact q2z hg h1
theorem Ret.m {B : Names} {H : List Chunk} {F : List HP} {v : SV} {τ : Type} {p : τ → Prop} {val : τ → SV} {qc' : τ → List Cel} {post : τ → List HP} {A : HP} (t : τ) (cs fi : List Nat) (hp : p t) (hv : v.den B = (val t).den [])
    (kv : okV [] (val t)) (kq : okC (qc' t)) (h : Parts cs fi B H F ((qc' t).map Cel.p) (post t ++ [A])) : Ret B H F v p val qc' post A :=
  ⟨⟨t,hp,hv,qgn kv,qgl kq,fun _ hs=>h.sat hs⟩⟩
def EnvW (env : Env) (B B' : Names) : Env → Prop
  | []=>True
  | (t,y) :: r=>(look env t (fun x=>x.den B = y.den B') ∧ y.ok B') ∧ EnvW env B B' r
theorem EnvW.spec {env : Env} {B B' : Names} : ∀ {env' : Env},EnvW env B B' env' → ∀ t y,look env' t (· = y) → y.ok B' ∧ ∃ x,look env t (· = x) ∧ x.den B = y.den B'
  | [],_,_,_,h=>h.elim
  | (k,z) :: r,h,t,y,hy=>by
    simp only [look] at hy
    cases e : Nat.beq k t with
    | true =>
      rw [e] at hy;have hy : z = y:=hy;subst hy;have:=Nat.eq_of_beq_eq_true e;subst this;obtain ⟨x,hx,e'⟩:=q4w h.1.1;exact ⟨h.1.2,x,hx,e'⟩
    | false=>rw [e] at hy;exact EnvW.spec h.2 t y hy
theorem Wk.m {env env' : Env} {B B' : Names} {H H' : List Chunk} {F F' : List HP} (cs fi : List Nat) (he : EnvW env B B' env') (kH : okH B' H') (h : Parts cs fi B H F (H'.map (Chunk.p B')) F') (hb : dsOf B' = dsOf B:=by first | rfl | assumption) : Wk env ⟨B,H,F⟩ env' ⟨B',H',F'⟩ :=
  ⟨hb,fun _ _ hs _=>⟨q52 kH,h.sat hs,he.spec⟩⟩
theorem LoopOb.m {body : Env → M → (Ex → Env → M → Prop) → Prop} {env : Env} {m : M} {f : Ex → Env → M → Prop} {σ : Type} (E : σ → Env) (G : σ → M) (p : σ → Prop) (μ : σ → Nat) (s : σ) (hp : p s) (hw : Wk env m (E s) (G s))
    (round : ∀ s,p s → body (E s) (G s) fun e env' m'=>match e with
      | .normal=>∃ s',p s' ∧ μ s' < μ s ∧ Wk env' m' (E s') (G s')
      | e=>f e env' m') : LoopOb body env m f:=⟨⟨σ,E,G,p,μ,s,hp,hw,round⟩⟩
theorem Con.of' {P : Program} {tt : TT} (ok : tt.ok P) {f : Nat} {args : List SV} {qc : List Cel} {pre : List HP} {A : HP} {τ : Type} {p : τ → Prop} {val : τ → SV} {qc' : τ → List Cel} {post : τ → List HP}
    {fd : Func} {c : Code} (hf : P.funcs[f]? = some fd) (hb : fd.body = some c) (hn : (fd.name == "runtime.NumGoroutine") = false) (args0 : List SV) (B : Names) (H : List Chunk)
    (hargs : args.map (SV.den []) = args0.map (SV.den B)) (hH : H.map (Chunk.p B) = qc.map Cel.p) (kH : okH B H) (kargs : okA B args0)
    (hN : Nat.ble args0.length fd.ntmps = true)
    (h : exec P tt fd.ntmps c (env0 0 args0) ⟨B,H,pre ++ [A]⟩ (retK P tt fd.results.toList fun m v=>Ret m.B m.H m.F v p val qc' post A)) (hB : dsOf B = []:=by rfl) :
    Con P f args qc pre A p val qc' post :=
  Con.of ok hf hb hn args0 B H hargs hH (q52 kH) (qaz kargs) (Nat.le_of_ble_eq_true hN) hB h
theorem Con.ofM' {P : Program} {tt : TT} (ok : tt.ok P) {f : Nat} {args : List SV} {qc : List Cel} {pre : List HP} {A : HP} {τ : Type} {p : τ → Prop} {val : τ → SV} {qc' : τ → List Cel} {post : τ → List HP}
    {fd : Func} {c : Code} (hf : P.funcs[f]? = some fd) (hb : fd.body = some c) (hn : (fd.name == "runtime.NumGoroutine") = false) (args0 : List SV) (B : Names) (H : List Chunk)
    (hargs : args.map (SV.den []) = args0.map (SV.den B)) (hH : H.map (Chunk.p B) = qc.map Cel.p) (kH : okH B H) (kargs : okA B args0)
    (hN : Nat.ble args0.length fd.ntmps = true)
    (h : exec P tt fd.ntmps c (env0 0 args0) ⟨B,H,pre ++ [A]⟩ (retM P tt fd.results.toList fun m v=>Ret m.B m.H m.F v p val qc' post A)) (hB : dsOf B = []:=by rfl) :
    Con P f args qc pre A p val qc' post :=
  Con.ofM ok hf hb hn args0 B H hargs hH (q52 kH) (qaz kargs) (Nat.le_of_ble_eq_true hN) hB h
end Go.Sx
namespace Go.Sx
def u8 (c : UInt8) : Value:=.int .u8 (c.toNat : Int)
def u8s (l : List UInt8) : List Value:=l.map u8
theorem q0s (l : List UInt8) : ∀ v ∈ u8s l,v.oneCell' = true:=by
  intro v hv;obtain ⟨c,_,rfl⟩:=List.mem_map.1 hv;rfl
@[simp] theorem u8l (l : List UInt8) : (u8s l).length = l.length:=by simp [u8s]
theorem q6w {l : List UInt8} {k : Nat} (h : k < l.length) : (u8s l)[k]? = some (.int .u8 (l[k].toNat : Int)):=by simp [u8s,h,u8]
theorem u8_lt (c : UInt8) : (0 : Int) ≤ c.toNat ∧ (c.toNat : Int) < 256:=by have:=c.toNat_lt;omega
def big (l : List UInt8) : Int:=l.foldl (fun n c=>n * 256 + (c.toNat : Int)) 0
theorem qg5 (l : List UInt8) (c : UInt8) : big (l ++ [c]) = big l * 256 + (c.toNat : Int):=by
  unfold big;rw [List.foldl_append];rfl
theorem qm6 (l : List UInt8) (k : Nat) (h : k < l.length) : big (l.take (k + 1)) = big (l.take k) * 256 + (l[k].toNat : Int):=by
  rw [List.take_succ_eq_append_getElem h,qg5]
theorem qi0 (l : List UInt8) : 0 ≤ big l ∧ big l < 256 ^ l.length:=by
  have h : ∀ n,∀ l : List UInt8,l.length = n → 0 ≤ big l ∧ big l < 256 ^ n:=by
    intro n
    induction n with
    | zero=>intro l hl;rw [List.eq_nil_of_length_eq_zero hl];simp [big]
    | succ n ih =>
      intro l hl;have hne : l ≠ []:=fun e=>by rw [e] at hl;simp at hl
      have e:=List.dropLast_concat_getLast hne;rw [← e,qg5];have:=ih l.dropLast (by simp [hl]);have hc:=u8_lt (l.getLast hne);rw [Int.pow_succ];omega
  exact h _ l rfl
theorem qqf (l : List UInt8) (n : Nat) (h : l.length ≤ n) : 0 ≤ big l ∧ big l < 256 ^ n:=by
  have:=qi0 l;refine ⟨this.1,Int.lt_of_lt_of_le this.2 ?_⟩;have h2:=Nat.pow_le_pow_right (show 0 < 256 by omega) h;have h3:=Int.ofNat_le.2 h2;rw [Int.natCast_pow,Int.natCast_pow] at h3;exact h3
theorem q6c (k : Nat) (n : Nat) : (BitVec.ofInt k (n : Int)).toNat = n % 2 ^ k:=by simp
theorem or_byte {n c : Int} (h0 : 0 ≤ n) (h1 : n * 256 < 4611686018427387904) (h2 : 0 ≤ c) (h3 : c < 256) : ibits .or .i64 (n * 256) c = n * 256 + c:=by
  obtain ⟨n,rfl⟩:=Int.eq_ofNat_of_zero_le h0;obtain ⟨c,rfl⟩:=Int.eq_ofNat_of_zero_le h2;have hn : (n : Int) * 256 = ((n * 256 : Nat) : Int):=by omega
  simp only [ibits];rw [hn,BitVec.toNat_or,q6c,q6c,Nat.mod_eq_of_lt (by simp [IntKind.bits];omega),Nat.mod_eq_of_lt (by simp [IntKind.bits];omega)];have h:=Nat.two_pow_add_eq_or_of_lt (i:=8) (b:=c) (by omega) n;rw [Nat.mul_comm n 256];have h' : 256 * n ||| c = 256 * n + c:=h.symm
  rw [h',IntWalk.i64_in _ (by omega)];omega
theorem qci {n c : Int} (h0 : 0 ≤ n) (h1 : n * 256 < 18446744073709551616) (h2 : 0 ≤ c) (h3 : c < 256) : ibits .or .u64 (n * 256) c = n * 256 + c:=by
  obtain ⟨n,rfl⟩:=Int.eq_ofNat_of_zero_le h0;obtain ⟨c,rfl⟩:=Int.eq_ofNat_of_zero_le h2;have hn : (n : Int) * 256 = ((n * 256 : Nat) : Int):=by omega
  simp only [ibits];rw [hn,BitVec.toNat_or,q6c,q6c,Nat.mod_eq_of_lt (by simp [IntKind.bits];omega),Nat.mod_eq_of_lt (by simp [IntKind.bits];omega)];have h:=Nat.two_pow_add_eq_or_of_lt (i:=8) (b:=c) (by omega) n;rw [Nat.mul_comm n 256];have h' : 256 * n ||| c = 256 * n + c:=h.symm
  rw [h']
  simp [IntKind.wrap,IntKind.bits,IntKind.signed]
  omega
theorem Ar.to {k : IntKind} {z : Int} {f : Int → Prop} (z' : Int) (e : z = z') (h : Ar k z' f) : Ar k z f:=e ▸ h
theorem qd4 (n : Int) (h : 0 ≤ n ∧ n < 18446744073709551616) : IntKind.u64.wrap n = n:=by
  simp [IntKind.wrap,IntKind.bits,IntKind.signed];omega
theorem Ar.u8 {z : Int} {f : Int → Prop} (h : 0 ≤ z ∧ z ≤ 255) (k : f z) : Ar .u8 z f:=⟨by rw [IntWalk.u8_in z h];exact k⟩
theorem Ar.u16 {z : Int} {f : Int → Prop} (h : 0 ≤ z ∧ z ≤ 65535) (k : f z) : Ar .u16 z f:=⟨by rw [IntWalk.u16_in z h];exact k⟩
theorem Ar.u32 {z : Int} {f : Int → Prop} (h : 0 ≤ z ∧ z ≤ 4294967295) (k : f z) : Ar .u32 z f:=⟨by rw [IntWalk.u32_in z h];exact k⟩
theorem Ar.u64 {z : Int} {f : Int → Prop} (h : 0 ≤ z ∧ z < 18446744073709551616) (k : f z) : Ar .u64 z f:=⟨by rw [qd4 z h];exact k⟩
end Go.Sx
namespace Go.Sx
section
variable {ro : Option Nat} {P : Program} {ops : Array Oper} {C : World → Prop} {Q : Act → World → Prop} {z : Nat}
def QN (Q : Act → World → Prop) : Exit → Act → World → Prop
  | .normal,a,w=>Q a w
  | _,_,_=>False
def Cz (C : World → Prop) (z : Nat) (listed : Array Bool) (w : World) : Prop:=listed.getD z false = false → C w
def anyC (ro : Option Nat) (P : Program) (ops : Array Oper) (C : World → Prop) (z : Nat) (Q : Act → World → Prop) : Nat → Array Bool → Act → World → Prop
  | 0,listed,a,w=>Cz C z listed w ∧ Region.ready .any ops listed = [] ∧ Q a w
  | n + 1,listed,a,w=>Cz C z listed w ∧ (Region.ready .any ops listed = [] → Q a w) ∧ ∀ i ∈ Region.ready .any ops listed,wpOpIn (Wf ro) 0 P ops (QN Q) i (anyC ro P ops C z Q n (listed.setIfInBounds i true)) a w
theorem q7v : ∀ (n : Nat) (listed : Array Bool) (a : Act) (w : World),anyC ro P ops C z Q n listed a w → wpAnyIn (Wf ro) 0 P .any ops (QN Q) n listed a w
  | 0,_,_,_,h=>⟨h.2.1,h.2.2⟩
  | n + 1,_,_,_,h=>⟨h.2.1,fun i hi=>wpOpIn_mono (q7v n _) (h.2.2 i hi)⟩
theorem qnk {n : Nat} {listed : Array Bool} {a : Act} {w : World} (h : anyC ro P ops C z Q n listed a w) : Cz C z listed w:=by
  cases n with
  | zero=>exact h.1
  | succ n=>exact h.1
def YieldsS (P : Program) (ops : Array Oper) (C : World → Prop) (o : Oper) (v : Value) (a : Act) : Prop :=
  (Region.wanted o (yielded ops a.tmps) = true ∧ ∀ w,C w → (Go.execOp a.eval o).run P w = .ok (.value v) w) ∨ (Region.wanted o (yielded ops a.tmps) = false ∧ v = undef)
theorem YieldsS.same {o : Oper} {v : Value} {a a' : Act} (hy : YieldsS P ops C o v a) (he : Go.execOp a'.eval o = Go.execOp a.eval o)
    (hw : Region.wanted o (yielded ops a'.tmps) = Region.wanted o (yielded ops a.tmps)) : YieldsS P ops C o v a':=by
  unfold YieldsS at *;rw [he,hw];exact hy
theorem qki {a : Act} {o : Oper} {v : Value} {w w' : World} (h : (Go.execOp a.eval o).run P w = .ok (.value v) w') : ∀ c,o.op ≠ .defer c:=by
  intro c e;simp only [Go.execOp,e,Sem.run_bind] at h
  cases hr : (resolve a.eval c o.type).run P w with
  | ok d w''=>rw [hr] at h;simp at h
  | halt x w''=>rw [hr] at h;simp at h
theorem YieldsS.wpOp {i : Nat} {o : Oper} {v : Value} {a : Act} {w : World} {Q' : Exit → Act → World → Prop} {K : Act → World → Prop} (hi : ops[i]? = some o) (hy : YieldsS P ops C o v a) (hC : C w) (h : K (a.put o.dst v) w) : wpOpIn (Wf ro) 0 P ops Q' i K a w:=by
  unfold wpOpIn;simp only [hi]
  rcases hy with ⟨hw,hv⟩ | ⟨hw,rfl⟩
  · simp only [hw,if_true];refine q97 (qki (hv w hC)) ?_;rw [hv w hC];exact h
  · simp only [hw,Bool.false_eq_true,if_false];exact ⟨fun _ _=>trivial,h⟩
theorem qho (o : Oper) (hs : ∀ cs b,o.op ≠ .select cs b) (a : Act) (dst : Option Tmp) (v : Value) (h : ∀ d,dst = some d → d ∉ o.looksAt ops) : o.semAt ro (a.put dst v).eval = o.semAt ro a.eval:=by
  unfold Oper.semAt
  cases ro with
  | none=>exact execOp_put o hs a dst v h
  | some l =>
    cases ho : o.op <;> first | exact execOp_put o hs a dst v h | skip
    rename_i c
    dsimp only
    have e : resolve (a.put dst v).eval c o.type = resolve a.eval c o.type:=resolve_congr c o.type fun x hx=>Act.eval_put fun d hd hxd=>h d hd (by
      subst hxd;exact List.mem_append_left _ (List.mem_filterMap.2 ⟨.tmp d,by simpa [ho,Op.operands] using hx,rfl⟩))
    rw [e]
theorem q99 {j : Nat} {oi oj : Oper} {v : Value} (hj : ops[j]? = some oj) (hap : oi.apart ops oj = true)
    (hsi : ∀ cs b,oi.op ≠ .select cs b) (hsj : ∀ cs b,oj.op ≠ .select cs b) {K : Act → World → Prop} {a : Act} {w : World}
    (hy : YieldsS P ops C oi v a) (h : wpOpIn (Wf ro) 0 P ops (QN Q) j K (a.put oi.dst v) w) :
    wpOpIn (Wf ro) 0 P ops (QN Q) j (fun a' w'=>YieldsS P ops C oi v a' ∧ K (a'.put oi.dst v) w') a w:=by
  obtain ⟨h1,h2,h3⟩:=Oper.apart_spec hap
  have keep : ∀ (a1 : Act),a1.tmps = a.tmps → ∀ u,YieldsS P ops C oi v (a1.put oj.dst u):=fun a1 e u=>by
    have e1 : YieldsS P ops C oi v a1:=hy.same (by
      have : a1.eval = a.eval:=by funext x;cases x <;> simp [Act.eval,e]
      rw [this]) (by rw [e])
    exact e1.same (execOp_put oi hsi a1 oj.dst u h3) (wanted_put oi a1 oj.dst u h3)
  unfold wpOpIn at *;simp only [hj] at *;rw [wanted_put oj a oi.dst v h1] at h
  split
  · rename_i hw
    rw [if_pos hw] at h;refine ⟨fun _ _=>trivial,?_⟩;have h:=h.2;rw [qho oj hsj a oi.dst v h1] at h;generalize (oj.semAt (Wf ro).round a.eval).run P w = r at h;have comm : ∀ u,((a.put oi.dst v).put oj.dst u) = (a.put oj.dst u).put oi.dst v:=fun u=>Act.put_comm a v u h2
    cases r with
    | ok n w' =>
      cases n <;> simp only [Oper.uponIn] at h ⊢ <;> first | exact h.elim | skip
      case value u=>exact ⟨keep a rfl u,by rw [← comm];exact h⟩
      case skip=>exact ⟨keep a rfl undef,by rw [← comm];exact h⟩
      case defer d =>
        refine ⟨keep { a with defers:=d :: a.defers } rfl undef,?_⟩;rw [← Act.put_comm _ v undef h2]
        have e : ({ a with defers:=d :: a.defers } : Act).put oi.dst v = { (a.put oi.dst v) with defers:=d :: (a.put oi.dst v).defers }:=by cases oi.dst <;> rfl
        rw [e];exact h
      case enter f args =>
        refine ⟨h.1,CallsIn.mono h.2 fun e w'' y=>?_⟩
        cases e with
        | returned u=>exact ⟨keep a rfl u,by rw [← comm];exact y⟩
        | panicked c=>exact y
        | outgrown=>exact y
      case row row args=>exact ⟨h.1,RowsIn.mono h.2 fun u w'' y=>⟨keep a rfl u,by rw [← comm];exact y⟩⟩
      case round l f tmps x y =>
        refine ⟨h.1,RoundIn.mono h.2 fun e w'' y=>?_⟩
        cases e with
        | returned u=>exact ⟨keep a rfl u,by rw [← comm];exact y⟩
        | panicked c=>exact y
        | outgrown=>exact y
    | halt hh w'=>cases hh <;> exact h.elim
  · rename_i hw
    rw [if_neg hw] at h;exact ⟨fun _ _=>trivial,keep a rfl undef,by rw [← Act.put_comm a v undef h2];exact h.2⟩
inductive Reach (ops : Array Oper) : Nat → Nat → Prop where
  | step {j i : Nat} {oj : Oper} {e : Edge} : ops[j]? = some oj → e ∈ oj.after → Region.binds .any e = true → e.on = i → Reach ops j i
  | far {j k i : Nat} : Reach ops j k → Reach ops k i → Reach ops j i
def qf6 (ops : Array Oper) (z : Nat) : Prop:=∀ oz,ops[z]? = some oz → ∀ i,i < ops.size → i ≠ z → Reach ops z i
def Closed (ops : Array Oper) (listed : Array Bool) : Prop:=∀ j oj,ops[j]? = some oj → listed.getD j false = true → ∀ e ∈ oj.after,Region.binds .any e = true → listed.getD e.on false = true
theorem Closed.reach {listed : Array Bool} (h : Closed ops listed) {j i : Nat} (r : Reach ops j i) : listed.getD j false = true → listed.getD i false = true:=by
  induction r with
  | step hj he hb ho=>exact fun hl=>ho ▸ h _ _ hj hl _ he hb
  | far _ _ ih1 ih2=>exact fun hl=>ih2 (ih1 hl)
theorem Reach.inv {j i : Nat} (r : Reach ops j i) : ∃ oj,ops[j]? = some oj ∧ ∃ e ∈ oj.after,Region.binds .any e = true ∧ (e.on = i ∨ Reach ops e.on i):=by
  induction r with
  | step hj he hb ho=>exact ⟨_,hj,_,he,hb,.inl ho⟩
  | far _ h2 ih1 _ =>
    obtain ⟨oj,hj,e,he,hb,h⟩:=ih1;refine ⟨oj,hj,e,he,hb,.inr ?_⟩
    rcases h with rfl | h
    · exact h2
    · exact .far h h2
theorem Closed.set {listed : Array Bool} {j : Nat} (h : Closed ops listed) (hj : j ∈ Region.ready .any ops listed) : Closed ops (listed.setIfInBounds j true):=by
  intro k ok hk hl e he hb
  apply getD_set_true
  by_cases hjk : j = k
  · subst hjk;obtain ⟨_,o,ho,hall⟩:=mem_ready.1 hj;rw [hk] at ho;cases ho;exact hall e he hb
  · rw [getD_set_ne false hjk] at hl;exact h k ok hk hl e he hb
theorem Closed.zero {n : Nat} : Closed ops (Array.replicate n false):=by
  intro j oj hj hl
  by_cases hn : j < n <;> simp [hn] at hl
theorem qa4 {i : Nat} {oi : Oper} {v : Value} (hse : qf6 ops z) (hiz : i ≠ z) (hi : ops[i]? = some oi) (hsel : ∀ (j : Nat) (o : Oper) cs b,ops[j]? = some o → o.op ≠ .select cs b) :
    ∀ (n : Nat) (listed : Array Bool) (a : Act) (w : World),
      (∀ j oj,ops[j]? = some oj → j ≠ i → listed.getD j true = false → (∀ e ∈ oj.after,Region.binds .any e = true → e.on ≠ i) → oi.apart ops oj = true) →
      Closed ops listed → i ∈ Region.ready .any ops listed → YieldsS P ops C oi v a → C w → listed.getD z false = false →
      anyC ro P ops C z Q n (listed.setIfInBounds i true) (a.put oi.dst v) w → anyC ro P ops C z Q (n + 1) listed a w:=by
  intro n
  induction n with
  | zero =>
    intro listed a w _ _ hr hy hC hz H;refine ⟨fun _=>hC,fun h=>(by rw [h] at hr;cases hr),fun j hj=>?_⟩
    by_cases hji : j = i
    · subst hji;exact hy.wpOp hi hC H
    · have:=ready_mono hj hji;rw [H.2.1] at this;cases this
  | succ n ih =>
    intro listed a w hfree hcl hr hy hC hz H;refine ⟨fun _=>hC,fun h=>(by rw [h] at hr;cases hr),fun j hj=>?_⟩
    by_cases hji : j = i
    · subst hji;exact hy.wpOp hi hC H
    · have h1:=H.2.2 j (ready_mono hj hji);obtain ⟨hjun,oj,hoj,hall⟩:=mem_ready.1 hj
      have hnot : ∀ e ∈ oj.after,Region.binds .any e = true → e.on ≠ i:=fun e he hb heq=>by
        have h1:=hall e he hb;have h0:=(mem_ready.1 hr).1;rw [heq] at h1
        rcases Nat.lt_or_ge i listed.size with h' | h'
        · simp [h'] at h0 h1;rw [h0] at h1;cases h1
        · simp [Array.getElem?_eq_none h'] at h1
      have hjz : j ≠ z:=fun e=>by
        subst e;obtain ⟨oj',hj',e,he,hb,ho⟩:=(hse oj hoj i (Array.getElem?_eq_some_iff.1 hi).1 hiz).inv;rw [hoj] at hj';cases hj'
        rcases ho with ho | ho
        · exact hnot e he hb ho
        · have h1:=hcl.reach ho (hall e he hb);have h0:=(mem_ready.1 hr).1
          rcases Nat.lt_or_ge i listed.size with h' | h'
          · simp [h'] at h0 h1;rw [h0] at h1;cases h1
          · simp [Array.getElem?_eq_none h'] at h1
      have hz' : (listed.setIfInBounds j true).getD z false = false:=by rw [getD_set_ne false hjz];exact hz
      have hz2 : ((listed.setIfInBounds j true).setIfInBounds i true).getD z false = false:=by rw [getD_set_ne false hiz];exact hz'
      have h2:=q99 hoj (hfree j oj hoj hji hjun hnot) (fun cs b=>hsel i oi cs b hi) (fun cs b=>hsel j oj cs b hoj) hy h1
      have hfree' : ∀ k ok,ops[k]? = some ok → k ≠ i → (listed.setIfInBounds j true).getD k true = false →
          (∀ e ∈ ok.after,Region.binds .any e = true → e.on ≠ i) → oi.apart ops ok = true:=fun k ok hk hki hun hno=>by
        refine hfree k ok hk hki ?_ hno
        by_cases hjk : j = k
        · subst hjk;exact hjun
        · rw [getD_set_ne true hjk] at hun;exact hun
      refine wpOpIn_mono (fun a' w' h3=>?_) h2;rw [Array.setIfInBounds_comm _ _ (Ne.symm hji)] at h3;exact ih (listed.setIfInBounds j true) a' w' hfree' (hcl.set hj) (ready_mono hr (Ne.symm hji)) h3.1 (qnk h3.2 hz2) hz' h3.2
def q4c (ops : Array Oper) (z : Nat) (q : Oper → Bool) : List Nat → Array Bool → Bool
  | [],listed=>(Region.ready .any ops listed).isEmpty && (Nat.ble ops.size z || listed.getD z false)
  | i :: r,listed=>(match ops[i]? with
      | none=>false
      | some o=>if q o then !listed.getD z false && !(Nat.beq i z) && (Region.ready .any ops listed).contains i && Region.free .any ops listed i else Region.ready .any ops listed == [i]) &&
    q4c ops z q r (listed.setIfInBounds i true)
def qdf (ro : Option Nat) (P : Program) (ops : Array Oper) (C : World → Prop) (z : Nat) (Q : Act → World → Prop) (q : Oper → Bool) : List Nat → Act → World → Prop
  | [],a,w=>(Nat.ble ops.size z = true → C w) ∧ Q a w
  | i :: r,a,w=>C w ∧ ∃ o,ops[i]? = some o ∧ if q o then ∃ v,YieldsS P ops C o v a ∧ qdf ro P ops C z Q q r (a.put o.dst v) w else wpOpIn (Wf ro) 0 P ops (QN Q) i (qdf ro P ops C z Q q r) a w
def marks (es : List Edge) (m : Nat) : Nat:=es.foldl (fun m e=>if Region.binds .any e then m ||| 1 <<< e.on else m) m
def sweep (ops : Array Oper) : Nat → Nat → Nat
  | 0,m=>m
  | j + 1,m=>sweep ops j (match Nat.beq (m >>> j % 2) 1,ops[j]? with
    | true,some o=>marks o.after.toList m
    | _,_=>m)
def q5o (ops : Array Oper) (z : Nat) : Bool:=match ops[z]? with
  | none=>true
  | some _=>Nat.beq (sweep ops ops.size (1 <<< z)) (2 ^ ops.size - 1)
theorem qmn {m j : Nat} : (m >>> j % 2 = 1) ↔ m.testBit j = true:=by
  rw [Nat.testBit_eq_decide_div_mod_eq,Nat.shiftRight_eq_div_pow];simp
theorem qa5 {z j : Nat} {oj : Oper} (hj : ops[j]? = some oj) (hr : j = z ∨ Reach ops z j) : ∀ (es : List Edge) (m : Nat),(∀ e ∈ es,e ∈ oj.after) → (∀ i,m.testBit i = true → i = z ∨ Reach ops z i) → ∀ i,(marks es m).testBit i = true → i = z ∨ Reach ops z i
  | [],_,_,h,i,hi=>h i hi
  | e :: es,m,hs,h,i,hi=>by
    refine qa5 hj hr es _ (fun e' he=>hs e' (by simp [he])) ?_ i hi;intro k hk;dsimp only at hk
    split at hk
    · rename_i hb
      rw [Nat.testBit_or,Nat.shiftLeft_eq,Nat.one_mul,Nat.testBit_two_pow] at hk
      rcases Bool.or_eq_true_iff.1 hk with hk | hk
      · exact h k hk
      · have hk:=of_decide_eq_true hk;have r : Reach ops j k:=.step hj (hs e (by simp)) hb hk
        rcases hr with rfl | hr
        · exact .inr r
        · exact .inr (.far hr r)
    · exact h k hk
theorem q70 {z : Nat} : ∀ (j m : Nat),(∀ i,m.testBit i = true → i = z ∨ Reach ops z i) → ∀ i,(sweep ops j m).testBit i = true → i = z ∨ Reach ops z i
  | 0,_,h,i,hi=>h i hi
  | j + 1,m,h,i,hi=>by
    refine q70 j _ ?_ i hi;intro k hk
    split at hk
    · rename_i hb ho
      exact qa5 ho (h j (qmn.1 (Nat.eq_of_beq_eq_true hb))) _ m (fun e he=>by simpa using he) h k hk
    · exact h k hk
theorem qia (h : q5o ops z = true) : qf6 ops z:=by
  intro oz ho i hi hiz;simp only [q5o,ho] at h;have h:=Nat.eq_of_beq_eq_true h;have:=q70 (ops:=ops) (z:=z) ops.size (1 <<< z) (fun i hi=>by rw [Nat.shiftLeft_eq,Nat.one_mul,Nat.testBit_two_pow] at hi;exact .inl (of_decide_eq_true hi).symm) i;rw [h,Nat.testBit_two_pow_sub_one] at this;exact (this (decide_eq_true hi)).resolve_left hiz
theorem q5r {q : Oper → Bool} (hs : Region.noSelect ops = true) (hse : qf6 ops z) : ∀ (ord : List Nat) (listed : Array Bool) (a : Act) (w : World),Closed ops listed → q4c ops z q ord listed = true → qdf ro P ops C z Q q ord a w → anyC ro P ops C z Q ord.length listed a w
  | [],listed,a,w,hcl,hB,h=>by
    simp only [q4c,Bool.and_eq_true,Bool.or_eq_true,List.isEmpty_iff] at hB;refine ⟨fun hz=>?_,hB.1,h.2⟩
    rcases hB.2 with h2 | h2
    · exact h.1 h2
    · rw [hz] at h2;cases h2
  | i :: r,listed,a,w,hcl,hB,h=>by
    obtain ⟨hC,o,ho,h⟩:=h;simp only [q4c,ho,Bool.and_eq_true] at hB;obtain ⟨hB1,hB2⟩:=hB
    by_cases hq : q o = true
    · rw [if_pos hq] at h;obtain ⟨v,hy,h⟩:=h;rw [if_pos hq] at hB1;simp only [Bool.and_eq_true,Bool.not_eq_true'] at hB1;exact qa4 hse (Nat.ne_of_beq_eq_false hB1.1.1.2) ho (Region.noSelect_spec hs) r.length listed a w (Region.free_spec ho hB1.2) hcl (by simpa using hB1.1.2) hy hC hB1.1.1.1 (q5r hs hse r _ _ _ (hcl.set (by simpa using hB1.1.2)) hB2 h)
    · rw [if_neg hq] at h hB1;have hB1 : Region.ready .any ops listed = [i]:=by simpa using hB1
      show anyC ro P ops C z Q (r.length + 1) listed a w;refine ⟨fun _=>hC,fun h0=>absurd (hB1.symm.trans h0) (by simp),fun j hj=>?_⟩;rw [hB1] at hj
      simp at hj
      subst hj;exact wpOpIn_mono (fun a' w' h'=>q5r hs hse r _ _ _ (hcl.set (by rw [hB1];simp)) hB2 h') h
theorem q7p {id : Nat} {Q' : Exit → Act → World → Prop} {a : Act} {w : World} {q : Oper → Bool} (hm : P.follows .mixedOrders = true) (ord : List Nat)
    (hB : (Region.noSelect ops && q4c ops z q ord (Array.replicate ops.size false) && ord.length == ops.size && q5o ops z) = true)
    (h : qdf ro P ops C z (fun a w=>Q' .normal a w) q ord a { w with drawn:=w.drawn + 1 }) : (Code.region id ops true).wpIn (Wf ro) 0 P Q' a w:=by
  simp only [Bool.and_eq_true,beq_iff_eq] at hB;refine wpIn_mono (wpIn_region_any hm ?_) ?_ (Q:=QN fun a w=>Q' .normal a w)
  · have:=q7v _ _ _ _ (q5r hB.1.1.1 (qia hB.2) ord _ _ _ Closed.zero hB.1.1.2 h);rw [hB.1.2] at this;exact this
  · intro e a w hq;cases e <;> first | exact hq | exact hq.elim
end
end Go.Sx
namespace Go.Sx
def TT.isInt : TT → Nat → Bool
  | .leaf,_=>false
  | .node k x l r,t=>match Nat.beq t k with
    | true=>match x.k with | .int _=>true | _=>false
    | false=>match Nat.ble t k with | true=>l.isInt t | false=>r.isInt t
def isQ (tt : TT) (o : Oper) : Bool :=
  match o.op with
  | .convert _ dst _=>tt.isInt dst
  | op=>!loud op
def qd9 (tt : TT) (o : Oper) (X : Prop) : Prop :=
  match o.op with
  | .convert _ dst _=>tt.get dst fun d=>match d.k with | .int _=>X | _=>False
  | op=>match loud op with | true=>False | false=>X
def nthO : List Oper → Nat → (Oper → Prop) → Prop
  | [],_,_=>False
  | o :: r,i,f=>match i with | 0=>f o | i + 1=>nthO r i f
def q93 (all : List Oper) (o : Oper) (env : Env) (run skip : Env → Prop) : Prop :=
  match o.guard with
  | none=>run env
  | some (j,want)=>dstAt all j fun s=>look env s fun c=>match c with
    | .c .tt=>fits true want (run env) (skip env)
    | .c .ff=>fits false want (run env) (skip env)
    | .c (.bool b)=>Cond b (fits true want (run ((s,.c .tt) :: env)) (skip ((s,.c .tt) :: env))) (fits false want (run ((s,.c .ff) :: env)) (skip ((s,.c .ff) :: env)))
    | .tup l=>match l with | []=>skip env | _=>False
    | _=>False
structure Sub (m : M) (Hs : List Chunk) (Fs : List HP) (X : Prop) : Prop where
  s : ∀ w,sat m.props w → sat (M.props ⟨m.B,Hs,Fs⟩) w
  x : X
theorem Sub.whole {m : M} {X : Prop} (x : X) : Sub m m.H m.F X:=⟨fun _ h=>h,x⟩
theorem Sub.q {B : Names} {H : List Chunk} {F : List HP} {Hs : List Chunk} {Fs : List HP} {X : Prop} (cs fi : List Nat) (h : Parts cs fi B H F (Hs.map (Chunk.p B)) Fs) (x : X) : Sub ⟨B,H,F⟩ Hs Fs X:=⟨fun _ s=>h.sat s,x⟩
theorem Sub.r {B : Names} {H : List Chunk} {F : List HP} {Hs : List Chunk} {Fs : List HP} {X : Prop} (cs fi : List Nat) (x : X) (h : Parts cs fi B H F (Hs.map (Chunk.p B)) Fs:=by exact ⟨rfl,rfl⟩) : Sub ⟨B,H,F⟩ Hs Fs X:=Sub.q cs fi h x
def q7c (P : Program) (tt : TT) (N : Nat) (all : List Oper) (Hs : List Chunk) (Fs : List HP) (last : Bool) (i : Nat) (k : Env → M → (Env → M → Prop) → Prop) (env : Env) (m : M) (f : Env → M → Prop) : Prop :=
  nthO all i fun o=>q93 all o env
    (fun env=>match isQ tt o with
      | true=>qd9 tt o (match m with | ⟨B,H,F⟩=>Sx.execOp P tt o env ⟨B,Hs,Fs⟩ fun v _=>put N o.dst v env fun env'=>k env' ⟨B,H,F⟩ f)
      | false=>Sx.execOp P tt o env m fun v m'=>put N o.dst v env fun env'=>match last with | true=>k env' m' f | false=>Sub m' Hs Fs (k env' m' f))
    (fun env=>put N o.dst (.tup []) env fun env'=>k env' m f)
def lastB (all : List Oper) (z : Nat) : List Nat → Bool
  | []=>Nat.blt z all.length
  | _ :: _=>false
noncomputable def q94 (P : Program) (tt : TT) (N : Nat) (all : List Oper) (z : Nat) (Hs : List Chunk) (Fs : List HP) (ord : List Nat) : Env → M → (Env → M → Prop) → Prop :=
  @List.rec Nat (fun _=>Env → M → (Env → M → Prop) → Prop) (fun env m f=>f env m) (fun i r ih=>q7c P tt N all Hs Fs (lastB all z r) i ih) ord
theorem qc5 {X : Prop} {t : Nat} : ∀ {tt : TT},(tt.get t fun d=>match d.k with | .int _=>X | _=>False) → (tt.get t fun d=>match d.k with | .int _=>True | _=>False) ∧ X
  | .leaf,h=>h.elim
  | .node k x l r,h=>by
    simp only [TT.get] at h ⊢
    cases e : Nat.beq t k with
    | true =>
      rw [e] at h;dsimp only at h ⊢;cases hk : x.k <;> rw [hk] at h <;> first | exact h.elim | exact ⟨trivial,h⟩
    | false =>
      rw [e] at h;dsimp only at h ⊢
      cases e' : Nat.ble t k with
      | true=>rw [e'] at h;exact qc5 h
      | false=>rw [e'] at h;exact qc5 h
theorem q3i {tt : TT} {o : Oper} {X : Prop} (h : qd9 tt o X) : quiet tt o ∧ X:=by
  unfold qd9 at h;unfold quiet
  cases ho : o.op <;> rw [ho] at h <;> dsimp only at h ⊢ <;> first
    | exact qc5 h
    | (cases hl : loud _ <;> (try rw [hl] at h) <;> (try rw [hl]) <;> first | exact h.elim | exact ⟨trivial,h⟩)
theorem q2v : ∀ {l : List Oper} {i : Nat} {f : Oper → Prop},nthO l i f → ∃ o,l[i]? = some o ∧ f o
  | [],_,_,h=>h.elim
  | o :: r,0,f,h=>⟨o,rfl,h⟩
  | o :: r,i + 1,f,h=>by
    obtain ⟨o',e,hf⟩:=q2v (l:=r) h;exact ⟨o',by simpa using e,hf⟩
theorem q28 {N : Nat} {all : List Oper} {o : Oper} {env : Env} {m : M} {a : Act} {w : World} {run skip : Env → Prop} (st : St N env m a w) (h : q93 all o env run skip) :
    ∃ env',St N env' m a w ∧ if Region.wanted o (yielded all.toArray a.tmps) then run env' else skip env':=by
  unfold q93 at h
  cases hgd : o.guard with
  | none=>rw [hgd] at h;exact ⟨env,st,by rw [if_pos (by simp [Region.wanted,hgd])];exact h⟩
  | some jw =>
    obtain ⟨j,want⟩:=jw;rw [hgd] at h;obtain ⟨s,hs,h1⟩:=q72 h;obtain ⟨c,hc,h2⟩:=q4w h1;have hslot:=st.l s c hc
    have hy : ∀ b,c.den m.B = .bool b → Region.wanted o (yielded all.toArray a.tmps) = (b == want):=by
      intro b hb
      have : yielded all.toArray a.tmps j = some b:=by
        unfold yielded;simp only [List.getElem?_toArray,hs,Option.bind_some,hslot.2,hb]
      simp only [Region.wanted,hgd,this];cases b <;> cases want <;> rfl
    have both : ∀ (b : Bool) (env : Env),St N env m a w → c.den m.B = .bool b → fits b want (run env) (skip env) →
        ∃ env',St N env' m a w ∧ if Region.wanted o (yielded all.toArray a.tmps) then run env' else skip env':=by
      intro b env st hb h;refine ⟨env,st,?_⟩;have h:=qdi h;rw [hy b hb]
      by_cases e : b = want
      · rw [if_pos e] at h;rw [if_pos (by simpa using e)];exact h
      · rw [if_neg e] at h;rw [if_neg (by simpa using e)];exact h
    clear h h1
    cases c with
    | c x =>
      cases x with
      | tt=>exact both true env st rfl h2
      | ff=>exact both false env st rfl h2
      | bool b =>
        cases b with
        | true=>exact both true _ (st.know hc .tt rfl trivial) rfl (h2.t rfl)
        | false=>exact both false _ (st.know hc .ff rfl trivial) rfl (h2.f rfl)
      | _=>exact h2.elim
    | tup l =>
      cases l with
      | nil =>
        refine ⟨env,st,?_⟩
        have : yielded all.toArray a.tmps j = none:=by
          unfold yielded;simp only [List.getElem?_toArray,hs,Option.bind_some,hslot.2];rfl
        rw [if_neg (by simp [Region.wanted,hgd,this])];exact h2
      | cons _ _=>exact h2.elim
    | _=>exact h2.elim
theorem ExtS.seg {B0 B : Names} (e : ExtS B0 B) {x : Seg} (k : x.ok B0) : x.ok B ∧ x.den B = x.den B0:=by
  cases x with
  | one x =>
    cases x with
    | ptr i off=>have:=e.h i k;exact ⟨this.1,by simp only [Seg.den,SC.den];rw [this.2]⟩
    | elt i off j=>have:=e.h i k;exact ⟨this.1,by simp only [Seg.den,SC.den];rw [this.2]⟩
    | slc i off len cap=>have:=e.h i k;exact ⟨this.1,by simp only [Seg.den,SC.den];rw [this.2]⟩
    | raw v=>exact ⟨k,rfl⟩
    | _=>exact ⟨trivial,rfl⟩
  | many n l=>exact ⟨k,rfl⟩
theorem ExtS.chunks {B0 B : Names} (e : ExtS B0 B) {H : List Chunk} (k : ∀ c ∈ H,Chunk.ok B0 c) : (∀ c ∈ H,Chunk.ok B c) ∧ H.map (Chunk.p B) = H.map (Chunk.p B0):=by
  refine ⟨fun c hc=>⟨(e.h _ (k c hc).1).1,fun s hs=>(e.seg ((k c hc).2 s hs)).1⟩,List.map_congr_left fun c hc=>?_⟩;have h1:=k c hc;simp only [Chunk.p];rw [(e.h _ h1.1).2];congr 2;unfold dens;rw [List.flatMap_def,List.flatMap_def];congr 2;exact List.map_congr_left fun s hs=>(e.seg (h1.2 s hs)).2
theorem ExtS.ext {B0 B B' : Names} (e : ExtS B0 B) (h : Ext B B') : ExtS B0 B' :=
  ⟨fun i hi=>by have h1:=e.h i hi;have h2:=h.has h1.1;exact ⟨h2.1,by rw [h2.2,h1.2]⟩⟩
theorem q3s {ro : Option Nat} {P : Program} {tt : TT} {N : Nat} (ok : tt.ok P) {all : List Oper} {z : Nat} {Hs : List Chunk} {Fs : List HP} {B0 : Names} (kH : ∀ c ∈ Hs,Chunk.ok B0 c) {f : Env → M → Prop} :
    ∀ (ord : List Nat) (env : Env) (m : M) (a : Act) (w : World),q94 P tt N all z Hs Fs ord env m f → St N env m a w → ExtS B0 m.B → (∀ w,sat m.props w → sat (M.props ⟨m.B,Hs,Fs⟩) w) →
      qdf ro P all.toArray (sat (M.props ⟨B0,Hs,Fs⟩)) z (fun a w=>∃ env' m',f env' m' ∧ St N env' m' a w) (isQ tt) ord a w
  | [],env,m,a,w,h,st,hB,hS=>⟨fun _=>by have:=hS w st.s;simp only [M.props,(hB.chunks kH).2] at this;exact this,env,m,h,st⟩
  | i :: r,env,m,a,w,h,st,hB,hS=>by
    have same : M.props ⟨m.B,Hs,Fs⟩ = M.props ⟨B0,Hs,Fs⟩:=by simp only [M.props,(hB.chunks kH).2]
    refine ⟨by rw [← same];exact hS w st.s,?_⟩;obtain ⟨o,ho,h1⟩:=q2v h;refine ⟨o,by simpa using ho,?_⟩;obtain ⟨env,st,h2⟩:=q28 st h1;clear h h1
    by_cases hw : Region.wanted o (yielded all.toArray a.tmps) = true
    · rw [if_pos hw] at h2
      cases hq : isQ tt o with
      | true =>
        rw [hq] at h2;simp only [if_true];obtain ⟨hqq,h3⟩:=q3i h2
        cases m with
        | mk B H F =>
        have st' : St N env ⟨B,Hs,Fs⟩ a w:=⟨st.d,st.n,st.l,(hB.chunks kH).1,hS w st.s⟩
        rcases q1g ok st' h3 with ⟨x,kx,hf,hr⟩ | ⟨hn,_⟩
        · obtain ⟨env',hg,st2⟩:=q2d st (.inl rfl) st.k st.s kx hf;refine ⟨x.den B,.inl ⟨hw,fun w hw'=>hr w (by rw [same];exact hw')⟩,?_⟩;exact q3s ok kH r env' ⟨B,H,F⟩ _ w hg st2 hB hS
        · exact absurd hqq hn
      | false =>
        rw [hq] at h2;simp only [Bool.false_eq_true,if_false];unfold wpOpIn;simp only [List.getElem?_toArray,ho];rw [if_pos hw];refine (q3z (nd_of h2) (q1g ok st h2) st.k st.s ?_);rintro v w' ⟨x,m',rfl,kx,he,km,hs,hf⟩;obtain ⟨env',hg,st'⟩:=q2d st he km hs kx hf
        cases hl : lastB all z r with
        | false=>rw [hl] at hg;exact q3s ok kH r env' m' _ w' hg.x st' (hB.ext he) hg.s
        | true =>
          rw [hl] at hg
          cases r with
          | cons _ _=>cases hl
          | nil =>
            refine ⟨fun h=>?_,env',m',hg,st'⟩;have h1:=Nat.le_of_ble_eq_true h
            have h2 : z < all.length:=by
              have h3 : Nat.ble (z + 1) all.length = true:=hl;exact Nat.le_of_ble_eq_true h3
            simp at h1
            omega
    · rw [if_neg hw] at h2;have hw : Region.wanted o (yielded all.toArray a.tmps) = false:=by simpa using hw
      obtain ⟨env',hg,st'⟩:=q33 st h2;have next:=q3s (ro:=ro) ok kH r env' m _ w hg st' hB hS
      cases hq : isQ tt o with
      | true=>simp only [if_true];exact ⟨undef,.inr ⟨hw,rfl⟩,next⟩
      | false =>
        simp only [Bool.false_eq_true,if_false];unfold wpOpIn;simp only [List.getElem?_toArray,ho,hw,Bool.false_eq_true,if_false];exact ⟨fun _ _=>trivial,next⟩
theorem Draw.sealed {P : Program} {tt : TT} {N : Nat} {ops : List Oper} {env : Env} {m : M} {f : Env → M → Prop} (hm : P.follows .mixedOrders = true) (ok : tt.ok P) (ord : List Nat) (z : Nat) (Hs : List Chunk) (Fs : List HP)
    (hB : (Region.noSelect ops.toArray && q4c ops.toArray z (isQ tt) ord (Array.replicate ops.toArray.size false) && ord.length == ops.toArray.size && q5o ops.toArray z) = true)
    (kH : m.ok → ∀ c ∈ Hs,Chunk.ok m.B c) (h : Sub m Hs Fs (q94 P tt N ops z Hs Fs ord env m f)) : Draw P tt N ops env m f:=by
  refine ⟨fun ro id Q a w hd hn hl hk hs hQ=>?_⟩
  have st : St N env m a { w with drawn:=w.drawn + 1 }:=⟨hd,hn,hl,hk,q3u hs rfl⟩;have:=q3s (ro:=ro) ok (B0:=m.B) (kH hk) ord env m a _ h.x st ⟨fun i hi=>⟨hi,rfl⟩⟩ h.s;refine wpIn_mono (q7p (C:=sat (M.props ⟨m.B,Hs,Fs⟩)) (Q':=fun e a w=>e = .normal ∧ ∃ env' m',f env' m' ∧ St N env' m' a w) hm ord hB ?_) ?_
  · have e : (fun a w=>(fun (e : Exit) a w=>e = .normal ∧ ∃ env' m',f env' m' ∧ St N env' m' a w) Exit.normal a w) = fun a w=>∃ env' m',f env' m' ∧ St N env' m' a w:=by
      funext a w;simp
    rw [e];exact this
  · rintro e a w ⟨rfl,env',m',hf,st⟩;exact hQ a w env' m' st.d st.n st.l st.k st.s hf
theorem Draw.last {P : Program} {tt : TT} {N : Nat} {ops : List Oper} {env : Env} {B : Names} {H : List Chunk} {F : List HP} {f : Env → M → Prop} (hm : P.follows .mixedOrders = true) (ok : tt.ok P) (ord : List Nat) (z : Nat)
    (hB : (Region.noSelect ops.toArray && q4c ops.toArray z (isQ tt) ord (Array.replicate ops.toArray.size false) && ord.length == ops.toArray.size && q5o ops.toArray z) = true)
    (h : q94 P tt N ops z H F ord env ⟨B,H,F⟩ f) : Draw P tt N ops env ⟨B,H,F⟩ f :=
  .sealed hm ok ord z H F hB (fun k=>k) (Sub.whole h)
theorem Draw.greedy {P : Program} {tt : TT} {N : Nat} {ops : List Oper} {env : Env} {m : M} {f : Env → M → Prop} (hm : P.follows .mixedOrders = true) (ok : tt.ok P) (ord : List Nat) (Hs : List Chunk) (Fs : List HP)
    (hB : (Region.noSelect ops.toArray && q4c ops.toArray 1000000 (isQ tt) ord (Array.replicate ops.toArray.size false) && ord.length == ops.toArray.size && q5o ops.toArray 1000000) = true)
    (kH : m.ok → ∀ c ∈ Hs,Chunk.ok m.B c) (h : Sub m Hs Fs (q94 P tt N ops 1000000 Hs Fs ord env m f)) : Draw P tt N ops env m f :=
  .sealed hm ok ord 1000000 Hs Fs hB kH h
theorem Draw.quiet {P : Program} {tt : TT} {N : Nat} {ops : List Oper} {env : Env} {B : Names} {H : List Chunk} {F : List HP} {f : Env → M → Prop} (hm : P.follows .mixedOrders = true) (ok : tt.ok P) (ord : List Nat)
    (hB : (Region.noSelect ops.toArray && q4c ops.toArray 1000000 (isQ tt) ord (Array.replicate ops.toArray.size false) && ord.length == ops.toArray.size && q5o ops.toArray 1000000) = true)
    (h : q94 P tt N ops 1000000 H F ord env ⟨B,H,F⟩ f) : Draw P tt N ops env ⟨B,H,F⟩ f :=
  .greedy hm ok ord H F hB (fun k=>k) (Sub.whole h)
end Go.Sx
namespace Go.Sx
inductive Sh where
  | int (k : IntKind) | bool | str | bytes | slice (e : Sh) | unit | pair (a b : Sh) | barr (n : Nat) | array (n : Nat) (e : Sh)
@[reducible] def Sh.T : Sh → Type
  | .int _=>Int | .bool=>Bool | .str=>ByteArray | .bytes=>List UInt8 | .slice e=>List e.T | .unit=>Unit | .pair a b=>a.T × b.T | .barr _=>List UInt8 | .array _ e=>List e.T
def Sh.size : Sh → Nat
  | .unit=>0 | .pair a b=>a.size + b.size | .barr n=>n | .array n e=>n * e.size | _=>1
def Good (R : HP) : (s : Sh) → s.T → List Value → Prop
  | .int k,n,cs=>cs = [.int k n] ∧ (Lit.int k n).wf = true
  | .bool,b,cs=>cs = [.bool b]
  | .str,s,cs=>cs = [.string s] ∧ s.size ≤ maxLen
  | .bytes,l,cs=>∃ a cap,cs = [.slice a l.length cap] ∧ (l.length ≤ cap ∧ cap ≤ maxLen ∧ (a = none → l = [])) ∧ Rd R a (u8s l)
  | .slice e,l,cs=>∃ a cap,cs = [.slice a l.length cap] ∧ (l.length ≤ cap ∧ cap ≤ maxLen ∧ (a = none → l = [])) ∧ ∃ css : List (List Value),Rd R a css.flatten ∧ css.length = l.length ∧ ∀ (i : Nat) (x : e.T) c,(l : List e.T)[i]? = some x → css[i]? = some c → Good R e x c
  | .unit,_,cs=>cs = []
  | .pair a b,(x,y),cs=>∃ c1 c2,cs = c1 ++ c2 ∧ Good R a x c1 ∧ Good R b y c2
  | .barr n,l,cs=>l.length = n ∧ cs = u8s l
  | .array n e,l,cs=>l.length = n ∧ ∃ css : List (List Value),cs = css.flatten ∧ css.length = l.length ∧ ∀ (i : Nat) (x : e.T) c,(l : List e.T)[i]? = some x → css[i]? = some c → Good R e x c
def Ent (p q : HP) : Prop:=∀ h,p h → ∃ g,Le g h ∧ q g
theorem Ent.refl (p : HP) : Ent p p:=fun h x=>⟨h,Le.refl h,x⟩
theorem Ent.trans {p q r : HP} (a : Ent p q) (b : Ent q r) : Ent p r:=fun h x =>
  let ⟨g,l,y⟩:=a h x;let ⟨k,m,z⟩:=b g y;⟨k,m.trans l,z⟩
theorem Ent.a {p : HP} {l : List HP} (h : p ∈ l) : Ent (all l) p:=by
  intro g hg;obtain ⟨l1,l2,rfl⟩:=List.append_of_mem h;obtain ⟨g',k,d,hg',hk,hp,hs⟩:=q19.1 hg;exact ⟨g',hg',hp⟩
theorem Rd.ent {p q : HP} (e : Ent p q) {a : Option Addr} {xs : List Value} (r : Rd q a xs) : Rd p a xs:=by
  intro h hp;obtain ⟨g,l,hq⟩:=e h hp;exact (r g hq).imp id fun ⟨p,e,r⟩=>⟨p,e,r.le l⟩
theorem Good.ent {p q : HP} (e : Ent p q) : ∀ {s : Sh} {v : s.T} {cs : List Value},Good q s v cs → Good p s v cs
  | .int _,_,_,h=>h
  | .bool,_,_,h=>h
  | .str,_,_,h=>h
  | .bytes,_,_,⟨a,cap,h1,h2,h3⟩=>⟨a,cap,h1,h2,h3.ent e⟩
  | .slice _,_,_,⟨a,cap,h1,h2,css,h3,h4,h5⟩=>⟨a,cap,h1,h2,css,h3.ent e,h4,fun i x c hx hc=>Good.ent e (h5 i x c hx hc)⟩
  | .unit,_,_,h=>h
  | .pair _ _,(_,_),_,⟨c1,c2,h1,h2,h3⟩=>⟨c1,c2,h1,Good.ent e h2,Good.ent e h3⟩
  | .barr _,_,_,h=>h
  | .array _ _,_,_,⟨h1,css,h3,h4,h5⟩=>⟨h1,css,h3,h4,fun i x c hx hc=>Good.ent e (h5 i x c hx hc)⟩
theorem q1x {css : List (List Value)} {n : Nat} (h : ∀ c ∈ css,c.length = n) : css.flatten.length = css.length * n:=by
  induction css with
  | nil=>simp
  | cons c r ih =>
    simp only [List.flatten_cons,List.length_append,List.length_cons];rw [ih fun d hd=>h d (by simp [hd]),h c (by simp),Nat.add_mul];omega
theorem q44 {css : List (List Value)} {n : Nat} (h : ∀ c ∈ css,c.length = n) : ∀ {i : Nat} {c : List Value},css[i]? = some c → (css.flatten.drop (i * n)).take n = c:=by
  induction css with
  | nil=>intro i c h;simp at h
  | cons d r ih =>
    intro i c hc;have hd : d.length = n:=h d (by simp)
    cases i with
    | zero =>
      simp only [List.getElem?_cons_zero,Option.some.injEq] at hc;subst hc
      simp [← hd]
    | succ i =>
      simp only [List.getElem?_cons_succ] at hc;rw [List.flatten_cons,show (i + 1) * n = d.length + i * n by rw [Nat.add_mul];omega,← List.drop_drop,List.drop_left];exact ih (fun c hc=>h c (by simp [hc])) hc
theorem Good.length {R : HP} : ∀ {s : Sh} {v : s.T} {cs : List Value},Good R s v cs → cs.length = s.size
  | .int _,_,_,h=>by rw [h.1];rfl
  | .bool,_,_,h=>by rw [show _ = _ from h];rfl
  | .str,_,_,h=>by rw [h.1];rfl
  | .bytes,_,_,⟨a,cap,h1,h2,h3⟩=>by rw [h1];rfl
  | .slice _,_,_,⟨a,cap,h1,h2,css,h3,h4,h5⟩=>by rw [h1];rfl
  | .unit,_,_,h=>by rw [show _ = _ from h];rfl
  | .pair _ _,(_,_),_,⟨c1,c2,h1,h2,h3⟩=>by rw [h1,List.length_append,Good.length h2,Good.length h3];rfl
  | .barr _,_,_,h=>by rw [h.2,u8l,h.1];rfl
  | .array n e,l,_,⟨h1,css,h3,h4,h5⟩=>by
    rw [h3,q1x (n:=e.size) fun c hc=>?_,h4,h1];rfl;obtain ⟨i,hi⟩:=List.getElem?_of_mem hc;have hlt:=(List.getElem?_eq_some_iff.1 hi).1;exact Good.length (h5 i _ c (List.getElem?_eq_getElem (by omega)) hi)
theorem Good.all_one {R : HP} : ∀ {s : Sh} {v : s.T} {cs : List Value},Good R s v cs → ∀ u ∈ cs,u.oneCell' = true
  | .int _,_,_,h=>by rw [h.1];simp [Value.oneCell']
  | .bool,_,_,h=>by rw [show _ = _ from h];simp [Value.oneCell']
  | .str,_,_,h=>by rw [h.1];simp [Value.oneCell']
  | .bytes,_,_,⟨a,cap,h1,h2,h3⟩=>by rw [h1];simp [Value.oneCell']
  | .slice _,_,_,⟨a,cap,h1,h2,css,h3,h4,h5⟩=>by rw [h1];simp [Value.oneCell']
  | .unit,_,_,h=>by rw [show _ = _ from h];simp
  | .pair _ _,(_,_),_,⟨c1,c2,h1,h2,h3⟩=>by
    rw [h1];intro u hu
    rcases List.mem_append.1 hu with hu | hu
    · exact Good.all_one h2 u hu
    · exact Good.all_one h3 u hu
  | .barr _,_,_,h=>by rw [h.2];exact q0s _
  | .array n e,l,_,⟨h1,css,h3,h4,h5⟩=>by
    rw [h3];intro u hu;obtain ⟨c,hc,hu⟩:=List.mem_flatten.1 hu;obtain ⟨i,hi⟩:=List.getElem?_of_mem hc;have hlt:=(List.getElem?_eq_some_iff.1 hi).1;exact Good.all_one (h5 i _ c (List.getElem?_eq_getElem (by omega)) hi) u hu
structure Vals (R : HP) (a : Option Addr) (e : Sh) (l : List e.T) : Prop where
  h : ∃ css : List (List Value),Rd R a css.flatten ∧ css.length = l.length ∧ ∀ (i : Nat) x c,l[i]? = some x → css[i]? = some c → Good R e x c
theorem qjk {R : HP} {e : Sh} {l : List e.T} {css : List (List Value)} (h4 : css.length = l.length) (h5 : ∀ (i : Nat) x c,l[i]? = some x → css[i]? = some c → Good R e x c) : ∀ c ∈ css,c.length = e.size:=by
  intro c hc;obtain ⟨i,hi⟩:=List.getElem?_of_mem hc;have hlt:=(List.getElem?_eq_some_iff.1 hi).1;exact Good.length (h5 i _ c (List.getElem?_eq_getElem (by omega)) hi)
theorem Vals.at {R : HP} {a : Option Addr} {e : Sh} {l : List e.T} (r : Vals R a e l) : ∃ xs,Rd R a xs ∧ xs.length = l.length * e.size ∧ (∀ u ∈ xs,u.oneCell' = true) ∧ ∀ i (h : i < l.length),Good R e l[i] ((xs.drop (i * e.size)).take e.size):=by
  obtain ⟨css,h3,h4,h5⟩:=r.h;have hl:=qjk h4 h5;refine ⟨css.flatten,h3,by rw [q1x hl,h4],?_,fun i h=>?_⟩
  · intro u hu;obtain ⟨c,hc,hu⟩:=List.mem_flatten.1 hu;obtain ⟨i,hi⟩:=List.getElem?_of_mem hc;have hlt:=(List.getElem?_eq_some_iff.1 hi).1;exact Good.all_one (h5 i _ c (List.getElem?_eq_getElem (by omega)) hi) u hu
  · have hc : css[i]? = some css[i]:=List.getElem?_eq_getElem (by omega);rw [q44 hl hc];exact h5 i _ _ (List.getElem?_eq_getElem h) hc
mutual
def Fits (P : Program) : Sh → TypeId → Bool
  | .int k,t=>match P.underlying t with | some (.int k')=>k' == k | _=>false
  | .bool,t=>match P.underlying t with | some .bool=>true | _=>false
  | .str,t=>match P.underlying t with | some .string=>true | _=>false
  | .bytes,t=>match P.underlying t with | some (.slice e)=>(match P.underlying e with | some (.int k')=>k' == .u8 | _=>false) && P.cellsOf e == 1 | _=>false
  | .slice s,t=>match P.underlying t with | some (.slice e)=>Fits P s e && P.cellsOf e == s.size | _=>false
  | .unit,t=>match P.underlying t with | some (.struct fs)=>fs.size == 0 && P.cellsOf t == 0 | _=>false
  | .pair a b,t=>match P.underlying t with | some (.struct fs)=>q26 P (.pair a b) fs.toList 0 && P.cellsOf t == a.size + b.size | _=>false
  | .barr n,t=>match P.underlying t with | some (.array m e)=>m == n && (match P.underlying e with | some (.int k')=>k' == .u8 | _=>false) && P.cellsOf e == 1 && P.cellsOf t == n | _=>false
  | .array n s,t=>match P.underlying t with | some (.array m e)=>m == n && Fits P s e && P.cellsOf e == s.size && P.cellsOf t == n * s.size | _=>false
def q26 (P : Program) : Sh → List Field → Nat → Bool
  | .unit,fs,_=>fs.isEmpty
  | .pair a b,f :: fs,off=>f.offset == off && Fits P a f.type && P.cellsOf f.type == a.size && q26 P b fs (off + a.size)
  | _,_,_=>false
end
end Go.Sx
namespace Go.Sx
variable {H : Type} {enc : TypeId × Value → H} {P : Program} {w : World} {spare : Nat → Bool} {held : Bool}
theorem qjh {a : Addr} {v : Value} (h : w.cell? a = some v) : a = radr (a.block,a.off) ∧ ∃ cs T fz,w.heap[a.block]? = some (.cells cs T fz) ∧ cs[a.off]? = some v:=by
  unfold World.cell? at h
  split at h
  · rename_i c T fz e
    split at h
    · cases h
    · rename_i hs
      cases a with
      | mk b o s =>
        cases s with
        | some s=>simp at hs
        | none=>exact ⟨rfl,_,_,_,e,h⟩
  · cases h
theorem qkm {α : Type} {f : Nat → Option α} : ∀ {n : Nat} {l : List α},(List.range n).mapM f = some l → l.length = n ∧ ∀ i,i < n → f i = l[i]?:=by
  intro n
  have gen : ∀ (m k : Nat) (l : List α),(List.range' k m).mapM f = some l → l.length = m ∧ ∀ i,i < m → f (k + i) = l[i]?:=by
    intro m
    induction m with
    | zero=>intro k l h;simp at h;subst h;exact ⟨rfl,fun i hi=>absurd hi (by omega)⟩
    | succ m ih =>
      intro k l h;simp only [List.range'_succ,List.mapM_cons,Option.bind_eq_bind] at h
      cases e : f k with
      | none=>simp [e] at h
      | some x =>
        cases e2 : (List.range' (k + 1) m).mapM f with
        | none=>simp [e,e2] at h
        | some r =>
          simp [e,e2] at h
          subst h;obtain ⟨h1,h2⟩:=ih (k + 1) r e2;refine ⟨by simp [h1],fun i hi=>?_⟩
          cases i with
          | zero=>simpa using e
          | succ i=>have:=h2 i (by omega);rw [show k + (i + 1) = k + 1 + i by omega,this];simp
  intro l h;rw [List.range_eq_range'] at h;have:=gen n 0 l h
  simpa using this
theorem qd3 {base n : Nat} {a : Addr} {cs : List Value} (h : w.cells? base a n = some cs) : cs.length = n ∧ ∀ i,i < n → w.cell? (a.add i) = cs[i]?:=by
  unfold World.cells? at h
  split at h
  · exact qkm h
  · cases h
theorem qni {a : Addr} {xs : List Value} (h : ∀ i,i < xs.length → w.cell? (a.add i) = xs[i]?) : Rd (old w) (some a) xs:=by
  intro g hg
  by_cases e : xs = []
  · exact .inl e
  have hpos : 0 < xs.length:=List.length_pos_iff.2 e;have h0:=h 0 hpos;rw [List.getElem?_eq_getElem hpos] at h0;obtain ⟨er,cs,T,fz,hb,hc⟩:=qjh (a:=a) (by simpa [Addr.add] using h0);refine .inr ⟨(a.block,a.off),by rw [← er],cs,T,fz,hg.1 _ _ hb,fun j u hj=>?_⟩;have hlt:=(List.getElem?_eq_some_iff.1 hj).1;have:=h j hlt;rw [hj,er,radr,q0l,cell_of_row w _ _ cs T fz hb] at this;exact this
theorem qht {R : HP} {a : Option Addr} : Rd R a []:=fun _ _=>.inl rfl
theorem q6n {k k' : IntKind} (h : (k' == k) = true) : k' = k:=by cases k <;> cases k' <;> first | rfl | cases h
theorem qg0 {a : Addr} {n s : Nat} {f : List Value → Option (DataW H × List MemPlace)} {elems : List (DataW H × List MemPlace)} (hl : elems.length = n)
    (h : ∀ i,i < n → (w.cells? 0 (a.add (i * s)) s).bind f = elems[i]?) :
    ∃ css : List (List Value),css.length = n ∧ (∀ c ∈ css,c.length = s) ∧ Rd (old w) (some a) css.flatten ∧ ∀ (i : Nat) c,css[i]? = some c → ∃ x,f c = some x:=by
  have h' : ∀ i,i < n → ∃ c x,w.cells? 0 (a.add (i * s)) s = some c ∧ f c = some x:=by
    intro i hi;have:=h i hi;rw [List.getElem?_eq_getElem (by omega)] at this
    cases e : w.cells? 0 (a.add (i * s)) s with
    | none=>rw [e] at this;cases this
    | some c=>rw [e] at this;exact ⟨c,_,rfl,this⟩
  let css:=(List.range n).map fun i=>(w.cells? 0 (a.add (i * s)) s).getD []
  have get : ∀ (i : Nat) c,css[i]? = some c → i < n ∧ w.cells? 0 (a.add (i * s)) s = some c:=by
    intro i c hc;simp only [css,List.getElem?_map] at hc
    by_cases hi : i < n
    · rw [List.getElem?_eq_getElem (by simpa using hi)] at hc;obtain ⟨c',x,e1,e2⟩:=h' i hi
      simp [e1] at hc
      exact ⟨hi,by rw [e1,hc]⟩
    · rw [List.getElem?_eq_none (by simpa using hi)] at hc;cases hc
  have len : ∀ c ∈ css,c.length = s:=by
    intro c hc;obtain ⟨i,hi⟩:=List.getElem?_of_mem hc;exact (qd3 (get i c hi).2).1
  refine ⟨css,by simp [css],len,qni ?_,?_⟩
  · intro j hj;rw [q1x len,show css.length = n by simp [css]] at hj
    have hs : 0 < s:=by
      rcases Nat.eq_zero_or_pos s with h0 | h0
      · subst h0;omega
      · exact h0
    have hq : j / s < n:=by rw [Nat.div_lt_iff_lt_mul hs];exact hj
    have hm:=Nat.mod_lt j hs;have hcl : j / s < css.length:=by simp [css,hq]
    have hc : css[j / s]? = some css[j / s]:=List.getElem?_eq_getElem hcl;have e1:=(qd3 (get _ _ hc).2).2 (j % s) hm;have e2:=q44 len hc;rw [← e2,List.getElem?_take_of_lt hm,List.getElem?_drop] at e1;have e3 : j / s * s + j % s = j:=by rw [Nat.mul_comm];exact Nat.div_add_mod j s
    rw [e3] at e1;rw [← e1];congr 1;unfold Addr.add
    by_cases z1 : j / s * s = 0 <;> by_cases z2 : j % s = 0 <;> by_cases z3 : j = 0 <;> simp_all <;> omega
  · intro i c hc;obtain ⟨hi,e⟩:=get i c hc;obtain ⟨c',x,e1,e2⟩:=h' i hi;rw [e] at e1;cases e1;exact ⟨x,e2⟩
theorem q8e {α β : Type} {p : α → β → Prop} : ∀ {css : List β},(∀ (i : Nat) c,css[i]? = some c → ∃ v,p v c) → ∃ l : List α,l.length = css.length ∧ ∀ (i : Nat) x c,l[i]? = some x → css[i]? = some c → p x c
  | [],_=>⟨[],rfl,fun i x c h=>by simp at h⟩
  | c :: r,h=>by
    obtain ⟨v,hv⟩:=h 0 c rfl;obtain ⟨l,hl,h2⟩:=q8e (css:=r) (p:=p) fun i d hd=>h (i + 1) d (by simpa using hd);refine ⟨v :: l,by simp [hl],fun i x d hx hd=>?_⟩
    cases i with
    | zero=>simp at hx hd;subst hx hd;exact hv
    | succ i=>exact h2 i x d (by simpa using hx) (by simpa using hd)
theorem qg1 {css : List (List Value)} (h : ∀ (i : Nat) c,css[i]? = some c → ∃ n,c = [.int .u8 n] ∧ (Lit.int .u8 n).wf = true) : ∃ l : List UInt8,l.length = css.length ∧ css.flatten = u8s l:=by
  obtain ⟨l,hl,h2⟩:=q8e (α:=UInt8) (p:=fun v c=>c = [u8 v]) (css:=css) fun i c hc=>by
    obtain ⟨n,rfl,hn⟩:=h i c hc;have hb:=bounds_u8 hn;refine ⟨UInt8.ofNat n.toNat,?_⟩;simp only [u8];congr 2;have e : (UInt8.ofNat n.toNat).toNat = n.toNat:=by simp;omega
    rw [e];omega
  refine ⟨l,hl,?_⟩;clear h
  induction css generalizing l with
  | nil=>cases l with
    | nil=>rfl
    | cons _ _=>simp at hl
  | cons c r ih =>
    cases l with
    | nil=>simp at hl
    | cons x l =>
      rw [List.flatten_cons,h2 0 x c rfl rfl,ih l (by simpa using hl) fun i y d hy hd=>h2 (i + 1) y d (by simpa using hy) (by simpa using hd)];rfl
theorem qfd : ∀ l : List Value,(l.map fun c=>[c]).flatten = l
  | []=>rfl
  | c :: r=>by simp [qfd r]
mutual
theorem q4n : ∀ (s : Sh) {t fuel : Nat} {cs : List Value} {x : DataW H × List MemPlace},Fits P s t = true → DataW.trod enc P w 0 (fun _=>true) true fuel t cs = some x → ∃ v,Good (old w) s v cs
  | .int k,t,fuel,cs,x,hf,h=>by
    simp only [Fits] at hf
    split at hf
    · rename_i k' hu
      obtain rfl:=q6n hf;obtain ⟨n,rfl,_,hn⟩:=DataW.trod_int hu h;exact ⟨n,rfl,hn⟩
    · cases hf
  | .bool,t,fuel,cs,x,hf,h=>by
    simp only [Fits] at hf
    split at hf
    · rename_i hu
      obtain ⟨b,rfl,_⟩:=DataW.trod_bool hu h;exact ⟨b,rfl⟩
    · cases hf
  | .str,t,fuel,cs,x,hf,h=>by
    simp only [Fits] at hf
    split at hf
    · rename_i hu
      obtain ⟨b,rfl,_,hs⟩:=DataW.trod_string hu h;exact ⟨b,rfl,hs⟩
    · cases hf
  | .bytes,t,fuel,cs,x,hf,h=>by
    simp only [Fits] at hf
    split at hf
    · rename_i e hu
      simp only [Bool.and_eq_true,beq_iff_eq] at hf;obtain ⟨h1,h2⟩:=hf
      split at h1
      · rename_i k' hu'
        obtain rfl:=q6n h1
        rcases DataW.trod_slice hu h with ⟨rfl,_⟩ | ⟨a,len,cap,elems,rest,n,_,rfl,_,_,hlc,hcm,hel,hcell,_⟩
        · exact ⟨[],none,0,rfl,⟨by simp,by simp,fun _=>rfl⟩,qht⟩
        · rw [h2] at hcell;obtain ⟨css,hc1,hc2,hc3,hc4⟩:=qg0 hel hcell
          obtain ⟨l,hl,he⟩:=qg1 (css:=css) fun i c hc=>by
            obtain ⟨y,hy⟩:=hc4 i c hc;obtain ⟨n,e1,_,e3⟩:=DataW.trod_int hu' hy;exact ⟨n,e1,e3⟩
          refine ⟨l,some a,cap,by rw [hl,hc1],⟨by omega,hcm,fun h=>by cases h⟩,?_⟩;rw [← he];exact hc3
      · cases h1
    · cases hf
  | .slice s,t,fuel,cs,x,hf,h=>by
    simp only [Fits] at hf
    split at hf
    · rename_i e hu
      simp only [Bool.and_eq_true,beq_iff_eq] at hf;obtain ⟨h1,h2⟩:=hf
      rcases DataW.trod_slice hu h with ⟨rfl,_⟩ | ⟨a,len,cap,elems,rest,n,_,rfl,_,_,hlc,hcm,hel,hcell,_⟩
      · exact ⟨[],none,0,rfl,⟨by simp,by simp,fun _=>rfl⟩,[],qht,rfl,fun i x c hx=>by simp at hx⟩
      · rw [h2] at hcell;obtain ⟨css,hc1,hc2,hc3,hc4⟩:=qg0 hel hcell
        obtain ⟨l,hl,he⟩:=q8e (α:=s.T) (p:=fun v c=>Good (old w) s v c) (css:=css) fun i c hc=>by
          obtain ⟨y,hy⟩:=hc4 i c hc;exact q4n s h1 hy
        exact ⟨l,some a,cap,by rw [hl,hc1],⟨by omega,hcm,fun h=>by cases h⟩,css,hc3,hl.symm,he⟩
    · cases hf
  | .unit,t,fuel,cs,x,hf,h=>by
    simp only [Fits] at hf
    split at hf
    · rename_i fs hu
      simp only [Bool.and_eq_true,beq_iff_eq] at hf;obtain ⟨xs,n,_,_,hl,_,_⟩:=DataW.trod_struct hu h;exact ⟨(),List.eq_nil_of_length_eq_zero (by omega)⟩
    · cases hf
  | .pair a b,t,fuel,cs,x,hf,h=>by
    simp only [Fits] at hf
    split at hf
    · rename_i fs hu
      simp only [Bool.and_eq_true,beq_iff_eq] at hf;obtain ⟨xs,n,_,_,hl,hxs,hfs⟩:=DataW.trod_struct hu h
      obtain ⟨v,hv⟩:=q9c (.pair a b) (cs:=cs) (fuel:=n) hf.1 (by simp only [Sh.size];omega) fun i f hi=>by
        have hi' : fs[i]? = some f:=by rw [← hi];simp
        have hlt:=(Array.getElem?_eq_some_iff.1 hi').1;have:=hfs i f hi';rw [List.getElem?_eq_getElem (by omega)] at this;exact ⟨_,this⟩
      refine ⟨v,?_⟩
      rwa [List.drop_zero,List.take_of_length_le (by simp only [Sh.size];omega)] at hv
    · cases hf
  | .barr n,t,fuel,cs,x,hf,h=>by
    simp only [Fits] at hf
    split at hf
    · rename_i m e hu
      simp only [Bool.and_eq_true,beq_iff_eq] at hf;obtain ⟨⟨⟨rfl,h1⟩,h2⟩,h3⟩:=hf
      split at h1
      · rename_i k' hu'
        obtain rfl:=q6n h1;obtain ⟨xs,m',_,_,hl,hxs,hel⟩:=DataW.trod_array hu h
        obtain ⟨l,hll,he⟩:=qg1 (css:=cs.map fun c=>[c]) fun i c hc=>by
          simp only [List.getElem?_map,Option.map_eq_some_iff] at hc;obtain ⟨v,hv,rfl⟩:=hc;have hlt:=(List.getElem?_eq_some_iff.1 hv).1;have:=hel i (by omega);rw [List.getElem?_eq_getElem (by omega),h2] at this
          have e2 : (cs.drop (i * 1)).take 1 = [v]:=by
            rw [Nat.mul_one,List.take_one,List.head?_drop,hv];rfl
          rw [e2] at this;obtain ⟨z,e1,_,e3⟩:=DataW.trod_int hu' this;exact ⟨z,e1,e3⟩
        refine ⟨l,by simp at hll;omega,?_⟩;rw [← he];exact (qfd cs).symm
      · cases h1
    · cases hf
  | .array n s,t,fuel,cs,x,hf,h=>by
    simp only [Fits] at hf
    split at hf
    · rename_i m e hu
      simp only [Bool.and_eq_true,beq_iff_eq] at hf;obtain ⟨⟨⟨rfl,h1⟩,h2⟩,h3⟩:=hf;obtain ⟨xs,m',_,_,hl,hxs,hel⟩:=DataW.trod_array hu h;have hlen : cs.length = m * s.size:=by omega
      let css:=(List.range m).map fun i=>(cs.drop (i * s.size)).take s.size
      have hcl : ∀ c ∈ css,c.length = s.size:=by
        intro c hc;simp only [css,List.mem_map,List.mem_range] at hc;obtain ⟨i,hi,rfl⟩:=hc;have:=Nat.mul_le_mul_right s.size (show i + 1 ≤ m by omega);rw [Nat.add_mul] at this;rw [List.length_take,List.length_drop];omega
      obtain ⟨l,hll,he⟩:=q8e (α:=s.T) (p:=fun v c=>Good (old w) s v c) (css:=css) fun i c hc=>by
        simp only [css,List.getElem?_map,Option.map_eq_some_iff] at hc;obtain ⟨v,hv,rfl⟩:=hc;have hlt:=(List.getElem?_eq_some_iff.1 hv).1;rw [List.getElem?_eq_getElem hlt] at hv
        simp at hv hlt
        subst hv;have:=hel i hlt;rw [List.getElem?_eq_getElem (by omega),h2] at this;exact q4n s h1 this
      refine ⟨l,by rw [hll];simp [css],css,?_,hll.symm,he⟩
      apply List.ext_getElem?
      intro j;have hfl:=q1x hcl;have hcm : css.length = m:=by simp [css]
      by_cases hj : j < cs.length
      · have hs : 0 < s.size:=by
          rcases Nat.eq_zero_or_pos s.size with h0 | h0
          · rw [h0] at hlen;omega
          · exact h0
        have hq : j / s.size < m:=by rw [Nat.div_lt_iff_lt_mul hs];omega
        have hm:=Nat.mod_lt j hs;have hc : css[j / s.size]? = some ((cs.drop (j / s.size * s.size)).take s.size):=by simp [css,hq]
        have e2:=q44 hcl hc;have e3 : j / s.size * s.size + j % s.size = j:=by rw [Nat.mul_comm];exact Nat.div_add_mod j _
        have e4:=congrArg (fun z=>z[j % s.size]?) e2;simp only [List.getElem?_take_of_lt hm,List.getElem?_drop,e3] at e4;exact e4.symm
      · rw [List.getElem?_eq_none (by omega),List.getElem?_eq_none (by rw [hfl,hcm];omega)]
    · cases hf
theorem q9c : ∀ (s : Sh) {fs : List Field} {off fuel : Nat} {cs : List Value},q26 P s fs off = true → off + s.size ≤ cs.length →
    (∀ (i : Nat) f,fs[i]? = some f → ∃ x : DataW H × List MemPlace,DataW.trod enc P w 0 (fun _=>true) true fuel f.type ((cs.drop f.offset).take (P.cellsOf f.type)) = some x) → ∃ v,Good (old w) s v ((cs.drop off).take s.size)
  | .unit,fs,off,fuel,cs,hf,hl,h=>⟨(),by simp [Good,Sh.size]⟩
  | .pair a b,[],off,fuel,cs,hf,hl,h=>by simp [q26] at hf
  | .pair a b,f :: fs,off,fuel,cs,hf,hl,h=>by
    simp only [q26,Bool.and_eq_true,beq_iff_eq] at hf;obtain ⟨⟨⟨rfl,h1⟩,h2⟩,h3⟩:=hf;obtain ⟨x,hx⟩:=h 0 f rfl;obtain ⟨v1,hv1⟩:=q4n a h1 hx;simp only [Sh.size] at hl;obtain ⟨v2,hv2⟩:=q9c b (cs:=cs) (fuel:=fuel) h3 (by omega) fun i g hg=>h (i + 1) g (by simpa using hg);refine ⟨(v1,v2),_,_,?_,hv1,hv2⟩;rw [h2];simp only [Sh.size];rw [List.take_add,List.drop_drop]
  | .int _,_,_,_,_,hf,_,_=>by simp [q26] at hf
  | .bool,_,_,_,_,hf,_,_=>by simp [q26] at hf
  | .str,_,_,_,_,hf,_,_=>by simp [q26] at hf
  | .bytes,_,_,_,_,hf,_,_=>by simp [q26] at hf
  | .slice _,_,_,_,_,hf,_,_=>by simp [q26] at hf
  | .barr _,_,_,_,_,hf,_,_=>by simp [q26] at hf
  | .array _ _,_,_,_,_,hf,_,_=>by simp [q26] at hf
end
end Go.Sx
namespace Go.Sx
open Go.RowKit (Below)
variable {H : Type} {enc : TypeId × Value → H} {P : Program}
theorem qcs {W w' : World} (s : sat [old W] w') : Below W.heap.size W w':=by
  have hio:=qqa s;have h:=fun b o h=>qra s (b:=b) (o:=o) h;refine ⟨congrArg Out.os hio,congrArg Out.tape hio,congrArg Out.output hio,?_,fun k hk=>?_⟩
  · by_cases e : W.heap.size = 0
    · omega
    · have h1 : W.heap[W.heap.size - 1]? = some (W.heap[W.heap.size - 1]'(by omega)):=Array.getElem?_eq_getElem (by omega);have h2:=h _ _ h1;have:=(Array.getElem?_eq_some_iff.1 h2).1;omega
  · have h1 : W.heap[k]? = some (W.heap[k]'hk):=Array.getElem?_eq_getElem hk;rw [h _ _ h1,h1]
abbrev LawC (P : Program) (f : Nat) (args : List SV) (W : World) : Prop:=Con P f args [] [] (old W) (fun _ : Unit=>True) (fun _=>.c .tt) (fun _=>[]) (fun _=>[])
theorem qig {f : Nat} {args : List SV} {W : World} (C : LawC P f args W) {vs : Array Value} (hv : vs = (args.map (SV.den [])).toArray) :
    Calls P f vs W fun e w'=>e = .returned (.bool true) ∧ Below W.heap.size W w':=by
  subst hv;refine (C.h W (qom W)).mono ?_;rintro e w' ⟨_,_,rfl,_,_,s⟩;exact ⟨rfl,qcs s⟩
variable {W : World} {base : Nat} {t : TypeId} {v : Value} {d : DataW H} {p : List MemPlace}
theorem qe3 {a : Option Addr} {n c : Nat} : (Value.slice a n c).cells.toList = [.slice a n c]:=rfl
theorem qk6 {s : Sh} (hf : Fits P (.slice s) t = true) (ok : Value.okWide P W .any base t v) (h : DataW.Trod enc P W 0 (fun _=>true) true t v d p) :
    ∃ a cap l,v = .slice a l.length cap ∧ (l.length ≤ cap ∧ cap ≤ maxLen ∧ (a = none → l = [])) ∧ Vals (old W) a s l:=by
  have hf':=hf;simp only [Fits] at hf'
  split at hf'
  · rename_i e hu
    obtain ⟨a,n,c,rfl⟩:=Go.WideShapes.okWide_slice hu ok;obtain ⟨fuel,h⟩:=h;obtain ⟨l,a',cap,e1,h2,h3⟩:=q4n (.slice s) hf h;rw [qe3] at e1
    injection e1 with e1
    injection e1 with e1 e2 e3
    subst e1 e2 e3;exact ⟨_,_,l,rfl,h2,⟨h3⟩⟩
  · cases hf'
theorem qp7 {k : IntKind} (hf : Fits P (.int k) t = true) (ok : Value.okWide P W .any base t v) (h : DataW.Trod enc P W 0 (fun _=>true) true t v d p) : ∃ n,v = .int k n ∧ (Lit.int k n).wf = true:=by
  simp only [Fits] at hf
  split at hf
  · rename_i k' hu
    obtain rfl:=q6n hf;obtain ⟨fuel,h⟩:=h;obtain ⟨n,e1,_,h3⟩:=DataW.trod_int hu h;simp only [Value.okWide,hu] at ok;refine ⟨n,?_,h3⟩;cases v <;> simp_all [Value.cells,Cell.okWide,Cell.ok]
  · cases hf
theorem qoe {s : Sh} (hs : ∃ a b,s = .pair a b ∨ ∃ n,s = .barr n ∨ s = .array n a) (hf : Fits P s t = true) (ok : Value.okWide P W .any base t v) (h : DataW.Trod enc P W 0 (fun _=>true) true t v d p) :
    ∃ x cs,v = .agg (List.toArray cs) ∧ Good (old W) s x cs:=by
  obtain ⟨fuel,h⟩:=h;obtain ⟨x,hx⟩:=q4n s hf h
  have : ∃ cs,v = .agg cs:=by
    obtain ⟨a,b,rfl | ⟨n,rfl | rfl⟩⟩:=hs <;> simp only [Fits] at hf <;> split at hf <;> first | cases hf | (rename_i hu;simp only [Value.okWide,hu] at ok;obtain ⟨cs,h1,_⟩:=ok;exact ⟨cs,h1⟩)
  obtain ⟨cs,rfl⟩:=this;exact ⟨x,cs.toList,by simp,hx⟩
end Go.Sx
namespace Go.Sx
theorem Cond.d {p : Prop} [Decidable p] {X Y : Prop} (h : p → X) (k : ¬ p → Y) : Cond (decide p) X Y:=⟨fun e=>h (of_decide_eq_true e),fun e=>k (of_decide_eq_false e)⟩
theorem Cond.eqI {a b : Int} {X Y : Prop} (h : a = b → X) (k : a ≠ b → Y) : Cond (a == b) X Y:=⟨fun e=>h (by simpa using e),fun e=>k (by simpa using e)⟩
theorem Cond.neI {a b : Int} {X Y : Prop} (h : a ≠ b → X) (k : a = b → Y) : Cond (a != b) X Y:=⟨fun e=>h (by simpa using e),fun e=>k (by simpa using e)⟩
theorem Cond.not {b : Bool} {X Y : Prop} (h : Cond b Y X) : Cond (!b) X Y:=⟨fun e=>h.f (by simpa using e),fun e=>h.t (by simpa using e)⟩
theorem Cond.and {a b : Bool} {X Y : Prop} (h : Cond a (Cond b X Y) Y) : Cond (a && b) X Y :=
  ⟨fun e=>by simp only [Bool.and_eq_true] at e;exact (h.t e.1).t e.2,fun e=>by cases ha : a with | false=>exact h.f ha | true=>exact (h.t ha).f (by rw [ha] at e;simpa using e)⟩
abbrev Pu (P : Program) (f : Nat) (args : List SV) (A : HP) (v : SV) : Prop:=Con P f args [] [] A (fun _ : Unit=>True) (fun _=>v) (fun _=>[]) (fun _=>[])
theorem Cq.pu {P : Program} {fn : Nat} {args args' : List SV} {B : Names} {H : List Chunk} {F : List HP} {v : SV} {f : SV → List Chunk → List HP → Prop}
    (C : Pu P fn args' (all (H.map (Chunk.p B) ++ F)) v) (hargs : args.map (SV.den B) = args'.map (SV.den [])) (h : f v H F) : Cq P fn args ⟨B,H,F⟩ f :=
  Cq.by' [] [] C hargs (by
    cases H <;> exact ⟨rfl,rfl,rfl,fun _ _=>⟨rfl,h⟩⟩)
def bs (l : List UInt8) : ByteArray:=⟨l.toArray⟩
theorem qcc (l : List UInt8) : (bs l).size = l.length:=by simp [bs,ByteArray.size]
theorem qk0 (b : ByteArray) : b.data.toList.length = b.size:=Array.length_toList
theorem qou (b : ByteArray) : ∀ (n i : Nat) (r : List UInt8),b.size - i = n → ByteArray.toList.loop b i r = r.reverse ++ b.data.toList.drop i:=by
  intro n
  induction n with
  | zero =>
    intro i r h;unfold ByteArray.toList.loop;rw [if_neg (by omega)]
    rw [List.drop_eq_nil_of_le (by have:=qk0 b
                                   omega)]
    simp
  | succ n ih =>
    intro i r h;unfold ByteArray.toList.loop;have hi : i < b.size:=by omega
    have hi' : i < b.data.toList.length:=by rw [qk0];exact hi
    rw [if_pos hi,ih (i + 1) _ (by omega),List.drop_eq_getElem_cons hi'];simp only [List.reverse_cons,List.append_assoc,List.cons_append,List.nil_append];congr 2;simp only [ByteArray.get!];rw [getElem!_pos b.data i (by rw [← Array.length_toList,qk0];exact hi)]
    simp
theorem qhd (b : ByteArray) : b.toList = b.data.toList:=by
  unfold ByteArray.toList;rw [qou b _ 0 [] rfl];simp
theorem qk5 (l : List UInt8) : (bs l).toList = l:=by rw [qhd];rfl
theorem Cond.str {a b : List UInt8} {X Y : Prop} (h : a = b → X) (k : a ≠ b → Y) : Cond ((bs a).toList == (bs b).toList) X Y:=by
  simp only [qk5];exact ⟨fun e=>h (by simpa using e),fun e=>k (by simpa using e)⟩
theorem q83 {P : Program} {src dst e : Nat} {p : Prop} {l : List UInt8} {x : SV} {k : Nat} {m : M} {f : SV → M → Prop} (hs : P.underlying src = some (.slice e)) (he : P.underlying e = some (.int .u8)) (hd : P.underlying dst = some .string)
    (hr : Src m x k (u8s l)) (hk : l.length = k) (hx : ∀ s : ByteArray,x.den m.B ≠ .string s) (h : f (.c (.str (bs l))) m) : With p (RunOb P (convert src dst (x.den m.B)) m f):=by
  refine ⟨fun _=>⟨fun km w hw=>⟨.string (bs l),w,?_,.c (.str (bs l)),m,rfl,trivial,km,hw,.inl rfl,h⟩⟩⟩
  rcases hr km w hw with ⟨q,c,e1,hc⟩ | ⟨c,e1,h0⟩ | ⟨s,e1,_⟩
  · rw [e1,run_convert_bytes_string w src dst e _ k c hs he hd];have hl:=run_loadCells_list (P:=P) w q (u8s l) hc;rw [u8l,hk] at hl;have e2 : u8s l = (l.map fun c=>(c.toNat : Int)).map (Value.int .u8):=by simp [u8s,u8]
    rw [e2] at hl;rw [run_bytesToString w q k c _ hl,foldl_push_bytes];congr 2;unfold bs;congr 1
    apply Array.ext'
    simp only [ByteArray.empty,ByteArray.emptyWithCapacity]
    simp [Function.comp_def]
    rfl
  · have : l = []:=by cases l with
      | nil=>rfl
      | cons _ _=>simp [u8s] at h0
    subst this;rw [e1,run_convert_bytes_string w src dst e _ k c hs he hd];rfl
  · exact absurd e1 (hx s)
end Go.Sx
namespace Go.Sx
structure Row {α : Type} (R : HP) (a : Option Addr) (n : Nat) (E : α → List Value → Prop) (l : List α) : Prop where
  h : ∃ css : List (List Value),Rd R a css.flatten ∧ css.length = l.length ∧ (∀ c ∈ css,c.length = n) ∧ ∀ (i : Nat) x c,l[i]? = some x → css[i]? = some c → E x c
theorem Row.ent {α : Type} {R R' : HP} {a : Option Addr} {n : Nat} {E E' : α → List Value → Prop} {l : List α} (r : Row R a n E l) (e : Ent R' R) (h : ∀ x c,E x c → E' x c) : Row R' a n E' l:=by
  obtain ⟨css,h1,h2,h3,h4⟩:=r.h;exact ⟨css,h1.ent e,h2,h3,fun i x c hx hc=>h x c (h4 i x c hx hc)⟩
theorem Vals.row {R : HP} {a : Option Addr} {e : Sh} {l : List e.T} (r : Vals R a e l) : Row R a e.size (Good R e) l:=by
  obtain ⟨css,h1,h2,h3⟩:=r.h;exact ⟨css,h1,h2,qjk h2 h3,h3⟩
theorem Row.map {α β : Type} {R : HP} {a : Option Addr} {n : Nat} {E : α → List Value → Prop} {E' : β → List Value → Prop} {l : List α} (g : α → β) (r : Row R a n E l) (h : ∀ x c,E x c → E' (g x) c) : Row R a n E' (l.map g):=by
  obtain ⟨css,h1,h2,h3,h4⟩:=r.h;refine ⟨css,h1,by simpa using h2,h3,fun i x c hx hc=>?_⟩;simp only [List.getElem?_map,Option.map_eq_some_iff] at hx;obtain ⟨y,hy,rfl⟩:=hx;exact h y c (h4 i y c hy hc)
theorem Row.at {α : Type} {R : HP} {a : Option Addr} {n : Nat} {E : α → List Value → Prop} {l : List α} (r : Row R a n E l) : ∃ xs,Rd R a xs ∧ xs.length = l.length * n ∧ ∀ i (h : i < l.length),E l[i] ((xs.drop (i * n)).take n):=by
  obtain ⟨css,h1,h2,h3,h4⟩:=r.h;refine ⟨css.flatten,h1,by rw [q1x h3,h2],fun i h=>?_⟩;have hc : css[i]? = some css[i]:=List.getElem?_eq_getElem (by omega);rw [q44 h3 hc];exact h4 i _ _ (List.getElem?_eq_getElem h) hc
structure OwnRow {α : Type} (xs : List Value) (n : Nat) (E : α → List Value → Prop) (l : List α) : Prop where
  h : ∃ css : List (List Value),xs = css.flatten ∧ css.length = l.length ∧ (∀ c ∈ css,c.length = n) ∧ ∀ (i : Nat) x c,l[i]? = some x → css[i]? = some c → E x c
theorem OwnRow.nil {α : Type} {n : Nat} {E : α → List Value → Prop} : OwnRow [] n E []:=⟨[],rfl,rfl,fun c h=>by simp at h,fun i x c h=>by simp at h⟩
theorem OwnRow.len {α : Type} {xs : List Value} {n : Nat} {E : α → List Value → Prop} {l : List α} (r : OwnRow xs n E l) : xs.length = l.length * n:=by
  obtain ⟨css,h1,h2,h3,h4⟩:=r.h;rw [h1,q1x h3,h2]
def Bts (R : HP) (a : Option Addr) (cap : Nat) (l : List UInt8) : Prop:=Rd R a (u8s l) ∧ l.length ≤ cap ∧ (a = none → l = [])
theorem q8x {a : Option Addr} {m l s : Nat} (h : cutA a m l s = none) : a = none:=by
  unfold cutA at h;split at h
  · exact h
  · simpa using h
theorem Bts.ent {R R' : HP} {a : Option Addr} {cap : Nat} {l : List UInt8} (h : Bts R a cap l) (e : Ent R' R) : Bts R' a cap l:=⟨h.1.ent e,h.2⟩
theorem q3p (l : List UInt8) (k : Nat) : u8s (l.drop k) = (u8s l).drop k:=List.map_drop
theorem q1e (l : List UInt8) (k : Nat) : u8s (l.take k) = (u8s l).take k:=List.map_take
theorem Bts.drop {R : HP} {a : Option Addr} {cap : Nat} {l : List UInt8} (h : Bts R a cap l) (k : Nat) (hk : k ≤ cap) : Bts R (cutA a cap k 1) (cap - k) (l.drop k):=by
  refine ⟨?_,by have:=h.2;simp;omega,fun e=>by simp [h.2.2 (by first | exact q8x e | exact e)]⟩;have:=h.1.cut cap k (cap - k) (by omega);rw [List.take_of_length_le (by have:=h.2;simp;omega)] at this;rw [q3p];exact this
theorem Bts.sub {R : HP} {a : Option Addr} {cap : Nat} {l : List UInt8} (h : Bts R a cap l) (k n : Nat) (hk : k + n ≤ cap) : Bts R (cutA a cap k 1) (cap - k) ((l.drop k).take n):=by
  refine ⟨?_,by have:=h.2;simp;omega,fun e=>by simp [h.2.2 (by first | exact q8x e | exact e)]⟩;have:=h.1.cut cap k n (by omega);rw [q1e,q3p];exact this
theorem Bts.take {R : HP} {a : Option Addr} {cap : Nat} {l : List UInt8} (h : Bts R a cap l) (n : Nat) : Bts R a cap (l.take n):=by
  refine ⟨?_,by have:=h.2;simp;omega,fun e=>by simp [h.2.2 (by first | exact q8x e | exact e)]⟩;intro g hg
  rcases h.1 g hg with h0 | ⟨p,e,cs,T,fz,e2,f⟩
  · left;rw [q1e,h0];simp
  · right;refine ⟨p,e,cs,T,fz,e2,fun j u hj=>f j u ?_⟩
    rw [q1e,List.getElem?_take] at hj
    split at hj
    · exact hj
    · cases hj
theorem Rd.blk {b t : Nat} {cs : Array Value} {p : Nat × Nat} {xs : List Value} {fz : Nat × Nat} (hb : p.1 = b) (h : ∀ (j : Nat) u,xs[j]? = some u → cs[p.2 + j]? = some u) : Rd (blk b (.cells cs t fz)) (some (radr p)) xs:=by
  subst hb;exact fun g hg=>.inr ⟨p,rfl,cs,t,fz,hg,h⟩
theorem qbv {B : Names} {H rH ch : List Chunk} {F rF l : List HP} (pH : H.Perm (ch ++ rH)) (pF : F.Perm (l ++ rF)) {w : World} (s : sat (M.props ⟨B,H,F⟩) w) : sat (M.props ⟨B,rH,all (ch.map (Chunk.p B) ++ l) :: rF⟩) w:=by
  have s2 : sat ((ch ++ rH).map (Chunk.p B) ++ (l ++ rF)) w:=q07 ((pH.map _).append pF) s
  have s3 : sat (all (ch.map (Chunk.p B) ++ l) :: (rH.map (Chunk.p B) ++ rF)) w:=by
    refine q14.2 (q07 ?_ s2);rw [List.map_append];simp only [List.append_assoc];refine List.Perm.append_left _ ?_;exact List.perm_append_comm_assoc _ _ _
  exact q07 List.perm_middle.symm s3
theorem Ret.grp {B : Names} {H : List Chunk} {F : List HP} {v : SV} {τ : Type} {p : τ → Prop} {val : τ → SV} {qc' : τ → List Cel} {post : τ → List HP} {A : HP} (cs fi : List Nat)
    (h : pickH cs H H fun ch rH=>pickF fi F fun l rF=>Ret B rH (all (ch.map (Chunk.p B) ++ l) :: rF) v p val qc' post A) : Ret B H F v p val qc' post A:=by
  obtain ⟨ch,rH,h1,pH⟩:=q1i h;obtain ⟨l,rF,h2,pF⟩:=q1j h1;obtain ⟨t,a,b,c,d,e⟩:=h2.h;exact ⟨t,a,b,c,d,fun w s=>e w (qbv pH pF s)⟩
theorem qbl {e size : Nat} {l : List HP} {w : World} (s : sat l w) : sat (Own none 0 e size [] :: l) w :=
  ⟨⟨fun _=>none,ioOf w⟩,hpOf w,⟨fun _=>.inl rfl⟩,⟨fun _ _ e=>by simp at e,rfl⟩,.refl _,.inl ⟨rfl,rfl,rfl⟩,s⟩
theorem Wk.own0 {env env' : Env} {B : Names} {H : List Chunk} {F : List HP} {m' : M} (e size : Nat) (h : Wk env ⟨B,H,Own none 0 e size [] :: F⟩ env' m') : Wk env ⟨B,H,F⟩ env' m' :=
  ⟨h.b,fun w km s k=>h.h w km (q07 List.perm_middle.symm (qbl s)) k⟩
theorem Ret.own0 {B : Names} {H : List Chunk} {F : List HP} {v : SV} {τ : Type} {p : τ → Prop} {val : τ → SV} {qc' : τ → List Cel} {post : τ → List HP} {A : HP} (e size : Nat)
    (h : Ret B H (Own none 0 e size [] :: F) v p val qc' post A) : Ret B H F v p val qc' post A:=by
  obtain ⟨t,a,b,c,d,k⟩:=h.h;exact ⟨t,a,b,c,d,fun w s=>k w (q07 List.perm_middle.symm (qbl s))⟩
end Go.Sx
namespace Go.Sx
theorem qcx : ∀ {H : List Chunk} {i : Nat} {f g : Chunk → List Chunk → Prop},(∀ c r,f c r → g c r) → pickH.findH H i f → pickH.findH H i g
  | [],_,_,_,_,h=>h.elim
  | c :: r,i,f,g,k,h=>by
    simp only [pickH.findH] at h ⊢
    cases e : Nat.beq c.1 i with
    | true=>rw [e] at h;exact k _ _ h
    | false=>rw [e] at h;exact qcx (fun c' r' h=>k c' _ h) h
theorem qdc : ∀ {cs : List Nat} {fuel H : List Chunk} {f g : List Chunk → List Chunk → Prop},pickH cs fuel H f → (∀ l r,f l r → g l r) → pickH cs fuel H g
  | [],_,_,_,_,h,k=>k _ _ h
  | _ :: _,[],_,_,_,h,_=>h.elim
  | _ :: _,_ :: _,_,_,_,h,k=>qcx (fun _ _ h=>qdc h fun _ _ h=>k _ _ h) h
theorem RunOb.own {P : Program} {s : Sem Value} {B : Names} {H : List Chunk} {F : List HP} {f : SV → M → Prop} (i n cap size : Nat)
    (h : pickH [i] H H fun ch rH=>∃ segs e,ch = [(i,segs,e)] ∧ (q2a segs = cap * size ∧ n ≤ cap) ∧ RunOb P s ⟨B,rH,Own (some ⟨bl B i,0,none⟩) cap e size ((dens B segs).take (n * size)) :: F⟩ f) : RunOb P s ⟨B,H,F⟩ f:=by
  obtain ⟨ch,rH,⟨segs,e,rfl,⟨hl,hn⟩,h1⟩,pH⟩:=q1i h;refine ⟨fun km w hs=>?_⟩;have kc:=(km (i,segs,e) (pH.mem_iff.2 (by simp))).2;have hlen : (dens B segs).length = cap * size:=by rw [q0y kc,hl]
  refine h1.h (fun c hc=>km c (pH.mem_iff.2 (by simp [hc]))) w ?_;have s2 : sat (((i,segs,e) :: rH).map (Chunk.p B) ++ F) w:=q07 ((pH.map _).append_right _) hs
  have s3 : sat (Own (some ⟨bl B i,0,none⟩) cap e size ((dens B segs).take (n * size)) :: (rH.map (Chunk.p B) ++ F)) w:=by
    refine q0x (fun g hg=>?_) s2;refine .inr ⟨bl B i,(dens B segs).drop (n * size),(0,0),rfl,?_,?_,fun i _ h=>by omega,?_⟩
    · rw [List.take_append_drop];exact hg
    · have:=Nat.mul_le_mul_right size hn;rw [List.length_take,List.length_drop,hlen];omega
    · rw [List.take_append_drop];exact q0q kc
  exact q07 List.perm_middle.symm s3
theorem With.own {P : Program} {q : Prop} {s : Sem Value} {B : Names} {H : List Chunk} {F : List HP} {f : SV → M → Prop} (i n cap size : Nat)
    (h : pickH [i] H H fun ch rH=>∃ segs e,ch = [(i,segs,e)] ∧ (q2a segs = cap * size ∧ n ≤ cap) ∧ With q (RunOb P s ⟨B,rH,Own (some ⟨bl B i,0,none⟩) cap e size ((dens B segs).take (n * size)) :: F⟩ f)) : With q (RunOb P s ⟨B,H,F⟩ f):=by
  refine ⟨fun hq=>RunOb.own i n cap size ?_⟩;exact qdc h fun ch rH ⟨segs,e,h1,h2,h3⟩=>⟨segs,e,h1,h2,h3.h hq⟩
end Go.Sx
namespace Go.Sx
theorem PtrOb.at {p : Nat × Nat} {m : M} {f : Nat × Nat → Prop} (h : f p) : PtrOb (some (radr p)) m f:=⟨fun _ _ _=>⟨p,rfl,h⟩⟩
def gd (l : List UInt8) (k : Nat) : Nat:=(l[k]?.getD 0).toNat
theorem gd_lt (l : List UInt8) (k : Nat) : gd l k < 256:=by unfold gd;exact UInt8.toNat_lt _
theorem gd_eq {l : List UInt8} {k : Nat} (h : k < l.length) : gd l k = l[k].toNat:=by simp [gd,h]
theorem ldb {P : Program} {t : Nat} {x : TyX} {b off : Nat} {m : M} {f : SV → Prop} {A : HP} {p : Nat × Nat} {l : List UInt8} (k : Nat) (hA : A ∈ m.F) (hr : Rd A (some (radr p)) (u8s l)) (hk : k < l.length) (hx : x.k.agg = false)
    (hb : b = p.1) (ho : off = p.2 + k) (h : f (.c (.int .u8 (gd l k : Int)))) : With (Ty P t x) (LdOb P t ⟨b,off,none⟩ m f) :=
  ld k (.int .u8 (gd l k : Int)) hx hA hr hb ho (by rw [q6w hk,gd_eq hk];rfl) trivial h
theorem idx {a : Option Addr} {m : M} {A : HP} {l : List UInt8} {j : Int} {q : Nat × Nat → Prop} (k : Nat) (hA : A ∈ m.F) (hr : Rd A a (u8s l)) (hk : k < l.length) (hj : j = k)
    (h : ∀ p,a = some (radr p) → q p) : (0 ≤ j ∧ j < l.length) ∧ PtrOb a m q :=
  ⟨by omega,PtrOb.rd hA hr (by rw [u8l];omega) h⟩
end Go.Sx
namespace Go.Sx
def by8 (n : Int) : UInt8:=UInt8.ofNat (n % 256).toNat
theorem qiv (n : Int) : u8 (by8 n) = .int .u8 (IntKind.u8.wrap n):=by
  have e : (UInt8.ofNat (n % 256).toNat).toNat = (n % 256).toNat:=by simp;omega
  have w : IntKind.u8.wrap n = n % 256:=by simp [IntKind.wrap,IntKind.bits,IntKind.signed]
  simp only [u8,by8];rw [e,w];congr 1;omega
theorem qc7 (n : Int) (l : List UInt8) : u8s (by8 n :: l) = .int .u8 (IntKind.u8.wrap n) :: u8s l:=by rw [← qiv];rfl
theorem qiy : u8s [] = []:=rfl
theorem q0n (l m : List UInt8) : u8s (l ++ m) = u8s l ++ u8s m:=List.map_append
theorem qh9 (n : Int) (h : 0 ≤ n ∧ n ≤ 255) : ((by8 n).toNat : Int) = n:=by
  have e : (UInt8.ofNat (n % 256).toNat).toNat = (n % 256).toNat:=by simp;omega
  rw [by8,e];omega
theorem q1w {P : Program} {t e ty n cap k : Nat} {x y : TyX} {a : Option Addr} {l m : List UInt8} {B : Names} {H : List Chunk} {F F' : List HP} {src : SV} {f : SV → M → Prop}
    (hF : F.Perm (Own a cap e 1 (u8s l) :: F')) (hn : n = l.length) (hk : k = m.length) (hsrc : Src ⟨B,H,F⟩ src k (u8s m)) (hy : y.size = 1 ∧ y.bytes = 1)
    (hbig : n + k ≤ 200000000000000) (ts : Nat) (hts : P.underlying ts = some .string ∨ ts = t)
    (h : ∀ a' cap',n + k ≤ cap' → (a' = none → n + k = 0) → f (.c (.rs a' (n + k) cap')) ⟨B,H,Own a' cap' e 1 (u8s (l ++ m)) :: F'⟩) :
    With (Ty P t x ∧ x.k = .slice e ∧ Ty P e y) (RunOb P (Builtin.append_ #[t,ts] ty ([SV.c (.rs a n cap),src].map (SV.den B)).toArray) ⟨B,H,F⟩ f):=by
  obtain ⟨h1,h2⟩:=hy;refine q1a (a:=a) (n:=n) (cap:=cap) (xs:=u8s l) (k:=k) (ys:=u8s m) (F':=F') (by rw [h1];exact hF) (by rw [h1,u8l];omega) (by rw [h1,u8l];omega) hsrc (q0s m) (by rw [h2];omega) (by omega) (by omega) ts hts ?_;intro a' cap' hc hn';rw [h1,← q0n];exact h a' cap' hc hn'
end Go.Sx
namespace Go.Sx
def Box {X : Type} (k : X → Prop) (Q : X → List Cel) (R : X → List HP) : HP:=fun h=>∃ x,k x ∧ seps ((Q x).map Cel.p ++ R x) h
theorem qr0 {X : Type} {k : X → Prop} {Q : X → List Cel} {R : X → List HP} (x : X) (hk : k x) {l : List HP} {h : Hp} (s : seps ((Q x).map Cel.p ++ R x ++ l) h) : seps (Box k Q R :: l) h :=
  q0x (fun _ hg=>⟨x,hk,hg⟩) (q14 (l:=(Q x).map Cel.p ++ R x).2 s)
theorem qoh {X : Type} {k : X → Prop} {Q : X → List Cel} {R : X → List HP} {l : List HP} {h : Hp} (s : seps (Box k Q R :: l) h) : ∃ x,k x ∧ seps ((Q x).map Cel.p ++ R x ++ l) h:=by
  obtain ⟨g,k',d,hg,hk',⟨x,hx,hs⟩,hl⟩:=s;exact ⟨x,hx,q14.1 ⟨g,k',d,hg,hk',hs,hl⟩⟩
theorem Con.box {P : Program} {f : Nat} {args : List SV} {A : HP} {X Y υ : Type} {k : X → Prop} {Q : X → List Cel} {R : X → List HP} {k' : υ → Y → Prop} {Q' : υ → Y → List Cel} {R' : υ → Y → List HP}
    {pre : List HP} {p : υ → Prop} {val : υ → SV} {post : υ → List HP} (hr : Runs P f)
    (C : ∀ x,k x → Con P f args (Q x) (R x ++ pre) A (fun t : Y × υ=>k' t.2 t.1 ∧ p t.2) (fun t=>val t.2) (fun t=>Q' t.2 t.1) (fun t=>R' t.2 t.1 ++ post t.2)) :
    Con P f args [] (Box k Q R :: pre) A p val (fun _=>[]) (fun u=>Box (k' u) (Q' u) (R' u) :: post u):=by
  refine ⟨hr,fun w hs=>?_⟩;obtain ⟨x,hx,s⟩:=qoh (l:=pre ++ [A]) hs;refine ((C x hx).h w (by unfold sat;simpa [List.append_assoc] using s)).mono ?_;rintro e w' ⟨⟨y,u⟩,⟨hk,hp⟩,rfl,kv,_,s'⟩;exact ⟨u,hp,rfl,kv,by simp,qr0 y hk (by unfold sat at s';simpa [List.append_assoc] using s')⟩
theorem Ret.box {B : Names} {H : List Chunk} {F : List HP} {v : SV} {τ : Type} {p : τ → Prop} {val : τ → SV} {qc' : τ → List Cel} {post : τ → List HP} {A : HP} {X : Type} {k : X → Prop} {Q : X → List Cel} {R : X → List HP} (cs fi : List Nat)
    (x : X) (hk : k x) (h : pickH cs H H fun ch rH=>pickF fi F fun l rF=>(ch.map (Chunk.p B) = (Q x).map Cel.p ∧ l = R x) ∧ Ret B rH (Box k Q R :: rF) v p val qc' post A) : Ret B H F v p val qc' post A:=by
  obtain ⟨ch,rH,h1,pH⟩:=q1i h;obtain ⟨l,rF,⟨⟨e1,rfl⟩,h2⟩,pF⟩:=q1j h1;obtain ⟨t,a,b,c,d,e⟩:=h2.h;refine ⟨t,a,b,c,d,fun w s=>e w ?_⟩;have s2:=qbv pH pF s;refine q07 List.perm_middle.symm (q0x (fun g hg=>⟨x,hk,?_⟩) (q07 List.perm_middle s2));rw [← e1];exact hg
theorem Wk.box {env env' : Env} {B : Names} {H : List Chunk} {F : List HP} {m' : M} {X : Type} {k : X → Prop} {Q : X → List Cel} {R : X → List HP} (cs fi : List Nat)
    (x : X) (hk : k x) (h : pickH cs H H fun ch rH=>pickF fi F fun l rF=>(ch.map (Chunk.p B) = (Q x).map Cel.p ∧ l = R x) ∧ Wk env ⟨B,rH,Box k Q R :: rF⟩ env' m') : Wk env ⟨B,H,F⟩ env' m':=by
  obtain ⟨ch,rH,h1,pH⟩:=q1i h;obtain ⟨l,rF,⟨⟨e1,rfl⟩,h2⟩,pF⟩:=q1j h1;refine ⟨h2.b,fun w km s k'=>h2.h w (fun c hc=>km c (pH.mem_iff.2 (by simp [hc]))) ?_ k'⟩;have s2:=qbv pH pF s;refine q07 List.perm_middle.symm (q0x (fun g hg=>⟨x,hk,?_⟩) (q07 List.perm_middle s2));rw [← e1];exact hg
theorem Cq.box {P : Program} {fn : Nat} {args : List SV} {B : Names} {H : List Chunk} {F : List HP} {f : SV → List Chunk → List HP → Prop} {X : Type} {k : X → Prop} {Q : X → List Cel} {R : X → List HP} (cs fi : List Nat)
    (x : X) (hk : k x) (h : pickH cs H H fun ch rH=>pickF fi F fun l rF=>(ch.map (Chunk.p B) = (Q x).map Cel.p ∧ l = R x) ∧ Cq P fn args ⟨B,rH,Box k Q R :: rF⟩ f) : Cq P fn args ⟨B,H,F⟩ f:=by
  obtain ⟨ch,rH,h1,pH⟩:=q1i h;obtain ⟨l,rF,⟨⟨e1,rfl⟩,h2⟩,pF⟩:=q1j h1;refine Cq.conv (H0:=rH) (F0:=Box k Q R :: rF) (g:=f) (fun km w s=>⟨fun c hc=>km c (pH.mem_iff.2 (by simp [hc])),?_⟩) (fun x H' F' w hg k s=>⟨H',F',hg,k,s⟩) h2;have s2:=qbv pH pF s;refine q07 List.perm_middle.symm (q0x (fun g hg=>⟨x,hk,?_⟩) (q07 List.perm_middle s2));rw [← e1];exact hg
theorem Ret.drop {B : Names} {H : List Chunk} {F : List HP} {v : SV} {τ : Type} {p : τ → Prop} {val : τ → SV} {qc' : τ → List Cel} {post : τ → List HP} {A : HP} (cs fi : List Nat)
    (h : pickH cs H H fun ch _=>pickF fi F fun l _=>Ret B ch l v p val qc' post A) : Ret B H F v p val qc' post A:=by
  obtain ⟨ch,rH,h1,pH⟩:=q1i h;obtain ⟨l,rF,h2,pF⟩:=q1j h1;obtain ⟨t,a,b,c,d,e⟩:=h2.h;refine ⟨t,a,b,c,d,fun w s=>e w ?_⟩;have s2 : sat ((ch ++ rH).map (Chunk.p B) ++ (l ++ rF)) w:=q07 ((pH.map _).append pF) s
  have p3 : ((ch ++ rH).map (Chunk.p B) ++ (l ++ rF)).Perm ((ch.map (Chunk.p B) ++ l) ++ (rH.map (Chunk.p B) ++ rF)):=by
    rw [List.map_append];simp only [List.append_assoc];refine List.Perm.append_left _ ?_;exact List.perm_append_comm_assoc _ _ _
  obtain ⟨g,k,d,hg,hk,h1,h2⟩:=q0o.1 (q07 p3 s2);exact q2z hg h1
theorem qpd {b t : Nat} {l : List Value} {fz : Nat × Nat} : Rd (blk b (.cells l.toArray t fz)) (some (radr (b,0))) l :=
  Rd.blk rfl fun j u h=>by
    show l.toArray[0 + j]? = some u;rw [Nat.zero_add,List.getElem?_toArray];exact h
theorem q1p {b t : Nat} {l : List Value} {fz : Nat × Nat} : Rd (blk b (.cells (l ++ []).toArray t fz)) (some (radr (b,0))) l:=by
  rw [List.append_nil];exact qpd
theorem Runs.of {P : Program} {f : Nat} {fd : Func} (h : P.funcs[f]? = some fd) (b : fd.body.isNone = false) (n : (fd.name == "runtime.NumGoroutine") = false) : Runs P f := ⟨fd, h, b, n⟩
end Go.Sx
namespace Go.Sx
theorem q8z {P : Program} {t : Nat} {x : TyX} {b off j cap e size : Nat} {p : Nat × Nat} {xs ys : List Value} {v : SV} {B : Names} {H : List Chunk} {F F' : List HP} {f : M → Prop}
    (hF : F.Perm (Own (some (radr p)) cap e size xs :: F')) (hb : b = p.1) (ho : off = p.2 + j) (hv : (v.den B).cells.toList = ys) (hl : ys.length = x.size) (h1 : ∀ u ∈ ys,u.oneCell' = true) (hfit : j + x.size ≤ xs.length)
    (h : f ⟨B,H,Own (some (radr p)) cap e size (xs.take j ++ (ys ++ xs.drop (j + x.size))) :: F'⟩) :
    With (Ty P t x) (RunOb P (do storeVar t ⟨b,off,none⟩ (v.den B);pure undef) ⟨B,H,F⟩ fun _ m'=>f m'):=by
  refine ⟨fun T=>⟨fun km w hs=>?_⟩⟩;have hs2 : sat (Own (some (radr p)) cap e size xs :: (H.map (Chunk.p B) ++ F')) w:=q07 ((List.Perm.append_left _ hF).trans List.perm_middle) hs
  rcases q4d hs2 with ⟨h0,_,_⟩ | ⟨b0,junk,fz,ha,hb0,hlen,hf,hone,hs3⟩
  · cases h0
  · have e0 : p = (b0,0):=by
      have : radr p = ⟨b0,0,none⟩:=Option.some.inj ha;cases p;simp only [radr,Addr.mk.injEq,and_true] at this;simp [this.1,this.2]
    subst e0;have hb' : b = b0:=hb;have ho' : off = 0 + j:=ho;rw [hb',ho'];have hsz : (v.den B).cells.size = x.size:=by rw [← Array.length_toList,hv,hl]
    have hst:=q0w (P:=P) hf ys (0 + j) 0 (xs ++ junk) w hb0 (by simpa using hlen) (by omega) h1
    have hrun : (storeVar t ⟨b0,0 + j,none⟩ (v.den B)).run P w = .ok () (w.setRow b0 ((xs ++ junk).take (0 + j + 0) ++ (ys ++ (xs ++ junk).drop (0 + j + 0 + ys.length))).toArray):=by
      simp only [storeVar,Sem.run_bind,T.run_sizeOf w,Result.andThen_ok,hsz]
      simpa [hv] using hst
    have e1 : (xs ++ junk).take (0 + j + 0) ++ (ys ++ (xs ++ junk).drop (0 + j + 0 + ys.length)) = (xs.take j ++ (ys ++ xs.drop (j + x.size))) ++ junk:=by
      have a1 : 0 + j + 0 = j:=by omega
      rw [a1,hl,List.take_append_of_le_length (by omega),List.drop_append_of_le_length (by omega)]
      simp
    rw [e1] at hrun;have hw:=q2y (cs':=((xs.take j ++ (ys ++ xs.drop (j + x.size))) ++ junk).toArray) hb0;refine ⟨undef,w.setRow b0 ((xs.take j ++ (ys ++ xs.drop (j + x.size))) ++ junk).toArray,?_,.tup [],⟨B,H,Own (some (radr (b0,0))) cap e size (xs.take j ++ (ys ++ xs.drop (j + x.size))) :: F'⟩,rfl,by intro s hs;simp at hs,km,?_,.inl rfl,h⟩
    · simp only [Sem.run_bind,hrun,Result.andThen_ok,Sem.run_pure]
    · refine q07 List.perm_middle.symm (q0x (fun g hg=>.inr ⟨b0,junk,fz,rfl,hg,?_,hf,?_⟩) (q36 hs3 hw.1 hw.2))
      · simp only [List.length_append,List.length_take,List.length_drop] at *;omega
      · intro u hu;simp only [List.mem_append] at hu hone
        rcases hu with (hu | hu | hu) | hu
        · exact hone u (.inl (List.mem_of_mem_take hu))
        · exact h1 u hu
        · exact hone u (.inl (List.mem_of_mem_drop hu))
        · exact hone u (.inr hu)
theorem qhq {P : Program} {t : Nat} {x : TyX} {b off cap e : Nat} {p : Nat × Nat} {l : List UInt8} {n : Int} {B : Names} {H : List Chunk} {F F' : List HP} {f : M → Prop} (j : Nat) (c : UInt8)
    (hF : F.Perm (Own (some (radr p)) cap e 1 (u8s l) :: F')) (hx : x.size = 1) (hb : b = p.1) (ho : off = p.2 + j) (hn : n = (c.toNat : Int)) (hj : j < l.length)
    (h : f ⟨B,H,Own (some (radr p)) cap e 1 (u8s (l.set j c)) :: F'⟩) :
    With (Ty P t x) (RunOb P (do storeVar t ⟨b,off,none⟩ (SV.den B (.c (.int .u8 n)));pure undef) ⟨B,H,F⟩ fun _ m'=>f m'):=by
  refine q8z (ys:=[u8 c]) hF hb ho (by rw [hn];rfl) (by rw [hx];rfl) (by simp [u8,Value.oneCell']) (by rw [u8l];omega) ?_
  have e : (u8s l).take j ++ ([u8 c] ++ (u8s l).drop (j + x.size)) = u8s (l.set j c):=by
    rw [hx,List.set_eq_take_append_cons_drop,if_pos hj]
    simp [u8s]
  rw [e];exact h
theorem qg3 (n : Int) : ((by8 n).toNat : Int) = IntKind.u8.wrap n:=by
  have:=qiv n;simp only [u8,Value.int.injEq,true_and] at this;exact this
theorem qgc {w : World} {o : Obj} {i : Nat} (h : i < w.heap.size) : (w.alloc o).heap[i]? = w.heap[i]?:=heap_alloc_old _ _ _ h
theorem qfk {w : World} {o : Obj} : (w.alloc o).heap[w.heap.size]? = some o:=heap_alloc_new _ _
theorem kk {p : Prop} (h : p:=by repeat' (first | exact trivial | rfl | apply And.intro)) : p:=h
theorem mm {α : Type} {a : α} {l : List α} (h : a ∈ l:=by first | (simp;done) | (simp [M.props];done) | (simp [M.props];first | (left;rfl) | (right;left;rfl) | (right;right;left;rfl) | (right;right;right;left;rfl) | (right;right;right;right;left;rfl)) | exact (.head _ : List.Mem _ _) | exact (.tail _ (.head _) : List.Mem _ _) | exact (.tail _ (.tail _ (.head _)) : List.Mem _ _) | exact (.tail _ (.tail _ (.tail _ (.head _))) : List.Mem _ _) | exact (.tail _ (.tail _ (.tail _ (.tail _ (.head _)))) : List.Mem _ _) | exact (.tail _ (.tail _ (.tail _ (.tail _ (.tail _ (.head _))))) : List.Mem _ _) | exact (.tail _ (.tail _ (.tail _ (.tail _ (.tail _ (.tail _ (.head _)))))) : List.Mem _ _) | exact (.tail _ (.tail _ (.tail _ (.tail _ (.tail _ (.tail _ (.tail _ (.head _))))))) : List.Mem _ _) | exact (.tail _ (.tail _ (.tail _ (.tail _ (.tail _ (.tail _ (.tail _ (.tail _ (.head _)))))))) : List.Mem _ _)) : a ∈ l:=h
end Go.Sx
