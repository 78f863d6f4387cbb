import Derived.Test.YtfehjfoajlfhfaaGreatDoorWb
import Derived.DeepKeys
import Derived.MapKept
import Derived.Maps.RangeRun
import Derived.Test.YtfehjfoajlfhfaaGreatDoorProg
import Derived.KernelRfl
/- The walker's third part: equality of structs and arrays, copies. No program in it. -/
/- Equality of values that are made of numbers, bools, strings, structs, arrays: by their shapes. No program in it. -/
namespace Go.Sx
def Sh.cmp : Sh → Bool
  | .int _ | .bool | .str | .unit | .barr _=>true
  | .pair a b=>a.cmp && b.cmp
  | .array _ e=>e.cmp
  | .bytes | .slice _=>false
def Sh.lits : (s : Sh) → s.T → List Lit
  | .int k,n=>[.int k n]
  | .bool,b=>[.bool b]
  | .str,s=>[.string s.data.toList]
  | .unit,_=>[]
  | .pair a b,x=>a.lits x.1 ++ b.lits x.2
  | .barr _,l=>(l : List UInt8).map fun c=>.int .u8 c.toNat
  | .array _ e,l=>(l : List e.T).flatMap e.lits
  | .bytes,_=>[]
  | .slice _,_=>[]
def Sh.deep : Sh → Nat
  | .pair a b=>max (a.deep + 1) b.deep
  | .array _ e=>e.deep + 1
  | .barr _=>1
  | _=>0
theorem q9u {α β : Type} (g : α → β) : ∀ l : List α,(l.map fun c=>[g c]).flatten = l.map g
  | []=>rfl
  | c :: r=>by simp [q9u g r]
theorem q8n {β : Type} {f : Nat → Option β} : ∀ (l : List β) (k : Nat),(∀ i (hi : i < l.length),f (k + i) = some l[i]) → (List.range' k l.length).mapM f = some l
  | [],_,_=>rfl
  | x :: r,k,h=>by
    rw [List.length_cons,List.range'_succ,List.mapM_cons];have h0:=h 0 (by simp);simp only [Nat.add_zero,List.getElem_cons_zero] at h0
    rw [h0,q8n r (k + 1) fun i hi=>by
      have:=h (i + 1) (by simpa using hi);rw [show k + 1 + i = k + (i + 1) by omega,this];simp]
    rfl
theorem qa6 {β : Type} {f : Nat → Option β} {n : Nat} {l : List β} (hl : l.length = n) (h : ∀ i (hi : i < l.length),f i = some l[i]) : (List.range n).mapM f = some l:=by
  subst hl;rw [List.range_eq_range'];exact q8n l 0 fun i hi=>by rw [Nat.zero_add];exact h i hi
section
variable {P : Program} {R : HP}
mutual
theorem q6a : ∀ (s : Sh) {t D m : Nat} {v : s.T} {cs : List Value},s.cmp = true → Fits P s t = true → P.keyTypeAt m t = true → Good R s v cs → s.deep < D → P.keyLits D t cs = some (s.lits v)
  | _,_,0,_,_,_,_,_,_,_,h=>absurd h (by omega)
  | .int k,t,D + 1,m,v,cs,_,hf,_,hg,_=>by
    simp only [Fits] at hf
    split at hf
    · rename_i k' hu
      obtain rfl:=q6n hf;obtain ⟨rfl,hw⟩:=hg
      simp [Program.keyLits,hu,hw,Sh.lits]
    · cases hf
  | .bool,t,D + 1,m,v,cs,_,hf,_,hg,_=>by
    simp only [Fits] at hf
    split at hf
    · rename_i hu
      have hg : cs = [.bool v]:=hg;subst hg
      simp [Program.keyLits,hu,Sh.lits]
    · cases hf
  | .str,t,D + 1,m,v,cs,_,hf,_,hg,_=>by
    simp only [Fits] at hf
    split at hf
    · rename_i hu
      obtain ⟨rfl,hw⟩:=hg
      simp [Program.keyLits,hu,hw,Sh.lits]
    · cases hf
  | .unit,t,D + 1,m,v,cs,_,hf,_,hg,_=>by
    simp only [Fits] at hf
    split at hf
    · rename_i fs hu
      simp only [Bool.and_eq_true,beq_iff_eq] at hf;have hg : cs = []:=hg;subst hg;have : fs = #[]:=Array.eq_empty_of_size_eq_zero hf.1;subst this
      simp [Program.keyLits,hu,hf.2,Sh.lits]
    · cases hf
  | .pair a b,t,D + 1,m,v,cs,hc,hf,hk,hg,hd=>by
    have hl:=Good.length hg;simp only [Fits] at hf
    split at hf
    · rename_i fs hu
      simp only [Bool.and_eq_true,beq_iff_eq] at hf
      cases m with
      | zero=>simp [Program.keyTypeAt] at hk
      | succ m =>
        simp only [Program.keyTypeAt,hu,Bool.and_eq_true] at hk
        have hall : ∀ f ∈ fs.toList, f.name ≠ "_" ∧ P.keyTypeAt m f.type = true := by
          intro f hfm;have:=(Array.all_eq_true_iff_forall_mem.1 hk.1.1) f (by simpa using hfm)
          simpa using this
        obtain ⟨L,h1,h2⟩:=qhb (.pair a b) (D:=D) (cs:=cs) hc hf.1 hg (fun f h=>(hall f h).2) hd (by simp only [Sh.size] at hl ⊢;omega) (by rw [List.drop_zero,List.take_of_length_le (by omega)])
        have hn : fs.all (fun f => f.name != "_") = true := by
          rw [Array.all_eq_true_iff_forall_mem];intro f hfm
          simpa using (hall f (by simpa using hfm)).1
        have hlen : cs.length = P.cellsOf t:=by rw [hl,hf.2];rfl
        unfold Program.keyLits;simp only [hu];rw [if_pos ⟨hlen,hn⟩,h1]
        simp [h2]
    · cases hf
  | .barr n,t,D + 1,m,v,cs,hc,hf,hk,hg,hd=>by
    simp only [Fits] at hf
    split at hf
    · rename_i n' e hu
      simp only [Bool.and_eq_true,beq_iff_eq] at hf;obtain ⟨⟨⟨rfl,h1⟩,h2⟩,h3⟩:=hf
      split at h1
      · rename_i k' hu'
        obtain rfl:=q6n h1;obtain ⟨hl,rfl⟩:=hg;have hl : (v : List UInt8).length = n':=hl;have hlen : (u8s v).length = P.cellsOf t:=by rw [u8l,hl,h3]
        cases D with
        | zero=>simp [Sh.deep] at hd
        | succ D =>
          unfold Program.keyLits;simp only [hu];rw [if_pos hlen,qa6 (l:=(v : List UInt8).map fun c=>[Lit.int .u8 c.toNat]) (by simpa using hl)]
          · simp only [Sh.lits,Option.map_some];rw [q9u]
          · intro i hi;simp only [List.length_map] at hi
            have e1 : ((u8s v).drop (i * P.cellsOf e)).take (P.cellsOf e) = [u8 (v : List UInt8)[i]]:=by
              rw [h2,Nat.mul_one,List.take_one,List.head?_drop,q6w hi];rfl
            rw [e1]
            have hw : (Lit.int .u8 ((v : List UInt8)[i].toNat : Int)).wf = true:=by
              have:=u8_lt (v : List UInt8)[i]
              simp [Lit.wf,IntKind.min,IntKind.max,IntKind.signed,IntKind.bits];omega
            simp [Program.keyLits,hu',u8,hw]
      · cases h1
    · cases hf
  | .array n s,t,D + 1,m,v,cs,hc,hf,hk,hg,hd=>by
    have hl:=Good.length hg;simp only [Fits] at hf
    split at hf
    · rename_i n' e hu
      simp only [Bool.and_eq_true,beq_iff_eq] at hf;obtain ⟨⟨⟨rfl,h1⟩,h2⟩,h3⟩:=hf
      cases m with
      | zero=>simp [Program.keyTypeAt] at hk
      | succ m =>
        simp only [Program.keyTypeAt,hu] at hk;obtain ⟨hn,css,rfl,hcl,hgood⟩:=hg;have hn : (v : List s.T).length = _:=hn;have hlen : css.flatten.length = P.cellsOf t:=by rw [hl,h3];rfl
        have hcs : ∀ c ∈ css,c.length = s.size:=by
          intro c hc;obtain ⟨i,hi⟩:=List.getElem?_of_mem hc;have hlt:=(List.getElem?_eq_some_iff.1 hi).1;exact Good.length (hgood i _ c (List.getElem?_eq_getElem (by omega)) hi)
        unfold Program.keyLits;simp only [hu];rw [if_pos hlen,qa6 (l:=(v : List s.T).map s.lits) (by simpa using hn)]
        · simp [Sh.lits,List.flatMap]
        · intro i hi;simp only [List.length_map] at hi;have hci : css[i]? = some css[i]:=List.getElem?_eq_getElem (by omega);rw [h2,q44 hcs hci];have:=q6a s (D:=D) hc h1 hk (hgood i _ _ (List.getElem?_eq_getElem hi) hci) (by simp only [Sh.deep] at hd;omega);rw [this];simp
    · cases hf
  | .bytes,_,_ + 1,_,_,_,hc,_,_,_,_=>by simp [Sh.cmp] at hc
  | .slice _,_,_ + 1,_,_,_,hc,_,_,_,_=>by simp [Sh.cmp] at hc
theorem qhb : ∀ (s : Sh) {fs : List Field} {off D m : Nat} {v : s.T} {cs cs' : List Value},s.cmp = true → q26 P s fs off = true → Good R s v cs' → (∀ f ∈ fs,P.keyTypeAt m f.type = true) → s.deep < D + 1 →
    off + s.size ≤ cs.length → (cs.drop off).take s.size = cs' → ∃ L,fs.mapM (fun f=>P.keyLits D f.type ((cs.drop f.offset).take (P.cellsOf f.type))) = some L ∧ L.flatten = s.lits v
  | .unit,fs,off,D,m,v,cs,cs',_,hf,_,_,_,_,_=>by
    simp only [q26,List.isEmpty_iff] at hf;subst hf;exact ⟨[],rfl,rfl⟩
  | .pair a b,[],off,D,m,v,cs,cs',_,hf,_,_,_,_,_=>by simp [q26] at hf
  | .pair a b,f :: fs,off,D,m,v,cs,cs',hc,hf,hg,hk,hd,hl,he=>by
    simp only [q26,Bool.and_eq_true,beq_iff_eq] at hf;obtain ⟨⟨⟨rfl,h1⟩,h2⟩,h3⟩:=hf;simp only [Sh.cmp,Bool.and_eq_true] at hc;obtain ⟨x,y⟩:=v;obtain ⟨c1,c2,rfl,g1,g2⟩:=hg;have l1:=Good.length g1;have l2:=Good.length g2;simp only [Sh.size] at hl he;simp only [Sh.deep] at hd
    have e1 : (cs.drop f.offset).take a.size = c1:=by
      have:=congrArg (List.take a.size) he;rw [List.take_take,Nat.min_eq_left (by omega),← l1,List.take_left] at this;rw [← l1];exact this
    have e2 : (cs.drop (f.offset + a.size)).take b.size = c2:=by
      have:=congrArg (List.drop a.size) he;rw [List.drop_take,List.drop_drop,← l1,List.drop_left,show c1.length + b.size - c1.length = b.size by omega] at this;rw [← l1];exact this
    have k1:=q6a a (D:=D) hc.1 h1 (hk f (by simp)) g1 (by omega);obtain ⟨L,m1,m2⟩:=qhb b (D:=D) hc.2 h3 g2 (fun g hg=>hk g (by simp [hg])) (by omega) (by omega) e2;refine ⟨a.lits x :: L,?_,?_⟩
    · rw [List.mapM_cons,h2,e1,k1,m1];rfl
    · simp [Sh.lits,m2]
  | .int _,_,_,_,_,_,_,_,_,hf,_,_,_,_,_=>by simp [q26] at hf
  | .bool,_,_,_,_,_,_,_,_,hf,_,_,_,_,_=>by simp [q26] at hf
  | .str,_,_,_,_,_,_,_,_,hf,_,_,_,_,_=>by simp [q26] at hf
  | .bytes,_,_,_,_,_,_,_,_,hf,_,_,_,_,_=>by simp [q26] at hf
  | .slice _,_,_,_,_,_,_,_,_,hf,_,_,_,_,_=>by simp [q26] at hf
  | .barr _,_,_,_,_,_,_,_,_,hf,_,_,_,_,_=>by simp [q26] at hf
  | .array _ _,_,_,_,_,_,_,_,_,hf,_,_,_,_,_=>by simp [q26] at hf
end
theorem q7r : ∀ (s : Sh) {v v' : s.T} {cs cs' : List Value} {R' : HP},s.cmp = true → Good R s v cs → Good R' s v' cs' → s.lits v = s.lits v' → v = v'
  | .int k,v,v',_,_,_,_,_,_,h=>by simp only [Sh.lits] at h;injection h with h _;injection h
  | .bool,v,v',_,_,_,_,_,_,h=>by simp only [Sh.lits] at h;injection h with h _;injection h
  | .str,v,v',_,_,_,_,_,_,h=>by
    simp only [Sh.lits] at h
    injection h with h _
    injection h with h
    exact ByteArray.ext (Array.toList_inj.1 h)
  | .unit,_,_,_,_,_,_,_,_,_=>rfl
  | .pair a b,(x,y),(x',y'),_,_,_,hc,⟨_,_,_,g1,g2⟩,⟨_,_,_,g1',g2'⟩,h=>by
    simp only [Sh.cmp,Bool.and_eq_true] at hc;simp only [Sh.lits] at h;have hl : (a.lits x).length = (a.lits x').length:=lits_len a hc.1 g1 g1';obtain ⟨h1,h2⟩:=List.append_inj h hl;rw [q7r a hc.1 g1 g1' h1,q7r b hc.2 g2 g2' h2]
  | .barr n,v,v',_,_,_,_,_,_,h=>by
    simp only [Sh.lits] at h
    have : ∀ (l m : List UInt8),(l.map fun c=>Lit.int .u8 (c.toNat : Int)) = (m.map fun c=>Lit.int .u8 (c.toNat : Int)) → l = m:=by
      intro l
      induction l with
      | nil=>intro m h;cases m with
        | nil=>rfl
        | cons _ _=>simp at h
      | cons c r ih=>intro m h;cases m with
        | nil=>simp at h
        | cons d s =>
          simp only [List.map_cons,List.cons.injEq,Lit.int.injEq,true_and] at h;have e : c = d:=UInt8.toNat_inj.1 (by omega);rw [e,ih s h.2]
    exact this _ _ h
  | .array n s,v,v',_,_,R',hc,⟨hn,css,_,hcl,hg⟩,⟨hn',css',_,hcl',hg'⟩,h=>by
    simp only [Sh.cmp] at hc;simp only [Sh.lits] at h
    have key : ∀ (l l' : List s.T) (css css' : List (List Value)),css.length = l.length → css'.length = l'.length → l.length = l'.length → (∀ (i : Nat) x c,l[i]? = some x → css[i]? = some c → Good R s x c) →
        (∀ (i : Nat) x c,l'[i]? = some x → css'[i]? = some c → Good R' s x c) → l.flatMap s.lits = l'.flatMap s.lits → l = l':=by
      intro l
      induction l with
      | nil=>intro l' _ _ _ _ hl _ _ _;cases l' with
        | nil=>rfl
        | cons _ _=>simp at hl
      | cons x r ih =>
        intro l' css css' h1 h2 hl k1 k2 h
        cases l' with
        | nil=>simp at hl
        | cons x' r' =>
          cases css with
          | nil=>simp at h1
          | cons c css =>
            cases css' with
            | nil=>simp at h2
            | cons c' css' =>
              have g1:=k1 0 x c rfl rfl;have g2:=k2 0 x' c' rfl rfl;simp only [List.flatMap_cons] at h;obtain ⟨e1,e2⟩:=List.append_inj h (lits_len s hc g1 g2);rw [q7r s hc g1 g2 e1,ih r' css css' (by simpa using h1) (by simpa using h2) (by simpa using hl) (fun i x c hx hc=>k1 (i + 1) x c (by simpa using hx) (by simpa using hc)) (fun i x c hx hc=>k2 (i + 1) x c (by simpa using hx) (by simpa using hc)) e2]
    exact key v v' css css' hcl hcl' (hn.trans hn'.symm) hg hg' h
  | .bytes,_,_,_,_,_,hc,_,_,_=>by simp [Sh.cmp] at hc
  | .slice _,_,_,_,_,_,hc,_,_,_=>by simp [Sh.cmp] at hc
where
  lits_len : ∀ (s : Sh) {v v' : s.T} {cs cs' : List Value} {R' : HP},s.cmp = true → Good R s v cs → Good R' s v' cs' → (s.lits v).length = (s.lits v').length
  | .int _,_,_,_,_,_,_,_,_=>rfl
  | .bool,_,_,_,_,_,_,_,_=>rfl
  | .str,_,_,_,_,_,_,_,_=>rfl
  | .unit,_,_,_,_,_,_,_,_=>rfl
  | .pair a b,(x,y),(x',y'),_,_,_,hc,⟨_,_,_,g1,g2⟩,⟨_,_,_,g1',g2'⟩=>by
    simp only [Sh.cmp,Bool.and_eq_true] at hc;simp only [Sh.lits,List.length_append,lits_len a hc.1 g1 g1',lits_len b hc.2 g2 g2']
  | .barr n,v,v',_,_,_,_,⟨h,_⟩,⟨h',_⟩=>by
    simp only [Sh.lits,List.length_map];exact h.trans h'.symm
  | .array n s,v,v',_,_,R',hc,⟨hn,css,_,hcl,hg⟩,⟨hn',css',_,hcl',hg'⟩=>by
    simp only [Sh.cmp] at hc;simp only [Sh.lits]
    have key : ∀ (l l' : List s.T) (css css' : List (List Value)),css.length = l.length → css'.length = l'.length → l.length = l'.length → (∀ (i : Nat) x c,l[i]? = some x → css[i]? = some c → Good R s x c) →
        (∀ (i : Nat) x c,l'[i]? = some x → css'[i]? = some c → Good R' s x c) → (l.flatMap s.lits).length = (l'.flatMap s.lits).length:=by
      intro l
      induction l with
      | nil=>intro l' _ _ _ _ hl _ _;cases l' with
        | nil=>rfl
        | cons _ _=>simp at hl
      | cons x r ih =>
        intro l' css css' h1 h2 hl k1 k2
        cases l' with
        | nil=>simp at hl
        | cons x' r' =>
          cases css with
          | nil=>simp at h1
          | cons c css =>
            cases css' with
            | nil=>simp at h2
            | cons c' css' =>
              simp only [List.flatMap_cons,List.length_append];rw [lits_len s hc (k1 0 x c rfl rfl) (k2 0 x' c' rfl rfl),ih r' css css' (by simpa using h1) (by simpa using h2) (by simpa using hl) (fun i x c hx hc=>k1 (i + 1) x c (by simpa using hx) (by simpa using hc)) (fun i x c hx hc=>k2 (i + 1) x c (by simpa using hx) (by simpa using hc))]
    exact key v v' css css' hcl hcl' (hn.trans hn'.symm) hg hg'
  | .bytes,_,_,_,_,_,hc,_,_=>by simp [Sh.cmp] at hc
  | .slice _,_,_,_,_,_,hc,_,_=>by simp [Sh.cmp] at hc
theorem qfo {t m : Nat} {s : Sh} {v v' : s.T} {cs cs' : List Value} {R R' : HP} {f : Bool → Prop} (hs : ∃ a b,s = .pair a b ∨ ∃ n,s = .barr n ∨ s = .array n a) (hc : s.cmp = true) (hf : Fits P s t = true) (hk : P.keyTypeAt m t = true) (hm : m ≤ 10000)
    (hq : P.eqGuardType P.depth t = false) (g : Good R s v cs) (g' : Good R' s v' cs') (h : ∀ b : Bool,(b = true ↔ v = v') → f b) : EqAgg P t cs cs' f:=by
  have l1:=q6a s (D:=s.deep + 1) hc hf hk g (by omega);have l2:=q6a s (D:=s.deep + 1) hc hf hk g' (by omega)
  have formed : ∀ {v : s.T} {cs : List Value} {R : HP},Good R s v cs → (Value.agg cs.toArray).formed P t = true:=by
    intro v cs R g;have hl:=Good.length g;obtain ⟨a,b,rfl | ⟨n,rfl | rfl⟩⟩:=hs <;> simp only [Fits] at hf <;> split at hf <;> first | cases hf | (rename_i hu;simp only [Bool.and_eq_true,beq_iff_eq] at hf;simp only [Value.formed,hu,List.size_toArray,hl];simp [Sh.size,hf])
  refine ⟨⟨@decide (s.lits v = s.lits v') (Classical.propDecidable _),fun w=>?_,h _ ?_⟩⟩
  · obtain ⟨r,hr,hiff⟩:=run_equalIn_deep (10000 - m) m t hk w (s.deep + 1) (s.deep + 1) (.agg cs.toArray) (.agg cs'.toArray) (s.lits v) (s.lits v') (formed g) (formed g') (by simpa [Value.cells] using l1) (by simpa [Value.cells] using l2);rw [show 10000 - m + m = 10000 by omega] at hr
    have e : r = @decide (s.lits v = s.lits v') (Classical.propDecidable _):=by
      cases r with
      | true=>exact (@decide_eq_true _ (Classical.propDecidable _) (hiff.1 rfl)).symm
      | false=>exact (@decide_eq_false _ (Classical.propDecidable _) (fun e=>by cases hiff.2 e)).symm
    rw [← e]
    have hg : (eqGuard .eql t (.tmp 0) (.tmp 0) (.agg cs.toArray) (.agg cs'.toArray)).run P w = .ok () w:=by
      simp [eqGuard,hq]
    simp only [Sem.run_bind,hg,Result.andThen_ok];exact hr
  · exact ⟨fun e=>q7r s hc g g' (@of_decide_eq_true _ (Classical.propDecidable _) e),fun e=>@decide_eq_true _ (Classical.propDecidable _) (by rw [e])⟩
end
end Go.Sx
namespace Go.Sx
theorem qlb {P : Program} {t e ty i off len cap k ts : Nat} {x y : TyX} {ys : List Value} {B : Names} {H : List Chunk} {F : List HP} {src : SV} {f : SV → M → Prop}
    (hsrc : Src ⟨B,H,F⟩ src k ys) (hys : ys.length = k * y.size) (h1 : ∀ v ∈ ys,v.oneCell' = true) (hk : k ≤ len)
    (h : atH H i fun segs _ put=>putV segs off (k * y.size) [.many (k * y.size) ys] fun segs'=>put segs' fun H'=>f (.c (.int .i64 k)) ⟨B,H',F⟩) :
    With (Ty P t x ∧ x.k = .slice e ∧ Ty P e y) (RunOb P (Builtin.copy_ #[t,ts] ty ([SV.c (.slc i off len cap),src].map (SV.den B)).toArray) ⟨B,H,F⟩ f):=by
  refine ⟨fun ⟨T,hk',E⟩=>⟨fun km w hs=>?_⟩⟩;have hu:=q21 T hk';have s1:=hsrc.run (P:=P) km hs rfl hys;obtain ⟨H1,s,t',H2,put,rfl,h,hput⟩:=q2f h;have ks:=(km (i,s,t') (by simp)).2;obtain ⟨l,h,kl,hfit,hl⟩:=q6j ks (by intro s' hs';simp at hs';subst hs';exact ⟨hys,h1⟩) h;have hw:=q60 (s':=l) hs km kl;have hb:=q2c hs;have hst:=run_storeCells_at P (bl B i) off t' ys 0 _ w hb (by simpa [hys] using hfit) h1;have el : dens B [.many (k * y.size) ys] = ys:=by simp [dens,Seg.den]
  rw [el] at hl;refine ⟨.int .i64 k,w.setRow (bl B i) (dens B l).toArray,?_,.c (.int .i64 k),⟨B,H1 ++ (i,l,t') :: H2,F⟩,rfl,trivial,hw.2,hw.1,.inl rfl,hput _ _ h⟩;show (Builtin.copy_ #[t,ts] ty #[.slice (some ⟨bl B i,off,none⟩) len cap,src.den B]).run P w = _;have hund : (underlying t).run P w = .ok (.slice e) w:=run_underlying hu w;have hmin : Nat.min k len = k:=Nat.min_eq_left hk;have s1 : (Builtin.lenOf (src.den B)).run P w = .ok k w ∧ (Builtin.firstCells y.size k (src.den B)).run P w = .ok ys.toArray w:=s1;simp only [Nat.add_zero,hys] at hst
  simp [Builtin.copy_,hund,s1.1,hmin,E.run_sizeOf w,s1.2,hst,hl,goInt]
end Go.Sx
namespace Go.Sx
theorem rd_at {b t : Nat} {p l r : List Value} {fz : Nat × Nat} {n : Nat} (hn : p.length = n) : Rd (blk b (.cells (p ++ (l ++ r)).toArray t fz)) (some (radr (b,n))) l :=
  Rd.blk rfl fun j u h=>by
    show (p ++ (l ++ r)).toArray[n + j]? = some u;have hj:=(List.getElem?_eq_some_iff.1 h).1;rw [List.getElem?_toArray,List.getElem?_append_right (by omega),show n + j - p.length = j by omega,List.getElem?_append_left hj];exact h
end Go.Sx
namespace Go.Sx
theorem q0v {B : Names} {l : List UInt8} {j : Nat} {f : SC → Prop} (k : Nat) (hj : j = k) (hk : k < l.length) (h : f (.int .u8 (gd l k))) : Elem B (u8s l) j f :=
  ⟨⟨.int .u8 (gd l k),by subst hj;rw [q6w hk,gd_eq hk];rfl,trivial,h⟩⟩
def fillL (l : List UInt8) (n i : Nat) : List Value:=u8s (l.take i) ++ List.replicate (n - i) (.int .u8 0)
theorem qjt {l : List UInt8} {n i : Nat} (h : i ≤ l.length) (hi : i ≤ n) : (fillL l n i).length = n:=by simp [fillL,u8l];omega
theorem q2g {l : List UInt8} {n i : Nat} (h : i ≤ l.length) (hi : i ≤ n) : ∀ B,Seg.ok B (.many n (fillL l n i)):=fun _=>⟨qjt h hi,fun v hv=>by
  rcases List.mem_append.1 hv with hv | hv
  · exact q0s _ v hv
  · simp at hv;rw [hv.2];rfl⟩
theorem q3g {l : List UInt8} {n i : Nat} (h : i < l.length) (hi : i < n) (v : Value) (hv : v = u8 l[i]) : (fillL l n i).take i ++ ([v] ++ (fillL l n i).drop (i + 1)) = fillL l n (i + 1):=by
  have e1 : (u8s (l.take i)).length = i:=by rw [u8l,List.length_take];omega
  have e2 : l.take (i + 1) = l.take i ++ [l[i]]:=List.take_succ_eq_append_getElem h;obtain ⟨k,hk⟩ : ∃ k,n - i = k + 1:=⟨n - i - 1,by omega⟩;have hk' : n - (i + 1) = k:=by omega
  have e3 : u8s [l[i]] = [v]:=by rw [hv];rfl
  unfold fillL;rw [hk,hk',e2,q0n,e3,List.replicate_succ];clear e3 e2 hv;generalize u8s (l.take i) = L at e1 ⊢;clear hk hk' hi h;subst e1
  simp [List.drop_append]
theorem q9m {l : List UInt8} {n : Nat} (h : l.length = n) : fillL l n n = u8s l:=by simp [fillL,← h]
theorem qa1 {l : List UInt8} {n : Nat} : fillL l n 0 = List.replicate n (.int .u8 0):=by simp [fillL,u8s]
end Go.Sx
namespace Go.Sx
def w32 (x : UInt32) : Value:=.int .u32 (x.toNat : Int)
def w32s (l : List UInt32) : List Value:=l.map w32
theorem q1b (l : List UInt32) : (w32s l).length = l.length:=by simp [w32s]
theorem qb4 (l : List UInt32) : ∀ v ∈ w32s l,v.oneCell' = true:=by
  intro v hv;simp only [w32s,List.mem_map] at hv;obtain ⟨x,_,rfl⟩:=hv;rfl
theorem q3h (l m : List UInt32) : w32s (l ++ m) = w32s l ++ w32s m:=List.map_append
theorem q6g {l : List UInt32} {k : Nat} (h : k < l.length) : (w32s l)[k]? = some (.int .u32 (l[k].toNat : Int)):=by simp [w32s,h,w32]
theorem wmk {n : Nat} {l : List UInt32} (h : l.length = n) : ∀ B,Seg.ok B (.many n (w32s l)):=fun _=>⟨by rw [q1b,h],qb4 l⟩
structure Wd (z : Int) (x : UInt32) : Prop where
  h : z = (x.toNat : Int)
theorem Wd.base (x : UInt32) : Wd (x.toNat : Int) x:=⟨rfl⟩
theorem qgh (n : Nat) : IntKind.u32.wrap (n : Int) = ((UInt32.ofNat n).toNat : Int):=by
  simp [IntKind.wrap,IntKind.signed,IntKind.bits]
theorem q5h (x : UInt32) : BitVec.ofInt 32 (x.toNat : Int) = x.toBitVec:=by
  apply BitVec.eq_of_toNat_eq
  have:=x.toNat_lt
  simp
theorem qb7 (v : BitVec 32) : IntKind.u32.wrap (v.toNat : Int) = ((UInt32.ofBitVec v).toNat : Int):=by
  rw [qgh];have:=v.isLt;congr 1
  simp [UInt32.toNat,UInt32.ofNat]
theorem Wd.xor {a b : Int} {x y : UInt32} (p : Wd a x) (q : Wd b y) : Wd (ibits .xor .u32 a b) (x ^^^ y):=by
  obtain ⟨rfl⟩:=p;obtain ⟨rfl⟩:=q;refine ⟨?_⟩;show IntKind.u32.wrap ((BitVec.ofInt 32 (x.toNat : Int) ^^^ BitVec.ofInt 32 (y.toNat : Int)).toNat : Int) = _;rw [q5h,q5h,qb7];rfl
theorem Wd.and {a b : Int} {x y : UInt32} (p : Wd a x) (q : Wd b y) : Wd (ibits .and .u32 a b) (x &&& y):=by
  obtain ⟨rfl⟩:=p;obtain ⟨rfl⟩:=q;refine ⟨?_⟩;show IntKind.u32.wrap ((BitVec.ofInt 32 (x.toNat : Int) &&& BitVec.ofInt 32 (y.toNat : Int)).toNat : Int) = _;rw [q5h,q5h,qb7];rfl
theorem Wd.or {a b : Int} {x y : UInt32} (p : Wd a x) (q : Wd b y) : Wd (ibits .or .u32 a b) (x ||| y):=by
  obtain ⟨rfl⟩:=p;obtain ⟨rfl⟩:=q;refine ⟨?_⟩;show IntKind.u32.wrap ((BitVec.ofInt 32 (x.toNat : Int) ||| BitVec.ofInt 32 (y.toNat : Int)).toNat : Int) = _;rw [q5h,q5h,qb7];rfl
theorem Wd.not {a : Int} {x : UInt32} (p : Wd a x) : Wd (ibits .xor .u32 (if IntKind.u32.signed then -1 else IntKind.u32.max) a) (~~~x):=by
  obtain ⟨rfl⟩:=p;refine ⟨?_⟩;show IntKind.u32.wrap ((BitVec.ofInt 32 4294967295 ^^^ BitVec.ofInt 32 (x.toNat : Int)).toNat : Int) = _;rw [q5h,qb7,show BitVec.ofInt 32 4294967295 = BitVec.allOnes 32 from rfl,BitVec.allOnes_xor];rfl
theorem Wd.shr {a : Int} {x : UInt32} (p : Wd a x) (n : Nat) (hn : n < 32) : Wd (a.fdiv (2 ^ n)) (x >>> UInt32.ofNat n):=by
  obtain ⟨rfl⟩:=p;refine ⟨?_⟩;rw [Int.fdiv_eq_ediv_of_nonneg _ (Int.le_of_lt (Int.pow_pos (by decide)))];have e : (UInt32.ofNat n).toNat = n:=by simp;omega
  rw [UInt32.toNat_shiftRight,e,Nat.mod_eq_of_lt hn,Nat.shiftRight_eq_div_pow]
  norm_cast
theorem Ar.wadd {a b : Int} {x y : UInt32} {f : Int → Prop} (p : Wd a x) (q : Wd b y) (h : f ((x + y).toNat : Int)) : Ar .u32 (a + b) f:=by
  obtain ⟨rfl⟩:=p;obtain ⟨rfl⟩:=q;refine ⟨?_⟩
  have e : IntKind.u32.wrap ((x.toNat : Int) + (y.toNat : Int)) = ((x + y).toNat : Int):=by
    rw [show (x.toNat : Int) + (y.toNat : Int) = ((x.toNat + y.toNat : Nat) : Int) by push_cast;rfl,qgh]
    simp [UInt32.toNat_add]
  rw [e];exact h
theorem Ar.wshl {a : Int} {x : UInt32} {f : Int → Prop} (p : Wd a x) (n : Nat) (hn : n < 32) (h : f ((x <<< UInt32.ofNat n).toNat : Int)) : Ar .u32 (a * 2 ^ n) f:=by
  obtain ⟨rfl⟩:=p;refine ⟨?_⟩
  have e : IntKind.u32.wrap ((x.toNat : Int) * 2 ^ n) = ((x <<< UInt32.ofNat n).toNat : Int):=by
    rw [show (x.toNat : Int) * 2 ^ n = ((x.toNat * 2 ^ n : Nat) : Int) by push_cast;rfl,qgh];have e : (UInt32.ofNat n).toNat = n:=by simp;omega
    rw [UInt32.toNat_shiftLeft,e,Nat.mod_eq_of_lt hn,Nat.shiftLeft_eq]
    simp
  rw [e];exact h
theorem Ar.wbyte {a : Int} {x : UInt32} {f : Int → Prop} (p : Wd a x) (h : f ((x.toUInt8).toNat : Int)) : Ar .u8 a f:=by
  obtain ⟨rfl⟩:=p;refine ⟨?_⟩
  have e : IntKind.u8.wrap (x.toNat : Int) = ((x.toUInt8).toNat : Int):=by
    rw [← qg3];congr 2;unfold by8
    apply UInt8.toNat_inj.1
    have : ((x.toNat : Int) % 256).toNat = x.toNat % 256:=by omega
    rw [this];simp
  rw [e];exact h
theorem Ar.w8 {a : Int} {c : UInt8} {f : Int → Prop} (p : a = (c.toNat : Int)) (h : f ((c.toUInt32).toNat : Int)) : Ar .u32 a f:=by
  subst p;refine ⟨?_⟩
  have e : IntKind.u32.wrap (c.toNat : Int) = ((c.toUInt32).toNat : Int):=by
    rw [qgh];simp
  rw [e];exact h
end Go.Sx
namespace Go.Sx
def wg (l : List UInt32) (k : Nat) : UInt32:=l.getD k 0
theorem wg_eq {l : List UInt32} {k : Nat} (h : k < l.length) : wg l k = l[k]:=by simp [wg,h]
theorem q9k {B : Names} {l : List UInt32} {r : List Value} {j : Nat} {f : SC → Prop} (k : Nat) (hj : j = k) (hk : k < l.length) (h : f (.int .u32 ((wg l k).toNat : Int))) : Elem B (w32s l ++ r) j f :=
  ⟨⟨.int .u32 ((wg l k).toNat : Int),by subst hj;rw [List.getElem?_append_left (by rw [q1b];exact hk),q6g hk,wg_eq hk];rfl,trivial,h⟩⟩
theorem q0m {B : Names} {l : List UInt32} {j : Nat} {f : SC → Prop} (k : Nat) (hj : j = k) (hk : k < l.length) (h : f (.int .u32 ((wg l k).toNat : Int))) : Elem B (w32s l) j f:=by
  rw [← List.append_nil (w32s l)];exact q9k k hj hk h
theorem qlm {A : List Value} {z v : Value} {n i : Nat} (h : A.length = i) (hi : i < n) : (A ++ List.replicate (n - i) z).take i ++ ([v] ++ (A ++ List.replicate (n - i) z).drop (i + 1)) = (A ++ [v]) ++ List.replicate (n - (i + 1)) z:=by
  obtain ⟨k,hk⟩ : ∃ k,n - i = k + 1:=⟨n - i - 1,by omega⟩;rw [hk,show n - (i + 1) = k by omega,List.replicate_succ];clear hk hi;subst h
  simp [List.drop_append]
theorem qor {A : List Value} {z : Value} {n i : Nat} (h : A.length = i) (hi : i ≤ n) (hA : ∀ v ∈ A,v.oneCell' = true) (hz : z.oneCell' = true) : ∀ B,Seg.ok B (.many n (A ++ List.replicate (n - i) z)):=fun _=>⟨by simp [h];omega,fun v hv=>by
  rcases List.mem_append.1 hv with hv | hv
  · exact hA v hv
  · simp at hv;rw [hv.2];exact hz⟩
theorem qce (k : Int) : (BitVec.ofInt 64 (IntKind.u64.wrap k)).toNat = (k % 18446744073709551616).toNat:=by
  have h : IntKind.u64.wrap k = k % 18446744073709551616:=by simp [IntKind.wrap,IntKind.signed,IntKind.bits]
  rw [h]
  simp
theorem and31 (k : Int) : ibits .and .u64 (IntKind.u64.wrap k) 31 = k % 32:=by
  have e : (BitVec.ofInt 64 (IntKind.u64.wrap k) &&& BitVec.ofInt 64 31).toNat = (k % 32).toNat:=by
    rw [BitVec.toNat_and,qce,show (BitVec.ofInt 64 31).toNat = 2 ^ 5 - 1 from rfl,Nat.and_two_pow_sub_one_eq_mod];omega
  show IntKind.u64.wrap ((BitVec.ofInt 64 (IntKind.u64.wrap k) &&& BitVec.ofInt 64 31).toNat : Int) = _;rw [e,qd4 _ (by omega)];omega
end Go.Sx
namespace Go.Sx
theorem qm2 {P : Program} {t e ty n c0 cap k ts : Nat} {x y : TyX} {p : Nat × Nat} {xs ys : List Value} {B : Names} {H : List Chunk} {F F' : List HP} {src : SV} {f : SV → M → Prop}
    (hF : F.Perm (Own (some (radr p)) cap e y.size xs :: F')) (hsrc : Src ⟨B,H,F⟩ src k ys) (hys : ys.length = k * y.size) (h1 : ∀ v ∈ ys,v.oneCell' = true) (hk : k ≤ n) (hfit : k * y.size ≤ xs.length)
    (h : f (.c (.int .i64 k)) ⟨B,H,Own (some (radr p)) cap e y.size (ys ++ xs.drop (k * y.size)) :: F'⟩) :
    With (Ty P t x ∧ x.k = .slice e ∧ Ty P e y) (RunOb P (Builtin.copy_ #[t,ts] ty #[Value.slice (some (radr p)) n c0,SV.den B src]) ⟨B,H,F⟩ f):=by
  refine ⟨fun ⟨T,hk',E⟩=>⟨fun km w hs=>?_⟩⟩;have hu:=q21 T hk';have s1:=hsrc.run (P:=P) km hs rfl hys;have hs2 : sat (Own (some (radr p)) cap e y.size xs :: (H.map (Chunk.p B) ++ F')) w:=q07 ((List.Perm.append_left _ hF).trans List.perm_middle) hs
  rcases q4d hs2 with ⟨h0,_,_⟩ | ⟨b0,junk,fz,ha,hb0,hlen,hf,hone,hs3⟩
  · cases h0
  · have e0 : p = (b0,0):=by
      have : radr p = ⟨b0,0,none⟩:=Option.some.inj ha;cases p;simp only [radr,Addr.mk.injEq,and_true] at this;simp [this.1,this.2]
    subst e0;have hst:=q0w (P:=P) hf ys 0 0 (xs ++ junk) w hb0 (by simpa using hlen) (by omega) h1
    have e1 : (xs ++ junk).take (0 + 0) ++ (ys ++ (xs ++ junk).drop (0 + 0 + ys.length)) = (ys ++ xs.drop (k * y.size)) ++ junk:=by
      rw [hys,Nat.add_zero,Nat.zero_add,List.take_zero,List.nil_append,List.drop_append_of_le_length hfit,List.append_assoc]
    rw [e1] at hst;have hw:=q2y (cs':=((ys ++ xs.drop (k * y.size)) ++ junk).toArray) hb0;refine ⟨.int .i64 k,w.setRow b0 ((ys ++ xs.drop (k * y.size)) ++ junk).toArray,?_,.c (.int .i64 k),⟨B,H,Own (some (radr (b0,0))) cap e y.size (ys ++ xs.drop (k * y.size)) :: F'⟩,rfl,trivial,km,?_,.inl rfl,h⟩
    · have hund : (underlying t).run P w = .ok (.slice e) w:=run_underlying hu w;have hmin : Nat.min k n = k:=Nat.min_eq_left hk;have s1 : (Builtin.lenOf (src.den B)).run P w = .ok k w ∧ (Builtin.firstCells y.size k (src.den B)).run P w = .ok ys.toArray w:=s1;show (Builtin.copy_ #[t,ts] ty #[.slice (some ⟨b0,0,none⟩) n c0,src.den B]).run P w = _
      simp [Builtin.copy_,hund,s1.1,hmin,E.run_sizeOf w,s1.2,hst,goInt]
    · refine q07 List.perm_middle.symm (q0x (fun g hg=>.inr ⟨b0,junk,fz,rfl,hg,?_,hf,?_⟩) (q36 hs3 hw.1 hw.2))
      · simp only [List.length_append,List.length_drop] at *;omega
      · intro u hu;simp only [List.mem_append] at hu hone
        rcases hu with (hu | hu) | hu
        · exact h1 u hu
        · exact hone u (.inl (List.mem_of_mem_drop hu))
        · exact hone u (.inr hu)
theorem With.own0 {P : Program} {q : Prop} {s : Sem Value} {B : Names} {H : List Chunk} {F : List HP} {f : SV → M → Prop} (e size : Nat)
    (h : With q (RunOb P s ⟨B,H,Own none 0 e size [] :: F⟩ f)) : With q (RunOb P s ⟨B,H,F⟩ f) :=
  ⟨fun hq=>⟨fun km w hs=>(h.h hq).h km w (q07 List.perm_middle.symm (qbl hs))⟩⟩
theorem q1z {p q : Nat × Nat} (h : some (radr p) = some (radr q)) : p = q:=by cases p;cases q;simp [radr] at h;simp [h]
theorem mok {n : Nat} {l : List UInt8} (h : l.length = n) : ∀ B,Seg.ok B (.many n (u8s l)):=fun _=>⟨by rw [u8l,h],q0s l⟩
end Go.Sx
namespace Go.Sx
section
variable {ro : Option Nat} {P : Program} {ops : Array Oper} {C : World → Prop} {Q : Act → World → Prop} {z : Nat}
inductive Tr where
  | nil
  | one (i : Nat) (r : Tr)
  | two (i : Nat) (r : Tr) (j : Nat) (s : Tr)
def Tr.len : Tr → Nat
  | .nil=>0
  | .one _ r=>r.len + 1
  | .two _ r _ _=>r.len + 1
def Tr.of : List Nat → Tr → Tr
  | [],t=>t
  | i :: r,t=>.one i (Tr.of r t)
def q5k (ops : Array Oper) (z : Nat) (q : Oper → Bool) : Tr → Array Bool → Bool
  | .nil,listed=>(Region.ready .any ops listed).isEmpty && (Nat.ble ops.size z || listed.getD z false)
  | .one i r,listed=>(match ops[i]? with
      | none=>false
      | some o=>if q o then !listed.getD z false && !(Nat.beq i z) && (Region.ready .any ops listed).contains i && Region.free .any ops listed i else Region.ready .any ops listed == [i]) &&
    q5k ops z q r (listed.setIfInBounds i true)
  | .two i r j s,listed=>(match ops[i]? with | none=>false | some o=>!q o) && (match ops[j]? with | none=>false | some o=>!q o) && Region.ready .any ops listed == [i,j] && Nat.beq r.len s.len &&
    q5k ops z q r (listed.setIfInBounds i true) && q5k ops z q s (listed.setIfInBounds j true)
def runT (ro : Option Nat) (P : Program) (ops : Array Oper) (C : World → Prop) (z : Nat) (Q : Act → World → Prop) (q : Oper → Bool) : Tr → Act → World → Prop
  | .nil,a,w=>(Nat.ble ops.size z = true → C w) ∧ Q a w
  | .one i r,a,w=>C w ∧ ∃ o,ops[i]? = some o ∧ if q o then ∃ v,YieldsS P ops C o v a ∧ runT ro P ops C z Q q r (a.put o.dst v) w else wpOpIn (Wf ro) 0 P ops (QN Q) i (runT ro P ops C z Q q r) a w
  | .two i r j s,a,w=>C w ∧ (∀ o,ops[i]? = some o → q o = false → wpOpIn (Wf ro) 0 P ops (QN Q) i (runT ro P ops C z Q q r) a w) ∧ ∀ o,ops[j]? = some o → q o = false → wpOpIn (Wf ro) 0 P ops (QN Q) j (runT ro P ops C z Q q s) a w
theorem q3o {q : Oper → Bool} (hs : Region.noSelect ops = true) (hse : qf6 ops z) : ∀ (t : Tr) (listed : Array Bool) (a : Act) (w : World),Closed ops listed → q5k ops z q t listed = true → runT ro P ops C z Q q t a w → anyC ro P ops C z Q t.len listed a w
  | .nil,listed,a,w,hcl,hB,h=>by
    simp only [q5k,Bool.and_eq_true,Bool.or_eq_true,List.isEmpty_iff] at hB;refine ⟨fun hz=>?_,hB.1,h.2⟩
    rcases hB.2 with h2 | h2
    · exact h.1 h2
    · rw [hz] at h2;cases h2
  | .one i r,listed,a,w,hcl,hB,h=>by
    obtain ⟨hC,o,ho,h⟩:=h;simp only [q5k,ho,Bool.and_eq_true] at hB;obtain ⟨hB1,hB2⟩:=hB
    by_cases hq : q o = true
    · rw [if_pos hq] at h;obtain ⟨v,hy,h⟩:=h;rw [if_pos hq] at hB1;simp only [Bool.and_eq_true,Bool.not_eq_true'] at hB1;exact qa4 hse (Nat.ne_of_beq_eq_false hB1.1.1.2) ho (Region.noSelect_spec hs) r.len listed a w (Region.free_spec ho hB1.2) hcl (by simpa using hB1.1.2) hy hC hB1.1.1.1 (q3o hs hse r _ _ _ (hcl.set (by simpa using hB1.1.2)) hB2 h)
    · rw [if_neg hq] at h hB1;have hB1 : Region.ready .any ops listed = [i]:=by simpa using hB1
      show anyC ro P ops C z Q (r.len + 1) listed a w;refine ⟨fun _=>hC,fun h0=>absurd (hB1.symm.trans h0) (by simp),fun j hj=>?_⟩;rw [hB1] at hj
      simp at hj
      subst hj;exact wpOpIn_mono (fun a' w' h'=>q3o hs hse r _ _ _ (hcl.set (by rw [hB1];simp)) hB2 h') h
  | .two i r j s,listed,a,w,hcl,hB,h=>by
    obtain ⟨hC,h1,h2⟩:=h;simp only [q5k,Bool.and_eq_true] at hB;obtain ⟨⟨⟨⟨⟨hi,hj⟩,hr⟩,hl⟩,hBr⟩,hBs⟩:=hB;have hr : Region.ready .any ops listed = [i,j]:=by simpa using hr
    have hl : r.len = s.len:=Nat.eq_of_beq_eq_true hl;show anyC ro P ops C z Q (r.len + 1) listed a w;refine ⟨fun _=>hC,fun h0=>absurd (hr.symm.trans h0) (by simp),fun k hk=>?_⟩;rw [hr] at hk;simp only [List.mem_cons,List.not_mem_nil,or_false] at hk
    rcases hk with rfl | rfl
    · cases ho : ops[k]? with
      | none=>rw [ho] at hi;cases hi
      | some o =>
        rw [ho] at hi;exact wpOpIn_mono (fun a' w' h'=>q3o hs hse r _ _ _ (hcl.set (by rw [hr];simp)) hBr h') (h1 o ho (by simpa using hi))
    · cases ho : ops[k]? with
      | none=>rw [ho] at hj;cases hj
      | some o =>
        rw [ho] at hj;rw [hl];exact wpOpIn_mono (fun a' w' h'=>q3o hs hse s _ _ _ (hcl.set (by rw [hr];simp)) hBs h') (h2 o ho (by simpa using hj))
end
def lastT (all : List Oper) (z : Nat) : Tr → Bool
  | .nil=>Nat.blt z all.length
  | _=>false
noncomputable def execT (P : Program) (tt : TT) (N : Nat) (all : List Oper) (z : Nat) (Hs : List Chunk) (Fs : List HP) (t : Tr) : Env → M → (Env → M → Prop) → Prop :=
  @Tr.rec (fun _=>Env → M → (Env → M → Prop) → Prop) (fun env m f=>f env m) (fun i r ih=>q7c P tt N all Hs Fs (lastT all z r) i ih)
    (fun i _ j _ ih ih' env m f=>q7c P tt N all Hs Fs false i ih env m f ∧ q7c P tt N all Hs Fs false j ih' env m f) t
theorem qd5 {ro : Option Nat} {P : Program} {tt : TT} {N : Nat} (ok : tt.ok P) {all : List Oper} {Hs : List Chunk} {Fs : List HP} {B0 : Names} {k : Env → M → (Env → M → Prop) → Prop} {R : Act → World → Prop} {Q : Act → World → Prop}
    {f : Env → M → Prop} {i : Nat} {env : Env} {m : M} {a : Act} {w : World} {o : Oper} (ho : all[i]? = some o) (hq : isQ tt o = false)
    (h : q7c P tt N all Hs Fs false i k env m f) (st : St N env m a w) (hB : ExtS B0 m.B) (hS : ∀ w,sat m.props w → sat (M.props ⟨m.B,Hs,Fs⟩) w)
    (K : ∀ env' m' a' w',k env' m' f → St N env' m' a' w' → ExtS B0 m'.B → (∀ w,sat m'.props w → sat (M.props ⟨m'.B,Hs,Fs⟩) w) → R a' w') :
    wpOpIn (Wf ro) 0 P all.toArray (QN Q) i R a w:=by
  obtain ⟨o',ho',h1⟩:=q2v h;rw [ho] at ho';obtain rfl:=Option.some.inj ho';obtain ⟨env,st,h2⟩:=q28 st h1
  by_cases hw : Region.wanted o (yielded all.toArray a.tmps) = true
  · rw [if_pos hw,hq] at h2;unfold wpOpIn;simp only [List.getElem?_toArray,ho];rw [if_pos hw];refine (q3z (nd_of h2) (q1g ok st h2) st.k st.s ?_);rintro v w' ⟨x,m',rfl,kx,he,km,hs,hf⟩;obtain ⟨env',hg,st'⟩:=q2d st he km hs kx hf;exact K env' m' _ w' hg.x st' (hB.ext he) hg.s
  · rw [if_neg hw] at h2;have hw : Region.wanted o (yielded all.toArray a.tmps) = false:=by simpa using hw
    obtain ⟨env',hg,st'⟩:=q33 st h2;unfold wpOpIn;simp only [List.getElem?_toArray,ho,hw,Bool.false_eq_true,if_false];exact ⟨fun _ _=>trivial,K env' m _ w hg st' hB hS⟩
theorem q42 {ro : Option Nat} {P : Program} {tt : TT} {N : Nat} (ok : tt.ok P) {all : List Oper} {z : Nat} {Hs : List Chunk} {Fs : List HP} {B0 : Names} (kH : ∀ c ∈ Hs,Chunk.ok B0 c) {f : Env → M → Prop} :
    ∀ (t : Tr) (env : Env) (m : M) (a : Act) (w : World),execT P tt N all z Hs Fs t env m f → St N env m a w → ExtS B0 m.B → (∀ w,sat m.props w → sat (M.props ⟨m.B,Hs,Fs⟩) w) →
      runT ro P all.toArray (sat (M.props ⟨B0,Hs,Fs⟩)) z (fun a w=>∃ env' m',f env' m' ∧ St N env' m' a w) (isQ tt) t a w
  | .nil,env,m,a,w,h,st,hB,hS=>⟨fun _=>by have:=hS w st.s;simp only [M.props,(hB.chunks kH).2] at this;exact this,env,m,h,st⟩
  | .two i r j s,env,m,a,w,h,st,hB,hS=>by
    have same : M.props ⟨m.B,Hs,Fs⟩ = M.props ⟨B0,Hs,Fs⟩:=by simp only [M.props,(hB.chunks kH).2]
    refine ⟨by rw [← same];exact hS w st.s,fun o ho hq=>?_,fun o ho hq=>?_⟩
    · exact qd5 ok (by simpa using ho) hq h.1 st hB hS fun env' m' a' w' h' st' hB' hS'=>q42 ok kH r env' m' a' w' h' st' hB' hS'
    · exact qd5 ok (by simpa using ho) hq h.2 st hB hS fun env' m' a' w' h' st' hB' hS'=>q42 ok kH s env' m' a' w' h' st' hB' hS'
  | .one i r,env,m,a,w,h,st,hB,hS=>by
    have same : M.props ⟨m.B,Hs,Fs⟩ = M.props ⟨B0,Hs,Fs⟩:=by simp only [M.props,(hB.chunks kH).2]
    refine ⟨by rw [← same];exact hS w st.s,?_⟩;have h : q7c P tt N all Hs Fs (lastT all z r) i (execT P tt N all z Hs Fs r) env m f:=h;obtain ⟨o,ho,h1⟩:=q2v h;refine ⟨o,by simpa using ho,?_⟩;obtain ⟨env,st,h2⟩:=q28 st h1;clear h h1
    by_cases hw : Region.wanted o (yielded all.toArray a.tmps) = true
    · rw [if_pos hw] at h2
      cases hq : isQ tt o with
      | true =>
        rw [hq] at h2;simp only [if_true];obtain ⟨hqq,h3⟩:=q3i h2
        cases m with
        | mk B H F =>
        have st' : St N env ⟨B,Hs,Fs⟩ a w:=⟨st.d,st.n,st.l,(hB.chunks kH).1,hS w st.s⟩
        rcases q1g ok st' h3 with ⟨x,kx,hf,hr⟩ | ⟨hn,_⟩
        · obtain ⟨env',hg,st2⟩:=q2d st (.inl rfl) st.k st.s kx hf;refine ⟨x.den B,.inl ⟨hw,fun w hw'=>hr w (by rw [same];exact hw')⟩,?_⟩;exact q42 ok kH r env' ⟨B,H,F⟩ _ w hg st2 hB hS
        · exact absurd hqq hn
      | false =>
        rw [hq] at h2;simp only [Bool.false_eq_true,if_false];unfold wpOpIn;simp only [List.getElem?_toArray,ho];rw [if_pos hw];refine (q3z (nd_of h2) (q1g ok st h2) st.k st.s ?_);rintro v w' ⟨x,m',rfl,kx,he,km,hs,hf⟩;obtain ⟨env',hg,st'⟩:=q2d st he km hs kx hf
        cases hl : lastT all z r with
        | false=>rw [hl] at hg;exact q42 ok kH r env' m' _ w' hg.x st' (hB.ext he) hg.s
        | true =>
          rw [hl] at hg
          cases r with
          | one _ _=>cases hl
          | two _ _ _ _=>cases hl
          | nil =>
            refine ⟨fun h=>?_,env',m',hg,st'⟩;have h1:=Nat.le_of_ble_eq_true h
            have h2 : z < all.length:=by
              have h3 : Nat.ble (z + 1) all.length = true:=hl;exact Nat.le_of_ble_eq_true h3
            simp at h1
            omega
    · rw [if_neg hw] at h2;have hw : Region.wanted o (yielded all.toArray a.tmps) = false:=by simpa using hw
      obtain ⟨env',hg,st'⟩:=q33 st h2;have next:=q42 (ro:=ro) ok kH r env' m _ w hg st' hB hS
      cases hq : isQ tt o with
      | true=>simp only [if_true];exact ⟨undef,.inr ⟨hw,rfl⟩,next⟩
      | false =>
        simp only [Bool.false_eq_true,if_false];unfold wpOpIn;simp only [List.getElem?_toArray,ho,hw,Bool.false_eq_true,if_false];exact ⟨fun _ _=>trivial,next⟩
end Go.Sx
namespace Go.Sx
section
open Go.MapKept
def mes (l : List (Int × Value × Nat)) : List MapEntry:=l.map fun e=>⟨.int .i64 e.1,e.2.1,e.2.2⟩
def Mp (g : Nat) (l : List (Int × Value × Nat)) (c : Nat) : HP:=blk g (.map (mes l).toArray c)
theorem Mp.heap {B : Names} {H : List Chunk} {F : List HP} {g c : Nat} {l : List (Int × Value × Nat)} {w : World} (hF : Mp g l c ∈ F) (s : sat (M.props ⟨B,H,F⟩) w) : w.heap[g]? = some (.map (mes l).toArray c):=by
  obtain ⟨h,hle,hp⟩:=sat_F (m:=⟨B,H,F⟩) hF s;exact hle.out _ _ hp
end
end Go.Sx
namespace Go.Sx
theorem Own.take {a : Option Addr} {cap e size : Nat} {xs : List Value} (k : Nat) (h : Hp) (o : Own a cap e size xs h) : Own a cap e size (xs.take k) h:=by
  rcases o with ⟨rfl,rfl,rfl⟩ | ⟨b,junk,fz,ha,hb,hl,hf,h1⟩
  · exact .inl ⟨rfl,rfl,by simp⟩
  · refine .inr ⟨b,xs.drop k ++ junk,fz,ha,by rw [← List.append_assoc,List.take_append_drop];exact hb,?_,hf,by rw [← List.append_assoc,List.take_append_drop];exact h1⟩;rw [← hl,List.length_append,← Nat.add_assoc,← List.length_append,List.take_append_drop]
end Go.Sx
namespace Go.Sx
end Go.Sx
namespace Go.Sx
def OwnO (a : Option Addr) (cap e size : Nat) (xs : List Value) : HP:=fun h =>
  (a = none ∧ cap = 0 ∧ xs = []) ∨ ∃ b pre junk post fz,a = some ⟨b,pre.length,none⟩ ∧ h b = some (.cells (pre ++ (xs ++ (junk ++ post))).toArray e fz) ∧ xs.length + junk.length = cap * size ∧
    free fz (pre ++ (xs ++ (junk ++ post))).length ∧ ∀ v ∈ pre ++ (xs ++ (junk ++ post)),v.oneCell' = true
theorem OwnO.of {a : Option Addr} {cap e size : Nat} {xs : List Value} (h : Hp) (o : Own a cap e size xs h) : OwnO a cap e size xs h:=by
  rcases o with o | ⟨b,junk,fz,ha,hb,hl,hf,h1⟩
  · exact .inl o
  · refine .inr ⟨b,[],junk,[],fz,ha,by simpa using hb,hl,?_,by simpa using h1⟩;have : ([] ++ (xs ++ (junk ++ [])) : List Value).length = cap * size:=by simp;omega
    rw [this];exact hf
theorem OwnO.rd {a : Option Addr} {cap e size : Nat} {xs : List Value} : Rd (OwnO a cap e size xs) a xs:=by
  rintro h (⟨_,_,rfl⟩ | ⟨b,pre,junk,post,fz,rfl,hb,hl,hf,h1⟩)
  · exact .inl rfl
  · refine .inr ⟨(b,pre.length),rfl,_,_,_,hb,fun j u hj=>?_⟩;have hlt:=(List.getElem?_eq_some_iff.1 hj).1;show (pre ++ (xs ++ (junk ++ post))).toArray[pre.length + j]? = some u;rw [List.getElem?_toArray,List.getElem?_append_right (by omega),show pre.length + j - pre.length = j by omega,List.getElem?_append_left hlt,hj]
theorem OwnO.cut {a : Option Addr} {cap e size n : Nat} {xs : List Value} (k : Nat) (hx : xs.length = n * size) (hk : k ≤ n) (hn : n ≤ cap) (h : Hp) (o : OwnO a cap e size xs h) : OwnO (cutA a cap k size) (cap - k) e size (xs.drop (k * size)) h:=by
  rcases o with ⟨rfl,rfl,rfl⟩ | ⟨b,pre,junk,post,fz,rfl,hb,hl,hf,h1⟩
  · refine .inl ⟨?_,by omega,by simp⟩;unfold cutA;split <;> rfl
  · by_cases e0 : cap = k
    · have hk' : k = n:=by omega
      have h0 : xs.drop (k * size) = []:=List.drop_eq_nil_of_le (by rw [hx,hk'];exact Nat.le_refl _);refine .inr ⟨b,pre,[],xs ++ (junk ++ post),fz,by simp [cutA,e0],?_,?_,?_,?_⟩
      · rw [h0];simpa using hb
      · rw [h0,e0];simp
      · rw [h0];simpa using hf
      · rw [h0];simpa using h1
    · have e1 : pre ++ (xs ++ (junk ++ post)) = (pre ++ xs.take (k * size)) ++ (xs.drop (k * size) ++ (junk ++ post)):=by
        rw [List.append_assoc,← List.append_assoc (xs.take _),List.take_append_drop]
      have hm:=Nat.mul_le_mul_right size hk;refine .inr ⟨b,pre ++ xs.take (k * size),junk,post,fz,?_,by rw [← e1];exact hb,?_,by rw [← e1];exact hf,by rw [← e1];exact h1⟩
      · simp only [cutA,e0,if_false,Option.map_some,q0l,List.length_append,List.length_take];congr 3;rw [hx];omega
      · rw [List.length_drop,Nat.sub_mul];omega
theorem qkk {a : Option Addr} {cap e size : Nat} {xs : List Value} {l : List HP} {w : World} (s : sat (OwnO a cap e size xs :: l) w) :
    (a = none ∧ cap = 0 ∧ xs = []) ∨ ∃ b pre junk post fz,a = some ⟨b,pre.length,none⟩ ∧ w.heap[b]? = some (.cells (pre ++ (xs ++ (junk ++ post))).toArray e fz) ∧ xs.length + junk.length = cap * size ∧
      free fz (pre ++ (xs ++ (junk ++ post))).length ∧ (∀ v ∈ pre ++ (xs ++ (junk ++ post)),v.oneCell' = true) ∧ sat (blk b (.cells (pre ++ (xs ++ (junk ++ post))).toArray e fz) :: l) w:=by
  obtain ⟨g,k,d,hg,hk,h,hs⟩:=s
  rcases h with h | ⟨b,pre,junk,post,fz,ha,hb,hl,hf,h1⟩
  · exact .inl h
  · exact .inr ⟨b,pre,junk,post,fz,ha,hg.out _ _ hb,hl,hf,h1,g,k,d,hg,hk,hb,hs⟩
end Go.Sx
namespace Go.Sx
def Fc {α : Type} (a : Option Addr) (cap : Nat) (l : List α) : Prop:=l.length ≤ cap ∧ (a = none → l = [])
theorem Fc.nil {α : Type} {cap : Nat} : Fc none cap ([] : List α):=⟨Nat.zero_le _,fun _=>rfl⟩
abbrev FB (P : Program) (f : Nat) (args : List SV) (A : HP) (e : Nat) (l : List UInt8) : Prop :=
  Con P f args [] [] A (fun t : Option Addr × Nat=>Fc t.1 t.2 l) (fun t=>.c (.rs t.1 l.length t.2)) (fun _=>[]) (fun t=>[Own t.1 t.2 e 1 (u8s l)])
abbrev FW (P : Program) (f : Nat) (args : List SV) (A : HP) (e : Nat) (l : List UInt32) : Prop :=
  Con P f args [] [] A (fun t : Option Addr × Nat=>Fc t.1 t.2 l) (fun t=>.c (.rs t.1 l.length t.2)) (fun _=>[]) (fun t=>[Own t.1 t.2 e 1 (w32s l)])
theorem Cq.new {P : Program} {fn : Nat} {args args' : List SV} {B : Names} {H : List Chunk} {F : List HP} {τ : Type} {p : τ → Prop} {val : τ → SV} {post : τ → List HP} {f : SV → List Chunk → List HP → Prop}
    (C : Con P fn args' [] [] (all (H.map (Chunk.p B) ++ F)) p val (fun _=>[]) post) (hargs : args.map (SV.den B) = args'.map (SV.den [])) (h : ∀ t,p t → f (val t) H (post t ++ F)) : Cq P fn args ⟨B,H,F⟩ f :=
  Cq.by' [] [] C hargs (by cases H <;> exact ⟨rfl,rfl,rfl,fun t ht=>⟨rfl,h t ht⟩⟩)
theorem Cq.fb {P : Program} {fn e : Nat} {args args' : List SV} {B : Names} {H : List Chunk} {F : List HP} {l : List UInt8} {f : SV → List Chunk → List HP → Prop}
    (C : FB P fn args' (all (H.map (Chunk.p B) ++ F)) e l) (hargs : args.map (SV.den B) = args'.map (SV.den [])) (h : ∀ a c,Fc a c l → f (.c (.rs a l.length c)) H (Own a c e 1 (u8s l) :: F)) : Cq P fn args ⟨B,H,F⟩ f :=
  Cq.new C hargs fun t ht=>h t.1 t.2 ht
theorem Cq.fw {P : Program} {fn e : Nat} {args args' : List SV} {B : Names} {H : List Chunk} {F : List HP} {l : List UInt32} {f : SV → List Chunk → List HP → Prop}
    (C : FW P fn args' (all (H.map (Chunk.p B) ++ F)) e l) (hargs : args.map (SV.den B) = args'.map (SV.den [])) (h : ∀ a c,Fc a c l → f (.c (.rs a l.length c)) H (Own a c e 1 (w32s l) :: F)) : Cq P fn args ⟨B,H,F⟩ f :=
  Cq.new C hargs fun t ht=>h t.1 t.2 ht
theorem Ent.sub {L M : List HP} (is : List Nat) (h : pickF is L fun l _=>l = M ∧ True) : Ent (Sx.all L) (Sx.all M):=by
  obtain ⟨l,r,⟨e,_⟩,p⟩:=q1j h;intro g hg;obtain ⟨x,k,d,hx,hk,h1,h2⟩:=q0o.1 (q63 p hg);exact ⟨x,hx,by rw [← e];exact h1⟩
theorem Ent.at {L : List HP} {p : HP} (i : Nat) (h : L[i]? = some p) : Ent (Sx.all L) p:=Ent.a (List.mem_of_getElem? h)
theorem qf7 {B : Names} {H : List Chunk} {F : List HP} {i n cap size : Nat} {segs : List Seg} {e : Nat} {rH : List Chunk} (pH : H.Perm ([(i,segs,e)] ++ rH)) (hl : q2a segs = cap * size ∧ n ≤ cap) (hk : okL B segs) {w : World}
    (hs : sat (M.props ⟨B,H,F⟩) w) : sat (M.props ⟨B,rH,Own (some ⟨bl B i,0,none⟩) cap e size ((dens B segs).take (n * size)) :: F⟩) w:=by
  have kc:=q04 hk;have hlen : (dens B segs).length = cap * size:=by rw [q0y kc,hl.1]
  have s2 : sat (((i,segs,e) :: rH).map (Chunk.p B) ++ F) w:=q07 ((pH.map _).append_right _) hs
  have s3 : sat (Own (some ⟨bl B i,0,none⟩) cap e size ((dens B segs).take (n * size)) :: (rH.map (Chunk.p B) ++ F)) w:=by
    refine q0x (fun g hg=>?_) s2;refine .inr ⟨bl B i,(dens B segs).drop (n * size),(0,0),rfl,?_,?_,fun i _ h=>by omega,?_⟩
    · rw [List.take_append_drop];exact hg
    · have:=Nat.mul_le_mul_right size hl.2;rw [List.length_take,List.length_drop,hlen];omega
    · rw [List.take_append_drop];exact q0q kc
  exact q07 List.perm_middle.symm s3
theorem Ret.own {B : Names} {H : List Chunk} {F : List HP} {v : SV} {τ : Type} {p : τ → Prop} {val : τ → SV} {qc' : τ → List Cel} {post : τ → List HP} {A : HP} (i n cap size : Nat)
    (h : pickH [i] H H fun ch rH=>∃ segs e,ch = [(i,segs,e)] ∧ (q2a segs = cap * size ∧ n ≤ cap) ∧ okL B segs ∧ Ret B rH (Own (some ⟨bl B i,0,none⟩) cap e size ((dens B segs).take (n * size)) :: F) v p val qc' post A) : Ret B H F v p val qc' post A:=by
  obtain ⟨ch,rH,⟨segs,e,rfl,hl,hk,h1⟩,pH⟩:=q1i h;obtain ⟨t,a,b,c,d,k⟩:=h1.h;exact ⟨t,a,b,c,d,fun w s=>k w (qf7 pH hl hk s)⟩
theorem Wk.own {env env' : Env} {B : Names} {H : List Chunk} {F : List HP} {m' : M} (i n cap size : Nat)
    (h : pickH [i] H H fun ch rH=>∃ segs e,ch = [(i,segs,e)] ∧ (q2a segs = cap * size ∧ n ≤ cap) ∧ okL B segs ∧ Wk env ⟨B,rH,Own (some ⟨bl B i,0,none⟩) cap e size ((dens B segs).take (n * size)) :: F⟩ env' m') : Wk env ⟨B,H,F⟩ env' m':=by
  obtain ⟨ch,rH,⟨segs,e,rfl,hl,hk,h1⟩,pH⟩:=q1i h;exact ⟨h1.b,fun w km s k=>h1.h w (fun c hc=>km c (pH.mem_iff.2 (by simp [hc]))) (qf7 pH hl hk s) k⟩
theorem app1 {α : Type} {enc : α → Value} {P : Program} {t e ty n cap k : Nat} {x y : TyX} {a : Option Addr} {l m : List α} {xs ys : List Value} {B : Names} {H : List Chunk} {F F' : List HP} {src : SV} {f : SV → M → Prop}
    (hxs : xs = l.map enc) (hys : ys = m.map enc) (h1 : ∀ c,(enc c).oneCell' = true) (hy : y.size = 1 ∧ 0 < y.bytes ∧ y.bytes ≤ 1000)
    (hF : F.Perm (Own a cap e 1 xs :: F')) (hsrc : Src ⟨B,H,F⟩ src k ys) (hn : n = l.length) (hk : k = m.length) (hbig : l.length + m.length ≤ 10000000000) (ts : Nat) (hts : P.underlying ts = some .string ∨ ts = t)
    (h : ∀ a' cap',Fc a' cap' (l ++ m) → f (.c (.rs a' (l ++ m).length cap')) ⟨B,H,Own a' cap' e 1 (xs ++ ys) :: F'⟩) :
    With (Ty P t x ∧ x.k = .slice e ∧ Ty P e y) (RunOb P (Builtin.append_ #[t,ts] ty ([SV.c (.rs a n cap),src].map (SV.den B)).toArray) ⟨B,H,F⟩ f):=by
  obtain ⟨hs,hb,hb'⟩:=hy
  have hone : ∀ v ∈ ys,v.oneCell' = true:=fun v hv=>by
    rw [hys,List.mem_map] at hv;obtain ⟨c,_,rfl⟩:=hv;exact h1 c
  refine q1a (a:=a) (n:=n) (cap:=cap) (xs:=xs) (k:=k) (ys:=ys) (F':=F') (by rw [hs];exact hF) (by rw [hs,hxs,List.length_map];omega) (by rw [hs,hys,List.length_map];omega) hsrc hone ?_ (by omega) hb ts hts ?_
  · have : (n + k + (n + k) / 4 + 192) * y.bytes ≤ (n + k + (n + k) / 4 + 192) * 1000:=Nat.mul_le_mul_left _ hb';omega
  · intro a' cap' hc hn';rw [hs];have e1 : n + k = (l ++ m).length:=by rw [List.length_append];omega
    rw [e1] at hc hn' ⊢;exact h a' cap' ⟨hc,fun h=>List.eq_nil_of_length_eq_zero (hn' h)⟩
theorem appb {P : Program} {t e ty n cap k : Nat} {x y : TyX} {a : Option Addr} {l m : List UInt8} {B : Names} {H : List Chunk} {F F' : List HP} {src : SV} {f : SV → M → Prop}
    (hF : F.Perm (Own a cap e 1 (u8s l) :: F')) (hsrc : Src ⟨B,H,F⟩ src k (u8s m)) (hn : n = l.length) (hk : k = m.length) (hy : y.size = 1 ∧ 0 < y.bytes ∧ y.bytes ≤ 1000) (hbig : l.length + m.length ≤ 10000000000) (ts : Nat) (hts : P.underlying ts = some .string ∨ ts = t)
    (h : ∀ a' cap',Fc a' cap' (l ++ m) → f (.c (.rs a' (l ++ m).length cap')) ⟨B,H,Own a' cap' e 1 (u8s (l ++ m)) :: F'⟩) :
    With (Ty P t x ∧ x.k = .slice e ∧ Ty P e y) (RunOb P (Builtin.append_ #[t,ts] ty ([SV.c (.rs a n cap),src].map (SV.den B)).toArray) ⟨B,H,F⟩ f) :=
  app1 (enc:=u8) (l:=l) (m:=m) rfl rfl (fun _=>rfl) hy hF hsrc hn hk hbig ts hts fun a' c' hc=>by
    have e1 : l.map u8 ++ m.map u8 = u8s (l ++ m):=(q0n l m).symm;have e2 : u8s l ++ u8s m = u8s (l ++ m):=(q0n l m).symm
    first | rw [e1] | rw [e2]
    exact h a' c' hc
theorem appw {P : Program} {t e ty n cap k : Nat} {x y : TyX} {a : Option Addr} {l m : List UInt32} {B : Names} {H : List Chunk} {F F' : List HP} {src : SV} {f : SV → M → Prop}
    (hF : F.Perm (Own a cap e 1 (w32s l) :: F')) (hsrc : Src ⟨B,H,F⟩ src k (w32s m)) (hn : n = l.length) (hk : k = m.length) (hy : y.size = 1 ∧ 0 < y.bytes ∧ y.bytes ≤ 1000) (hbig : l.length + m.length ≤ 10000000000) (ts : Nat) (hts : P.underlying ts = some .string ∨ ts = t)
    (h : ∀ a' cap',Fc a' cap' (l ++ m) → f (.c (.rs a' (l ++ m).length cap')) ⟨B,H,Own a' cap' e 1 (w32s (l ++ m)) :: F'⟩) :
    With (Ty P t x ∧ x.k = .slice e ∧ Ty P e y) (RunOb P (Builtin.append_ #[t,ts] ty ([SV.c (.rs a n cap),src].map (SV.den B)).toArray) ⟨B,H,F⟩ f) :=
  app1 (enc:=w32) (l:=l) (m:=m) rfl rfl (fun _=>rfl) hy hF hsrc hn hk hbig ts hts fun a' c' hc=>by
    have e1 : l.map w32 ++ m.map w32 = w32s (l ++ m):=(q3h l m).symm;have e2 : w32s l ++ w32s m = w32s (l ++ m):=(q3h l m).symm
    first | rw [e1] | rw [e2]
    exact h a' c' hc
theorem Src.u8 {B : Names} {H : List Chunk} {F : List HP} {i : Nat} {z : Int} (c : UInt8) (hz : z = c.toNat) (h : atH H i fun segs _ _=>segs = [.one (.int .u8 z)]) : Src ⟨B,H,F⟩ (.c (.slc i 0 1 1)) 1 (u8s [c]):=by
  refine Src.slc ?_;obtain ⟨H1,s,t,H2,put,rfl,e,hp⟩:=q2f h
  have : ∀ (L : List Chunk),atH (L ++ (i,s,t) :: H2) i (fun segs _ _=>segs = [.one (.int .u8 z)]) → atH (L ++ (i,s,t) :: H2) i fun segs _ _=>∃ r,(dens B segs).drop 0 = u8s [c] ++ r:=by
    intro L
    induction L with
    | nil =>
      intro _;simp only [List.nil_append,atH];rw [show Nat.beq i i = true from Nat.beq_refl i];refine ⟨[],?_⟩;subst e hz;rfl
    | cons c' L ih =>
      obtain ⟨k',s',t'⟩:=c';intro h;simp only [List.cons_append,atH] at h ⊢
      cases e' : Nat.beq k' i with
      | true=>rw [e'] at h;dsimp only at h ⊢;subst h hz;exact ⟨[],rfl⟩
      | false=>rw [e'] at h;exact ih h
  exact this H1 h
theorem Src.w32 {B : Names} {H : List Chunk} {F : List HP} {i : Nat} {z : Int} (c : UInt32) (hz : z = c.toNat) (h : atH H i fun segs _ _=>segs = [.one (.int .u32 z)]) : Src ⟨B,H,F⟩ (.c (.slc i 0 1 1)) 1 (w32s [c]):=by
  refine Src.slc ?_;obtain ⟨H1,s,t,H2,put,rfl,e,hp⟩:=q2f h
  have : ∀ (L : List Chunk),atH (L ++ (i,s,t) :: H2) i (fun segs _ _=>segs = [.one (.int .u32 z)]) → atH (L ++ (i,s,t) :: H2) i fun segs _ _=>∃ r,(dens B segs).drop 0 = w32s [c] ++ r:=by
    intro L
    induction L with
    | nil =>
      intro _;simp only [List.nil_append,atH];rw [show Nat.beq i i = true from Nat.beq_refl i];refine ⟨[],?_⟩;subst e hz;rfl
    | cons c' L ih =>
      obtain ⟨k',s',t'⟩:=c';intro h;simp only [List.cons_append,atH] at h ⊢
      cases e' : Nat.beq k' i with
      | true=>rw [e'] at h;dsimp only at h ⊢;subst h hz;exact ⟨[],rfl⟩
      | false=>rw [e'] at h;exact ih h
  exact this H1 h
theorem ldw {P : Program} {t : Nat} {x : TyX} {b off : Nat} {m : M} {f : SV → Prop} {A : HP} {p : Nat × Nat} {l : List UInt32} (k : Nat) (hA : A ∈ m.F) (hr : Rd A (some (radr p)) (w32s l)) (hk : k < l.length) (hx : x.k.agg = false)
    (hb : b = p.1) (ho : off = p.2 + k) (h : f (.c (.int .u32 ((wg l k).toNat : Int)))) : With (Ty P t x) (LdOb P t ⟨b,off,none⟩ m f) :=
  ld k (.int .u32 ((wg l k).toNat : Int)) hx hA hr hb ho (by rw [q6g hk,wg_eq hk];rfl) trivial h
theorem idxw {a : Option Addr} {m : M} {A : HP} {l : List UInt32} {j : Int} {q : Nat × Nat → Prop} (k : Nat) (hA : A ∈ m.F) (hr : Rd A a (w32s l)) (hk : k < l.length) (hj : j = k)
    (h : ∀ p,a = some (radr p) → q p) : (0 ≤ j ∧ j < l.length) ∧ PtrOb a m q :=
  ⟨by omega,PtrOb.rd hA hr (by rw [q1b];omega) h⟩
end Go.Sx
namespace Go.Sx
section
variable {ro : Option Nat} {P : Program} {ops : Array Oper} {C : World → Prop} {Q : Act → World → Prop} {z : Nat}
theorem q9r {i : Nat} {oi : Oper} {v : Value} (hse : ∀ oz,ops[z]? = some oz → Reach ops z i) (hiz : i ≠ z) (hi : ops[i]? = some oi) (hsel : ∀ (j : Nat) (o : Oper) cs b,ops[j]? = some o → o.op ≠ .select cs b) :
    ∀ (n : Nat) (listed : Array Bool) (a : Act) (w : World),
      (∀ j oj,ops[j]? = some oj → j ≠ i → listed.getD j true = false → (∀ e ∈ oj.after,Region.binds .any e = true → e.on ≠ i) → oi.apart ops oj = true) →
      Closed ops listed → i ∈ Region.ready .any ops listed → YieldsS P ops C oi v a → C w → listed.getD z false = false →
      anyC ro P ops C z Q n (listed.setIfInBounds i true) (a.put oi.dst v) w → anyC ro P ops C z Q (n + 1) listed a w:=by
  intro n
  induction n with
  | zero =>
    intro listed a w _ _ hr hy hC hz H;refine ⟨fun _=>hC,fun h=>(by rw [h] at hr;cases hr),fun j hj=>?_⟩
    by_cases hji : j = i
    · subst hji;exact hy.wpOp hi hC H
    · have:=ready_mono hj hji;rw [H.2.1] at this;cases this
  | succ n ih =>
    intro listed a w hfree hcl hr hy hC hz H;refine ⟨fun _=>hC,fun h=>(by rw [h] at hr;cases hr),fun j hj=>?_⟩
    by_cases hji : j = i
    · subst hji;exact hy.wpOp hi hC H
    · have h1:=H.2.2 j (ready_mono hj hji);obtain ⟨hjun,oj,hoj,hall⟩:=mem_ready.1 hj
      have hnot : ∀ e ∈ oj.after,Region.binds .any e = true → e.on ≠ i:=fun e he hb heq=>by
        have h1:=hall e he hb;have h0:=(mem_ready.1 hr).1;rw [heq] at h1
        rcases Nat.lt_or_ge i listed.size with h' | h'
        · simp [h'] at h0 h1;rw [h0] at h1;cases h1
        · simp [Array.getElem?_eq_none h'] at h1
      have hjz : j ≠ z:=fun e=>by
        subst e;obtain ⟨oj',hj',e,he,hb,ho⟩:=(hse oj hoj).inv;rw [hoj] at hj';cases hj'
        rcases ho with ho | ho
        · exact hnot e he hb ho
        · have h1:=hcl.reach ho (hall e he hb);have h0:=(mem_ready.1 hr).1
          rcases Nat.lt_or_ge i listed.size with h' | h'
          · simp [h'] at h0 h1;rw [h0] at h1;cases h1
          · simp [Array.getElem?_eq_none h'] at h1
      have hz' : (listed.setIfInBounds j true).getD z false = false:=by rw [getD_set_ne false hjz];exact hz
      have hz2 : ((listed.setIfInBounds j true).setIfInBounds i true).getD z false = false:=by rw [getD_set_ne false hiz];exact hz'
      have h2:=q99 hoj (hfree j oj hoj hji hjun hnot) (fun cs b=>hsel i oi cs b hi) (fun cs b=>hsel j oj cs b hoj) hy h1
      have hfree' : ∀ k ok,ops[k]? = some ok → k ≠ i → (listed.setIfInBounds j true).getD k true = false →
          (∀ e ∈ ok.after,Region.binds .any e = true → e.on ≠ i) → oi.apart ops ok = true:=fun k ok hk hki hun hno=>by
        refine hfree k ok hk hki ?_ hno
        by_cases hjk : j = k
        · subst hjk;exact hjun
        · rw [getD_set_ne true hjk] at hun;exact hun
      refine wpOpIn_mono (fun a' w' h3=>?_) h2;rw [Array.setIfInBounds_comm _ _ (Ne.symm hji)] at h3;exact ih (listed.setIfInBounds j true) a' w' hfree' (hcl.set hj) (ready_mono hr (Ne.symm hji)) h3.1 (qnk h3.2 hz2) hz' h3.2
def q76 (ops : Array Oper) (z mask i : Nat) : Bool:=Nat.ble ops.size z || Nat.beq (mask >>> i % 2) 1
def q3v (ops : Array Oper) (z mask : Nat) (q : Oper → Bool) : Tr → Array Bool → Bool
  | .nil,listed=>(Region.ready .any ops listed).isEmpty && (Nat.ble ops.size z || listed.getD z false)
  | .one i r,listed=>(match ops[i]? with
      | none=>false
      | some o=>if q o && !(listed.getD z false || Nat.beq i z) then q76 ops z mask i && (Region.ready .any ops listed).contains i && Region.free .any ops listed i else Region.ready .any ops listed == [i]) &&
    q3v ops z mask q r (listed.setIfInBounds i true)
  | .two i r j s,listed=>(match ops[i]? with | none=>false | some o=>!(q o && !(listed.getD z false || Nat.beq i z))) && (match ops[j]? with | none=>false | some o=>!(q o && !(listed.getD z false || Nat.beq j z))) && Region.ready .any ops listed == [i,j] && Nat.beq r.len s.len &&
    q3v ops z mask q r (listed.setIfInBounds i true) && q3v ops z mask q s (listed.setIfInBounds j true)
def runU (ro : Option Nat) (P : Program) (ops : Array Oper) (C : World → Prop) (z : Nat) (Q : Act → World → Prop) (q : Oper → Bool) : Bool → Tr → Act → World → Prop
  | _,.nil,a,w=>((Nat.ble ops.size z) = true → C w) ∧ Q a w
  | g,.one i r,a,w=>(g = false → C w) ∧ ∃ o,ops[i]? = some o ∧ if q o && !(g || Nat.beq i z) then ∃ v,YieldsS P ops C o v a ∧ runU ro P ops C z Q q (g || Nat.beq i z) r (a.put o.dst v) w else wpOpIn (Wf ro) 0 P ops (QN Q) i (runU ro P ops C z Q q (g || Nat.beq i z) r) a w
  | g,.two i r j s,a,w=>(g = false → C w) ∧ (∀ o,ops[i]? = some o → (q o && !(g || Nat.beq i z)) = false → wpOpIn (Wf ro) 0 P ops (QN Q) i (runU ro P ops C z Q q (g || Nat.beq i z) r) a w) ∧
      ∀ o,ops[j]? = some o → (q o && !(g || Nat.beq j z)) = false → wpOpIn (Wf ro) 0 P ops (QN Q) j (runU ro P ops C z Q q (g || Nat.beq j z) s) a w
theorem q38 {listed : Array Bool} {g : Bool} {i : Nat} (hs : listed.size = ops.size) (hg : g = listed.getD z false) {o : Oper} (ho : ops[i]? = some o) : (g || Nat.beq i z) = (listed.setIfInBounds i true).getD z false:=by
  have hi:=(Array.getElem?_eq_some_iff.1 ho).1
  by_cases e : i = z
  · subst e;rw [show Nat.beq i i = true from Nat.beq_refl i,Bool.or_true];have : i < listed.size:=by omega
    simp [this]
  · rw [show Nat.beq i z = false from (Bool.not_eq_true _ ▸ fun h=>e (Nat.eq_of_beq_eq_true h) : Nat.beq i z = false),Bool.or_false,getD_set_ne false e,hg]
theorem q2w {q : Oper → Bool} {mask : Nat} (hs : Region.noSelect ops = true) (hm : ∀ i,q76 ops z mask i = true → i ≠ z → ∀ oz,ops[z]? = some oz → Reach ops z i) :
    ∀ (t : Tr) (g : Bool) (listed : Array Bool) (a : Act) (w : World),listed.size = ops.size → g = listed.getD z false → Closed ops listed → q3v ops z mask q t listed = true → runU ro P ops C z Q q g t a w → anyC ro P ops C z Q t.len listed a w
  | .nil,g,listed,a,w,hsz,hg,hcl,hB,h=>by
    simp only [q3v,Bool.and_eq_true,Bool.or_eq_true,List.isEmpty_iff] at hB;refine ⟨fun hz=>?_,hB.1,h.2⟩
    rcases hB.2 with h2 | h2
    · exact h.1 h2
    · rw [hz] at h2;cases h2
  | .one i r,g,listed,a,w,hsz,hg,hcl,hB,h=>by
    obtain ⟨hC,o,ho,h⟩:=h;have hgs:=q38 (z:=z) hsz hg ho;simp only [q3v,ho] at hB;rw [← hg,Bool.and_eq_true] at hB;obtain ⟨hB1,hB2⟩:=hB
    by_cases hq : (q o && !(g || Nat.beq i z)) = true
    · rw [if_pos hq] at h hB1;obtain ⟨v,hy,h⟩:=h
      have hq2 : q o = true ∧ g = false ∧ Nat.beq i z = false:=by
        cases h1 : q o <;> cases h2 : g <;> cases h3 : Nat.beq i z <;> simp_all
      have hiz : i ≠ z:=Nat.ne_of_beq_eq_false hq2.2.2;simp only [Bool.and_eq_true] at hB1
      exact q9r (hm i hB1.1.1 hiz) hiz ho (Region.noSelect_spec hs) r.len listed a w (Region.free_spec ho hB1.2) hcl (by simpa using hB1.1.2) hy (hC hq2.2.1) (by rw [← hg,hq2.2.1])
        (q2w hs hm r _ _ _ _ (by simpa using hsz) hgs (hcl.set (by simpa using hB1.1.2)) hB2 h)
    · rw [if_neg hq] at h hB1;have hB1 : Region.ready .any ops listed = [i]:=by simpa using hB1
      show anyC ro P ops C z Q (r.len + 1) listed a w;refine ⟨fun hz=>hC (hg.trans hz),fun h0=>absurd (hB1.symm.trans h0) (by simp),fun j hj=>?_⟩;rw [hB1] at hj
      simp at hj
      subst hj;exact wpOpIn_mono (fun a' w' h'=>q2w hs hm r _ _ _ _ (by simpa using hsz) hgs (hcl.set (by rw [hB1];simp)) hB2 h') h
  | .two i r j s,g,listed,a,w,hsz,hg,hcl,hB,h=>by
    obtain ⟨hC,h1,h2⟩:=h;simp only [q3v] at hB;rw [← hg] at hB;simp only [Bool.and_eq_true] at hB;obtain ⟨⟨⟨⟨⟨hi,hj⟩,hr⟩,hl⟩,hBr⟩,hBs⟩:=hB;have hr : Region.ready .any ops listed = [i,j]:=by simpa using hr
    have hl : r.len = s.len:=Nat.eq_of_beq_eq_true hl;show anyC ro P ops C z Q (r.len + 1) listed a w;refine ⟨fun hz=>hC (hg.trans hz),fun h0=>absurd (hr.symm.trans h0) (by simp),fun k hk=>?_⟩;rw [hr] at hk;simp only [List.mem_cons,List.not_mem_nil,or_false] at hk
    rcases hk with rfl | rfl
    · cases ho : ops[k]? with
      | none=>rw [ho] at hi;cases hi
      | some o =>
        rw [ho] at hi;exact wpOpIn_mono (fun a' w' h'=>q2w hs hm r _ _ _ _ (by simpa using hsz) (q38 hsz hg ho) (hcl.set (by rw [hr];simp)) hBr h') (h1 o ho ((Bool.not_eq_true' _).mp hi))
    · cases ho : ops[k]? with
      | none=>rw [ho] at hj;cases hj
      | some o =>
        rw [ho] at hj;rw [hl];exact wpOpIn_mono (fun a' w' h'=>q2w hs hm s _ _ _ _ (by simpa using hsz) (q38 hsz hg ho) (hcl.set (by rw [hr];simp)) hBs h') (h2 o ho ((Bool.not_eq_true' _).mp hj))
def q7m (ops : Array Oper) (z : Nat) : Nat:=match ops[z]? with
  | none=>0
  | some _=>sweep ops ops.size (1 <<< z)
theorem q9f : ∀ i,q76 ops z (q7m ops z) i = true → i ≠ z → ∀ oz,ops[z]? = some oz → Reach ops z i:=by
  intro i h hiz oz ho;have hz:=(Array.getElem?_eq_some_iff.1 ho).1;simp only [q76,Bool.or_eq_true] at h
  rcases h with h | h
  · have:=Nat.le_of_ble_eq_true h;omega
  · simp only [q7m,ho] at h;have h:=qmn.1 (Nat.eq_of_beq_eq_true h);have:=q70 (ops:=ops) (z:=z) ops.size (1 <<< z) (fun i hi=>by rw [Nat.shiftLeft_eq,Nat.one_mul,Nat.testBit_two_pow] at hi;exact .inl (of_decide_eq_true hi).symm) i h;exact this.resolve_left hiz
theorem q73 {id : Nat} {Q' : Exit → Act → World → Prop} {a : Act} {w : World} {q : Oper → Bool} (hm : P.follows .mixedOrders = true) (t : Tr)
    (hB : (Region.noSelect ops && q3v ops z (q7m ops z) q t (Array.replicate ops.size false) && t.len == ops.size) = true)
    (h : runU ro P ops C z (fun a w=>Q' .normal a w) q false t a { w with drawn:=w.drawn + 1 }) : (Code.region id ops true).wpIn (Wf ro) 0 P Q' a w:=by
  simp only [Bool.and_eq_true,beq_iff_eq] at hB;refine wpIn_mono (wpIn_region_any hm ?_) ?_ (Q:=QN fun a w=>Q' .normal a w)
  · have:=q7v _ _ _ _ (q2w hB.1.1 q9f t false (Array.replicate ops.size false) _ _ (by simp) (by
      by_cases h : z < ops.size <;> simp [h]) Closed.zero hB.1.2 h)
    rw [hB.2] at this;exact this
  · intro e a w hq;cases e <;> first | exact hq | exact hq.elim
end
def ordU (P : Program) (tt : TT) (N : Nat) (all : List Oper) (Hs : List Chunk) (Fs : List HP) (gone : Bool) (i : Nat) (k : Env → M → (Env → M → Prop) → Prop) (env : Env) (m : M) (f : Env → M → Prop) : Prop :=
  nthO all i fun o=>q93 all o env
    (fun env=>match gone with
      | true=>Sx.execOp P tt o env m fun v m'=>put N o.dst v env fun env'=>k env' m' f
      | false=>match isQ tt o with
        | true=>qd9 tt o (match m with | ⟨B,H,F⟩=>Sx.execOp P tt o env ⟨B,Hs,Fs⟩ fun v _=>put N o.dst v env fun env'=>k env' ⟨B,H,F⟩ f)
        | false=>Sx.execOp P tt o env m fun v m'=>put N o.dst v env fun env'=>Sub m' Hs Fs (k env' m' f))
    (fun env=>put N o.dst (.tup []) env fun env'=>k env' m f)
noncomputable def execU (P : Program) (tt : TT) (N : Nat) (all : List Oper) (z : Nat) (Hs : List Chunk) (Fs : List HP) (t : Tr) : Bool → Env → M → (Env → M → Prop) → Prop :=
  @Tr.rec (fun _=>Bool → Env → M → (Env → M → Prop) → Prop) (fun _ env m f=>f env m) (fun i _ ih g=>ordU P tt N all Hs Fs (g || Nat.beq i z) i (ih (g || Nat.beq i z)))
    (fun i _ j _ ih ih' g env m f=>ordU P tt N all Hs Fs (g || Nat.beq i z) i (ih (g || Nat.beq i z)) env m f ∧ ordU P tt N all Hs Fs (g || Nat.beq j z) j (ih' (g || Nat.beq j z)) env m f) t
theorem loudU {ro : Option Nat} {P : Program} {tt : TT} {N : Nat} (ok : tt.ok P) {all : List Oper} {Hs : List Chunk} {Fs : List HP} {B0 : Names} {k : Env → M → (Env → M → Prop) → Prop} {R : Act → World → Prop} {Q : Act → World → Prop}
    {f : Env → M → Prop} {i : Nat} {g : Bool} {env : Env} {m : M} {a : Act} {w : World} {o : Oper} (ho : all[i]? = some o) (hq : (isQ tt o && !g) = false)
    (h : ordU P tt N all Hs Fs g i k env m f) (st : St N env m a w) (hB : ExtS B0 m.B) (hS : g = false → ∀ w,sat m.props w → sat (M.props ⟨m.B,Hs,Fs⟩) w)
    (K : ∀ env' m' a' w',k env' m' f → St N env' m' a' w' → ExtS B0 m'.B → (g = false → ∀ w,sat m'.props w → sat (M.props ⟨m'.B,Hs,Fs⟩) w) → R a' w') :
    wpOpIn (Wf ro) 0 P all.toArray (QN Q) i R a w:=by
  obtain ⟨o',ho',h1⟩:=q2v h;rw [ho] at ho';obtain rfl:=Option.some.inj ho';obtain ⟨env,st,h2⟩:=q28 st h1
  by_cases hw : Region.wanted o (yielded all.toArray a.tmps) = true
  · rw [if_pos hw] at h2;unfold wpOpIn;simp only [List.getElem?_toArray,ho];rw [if_pos hw]
    cases g with
    | true =>
      refine (q3z (nd_of h2) (q1g ok st h2) st.k st.s ?_);rintro v w' ⟨x,m',rfl,kx,he,km,hs,hf⟩;obtain ⟨env',hg,st'⟩:=q2d st he km hs kx hf;exact K env' m' _ w' hg st' (hB.ext he) (fun h=>by cases h)
    | false =>
      have hq : isQ tt o = false:=by simpa using hq
      rw [hq] at h2;refine (q3z (nd_of h2) (q1g ok st h2) st.k st.s ?_);rintro v w' ⟨x,m',rfl,kx,he,km,hs,hf⟩;obtain ⟨env',hg,st'⟩:=q2d st he km hs kx hf;exact K env' m' _ w' hg.x st' (hB.ext he) (fun _=>hg.s)
  · rw [if_neg hw] at h2;have hw : Region.wanted o (yielded all.toArray a.tmps) = false:=by simpa using hw
    obtain ⟨env',hg,st'⟩:=q33 st h2;unfold wpOpIn;simp only [List.getElem?_toArray,ho,hw,Bool.false_eq_true,if_false];exact ⟨fun _ _=>trivial,K env' m _ w hg st' hB hS⟩
theorem q62 {g b : Bool} (h : (g || b) = false) : g = false:=by cases g <;> simp_all
theorem q3a {ro : Option Nat} {P : Program} {tt : TT} {N : Nat} (ok : tt.ok P) {all : List Oper} {z : Nat} {Hs : List Chunk} {Fs : List HP} {B0 : Names} (kH : ∀ c ∈ Hs,Chunk.ok B0 c) {f : Env → M → Prop} :
    ∀ (t : Tr) (g : Bool) (env : Env) (m : M) (a : Act) (w : World),(g = true → z < all.length) → execU P tt N all z Hs Fs t g env m f → St N env m a w → ExtS B0 m.B → (g = false → ∀ w,sat m.props w → sat (M.props ⟨m.B,Hs,Fs⟩) w) →
      runU ro P all.toArray (sat (M.props ⟨B0,Hs,Fs⟩)) z (fun a w=>∃ env' m',f env' m' ∧ St N env' m' a w) (isQ tt) g t a w
  | .nil,g,env,m,a,w,hz,h,st,hB,hS=>by
    refine ⟨fun hb=>?_,env,m,h,st⟩;have hb:=Nat.le_of_ble_eq_true hb
    have hg : g = false:=by
      cases g with
      | false=>rfl
      | true=>have:=hz rfl;simp at hb;omega
    have:=hS hg w st.s;simp only [M.props,(hB.chunks kH).2] at this;exact this
  | .two i r j s,g,env,m,a,w,hz,h,st,hB,hS=>by
    have same : M.props ⟨m.B,Hs,Fs⟩ = M.props ⟨B0,Hs,Fs⟩:=by simp only [M.props,(hB.chunks kH).2]
    refine ⟨fun hg=>by rw [← same];exact hS hg w st.s,fun o ho hq=>?_,fun o ho hq=>?_⟩
    · refine loudU ok (by simpa using ho) hq h.1 st hB (fun h=>hS (q62 h)) fun env' m' a' w' h' st' hB' hS'=>q3a ok kH r _ env' m' a' w' (fun hh=>?_) h' st' hB' hS'
      rcases Bool.or_eq_true_iff.1 hh with hh | hh
      · exact hz hh
      · have:=Nat.eq_of_beq_eq_true hh;subst this;exact (List.getElem?_eq_some_iff.1 (show all[i]? = some o by simpa using ho)).1
    · refine loudU ok (by simpa using ho) hq h.2 st hB (fun h=>hS (q62 h)) fun env' m' a' w' h' st' hB' hS'=>q3a ok kH s _ env' m' a' w' (fun hh=>?_) h' st' hB' hS'
      rcases Bool.or_eq_true_iff.1 hh with hh | hh
      · exact hz hh
      · have:=Nat.eq_of_beq_eq_true hh;subst this;exact (List.getElem?_eq_some_iff.1 (show all[j]? = some o by simpa using ho)).1
  | .one i r,g,env,m,a,w,hz,h,st,hB,hS=>by
    have same : M.props ⟨m.B,Hs,Fs⟩ = M.props ⟨B0,Hs,Fs⟩:=by simp only [M.props,(hB.chunks kH).2]
    refine ⟨fun hg=>by rw [← same];exact hS hg w st.s,?_⟩;have h : ordU P tt N all Hs Fs (g || Nat.beq i z) i (execU P tt N all z Hs Fs r (g || Nat.beq i z)) env m f:=h;have h0:=h;obtain ⟨o,ho,h1⟩:=q2v h;refine ⟨o,by simpa using ho,?_⟩
    by_cases hq : (isQ tt o && !(g || Nat.beq i z)) = true
    · rw [if_pos hq]
      have hq2 : isQ tt o = true ∧ g = false ∧ Nat.beq i z = false:=by
        cases h1 : isQ tt o <;> cases h2 : g <;> cases h3 : Nat.beq i z <;> simp_all
      obtain ⟨hqo,rfl,hiz⟩:=hq2;rw [hiz] at h1 ⊢;obtain ⟨env,st,h2⟩:=q28 st h1
      by_cases hw : Region.wanted o (yielded all.toArray a.tmps) = true
      · rw [if_pos hw,hqo] at h2;obtain ⟨hqq,h3⟩:=q3i h2
        cases m with
        | mk B H F =>
        have st' : St N env ⟨B,Hs,Fs⟩ a w:=⟨st.d,st.n,st.l,(hB.chunks kH).1,hS rfl w st.s⟩
        rcases q1g ok st' h3 with ⟨x,kx,hf,hr⟩ | ⟨hn,_⟩
        · obtain ⟨env',hg,st2⟩:=q2d st (.inl rfl) st.k st.s kx hf;refine ⟨x.den B,.inl ⟨hw,fun w hw'=>hr w (by rw [same];exact hw')⟩,?_⟩;exact q3a ok kH r false env' ⟨B,H,F⟩ _ w (fun h=>by cases h) hg st2 hB hS
        · exact absurd hqq hn
      · rw [if_neg hw] at h2;have hw : Region.wanted o (yielded all.toArray a.tmps) = false:=by simpa using hw
        obtain ⟨env',hg,st'⟩:=q33 st h2;exact ⟨undef,.inr ⟨hw,rfl⟩,q3a ok kH r false env' m _ w (fun h=>by cases h) hg st' hB hS⟩
    · rw [if_neg hq];have hq : (isQ tt o && !(g || Nat.beq i z)) = false:=by simpa using hq
      refine loudU ok ho hq h0 st hB (fun h=>hS (q62 h)) fun env' m' a' w' h' st' hB' hS'=>q3a ok kH r _ env' m' a' w' (fun hh=>?_) h' st' hB' hS'
      rcases Bool.or_eq_true_iff.1 hh with hh | hh
      · exact hz hh
      · have:=Nat.eq_of_beq_eq_true hh;subst this;exact (List.getElem?_eq_some_iff.1 ho).1
theorem Draw.part {P : Program} {tt : TT} {N : Nat} {ops : List Oper} {env : Env} {m : M} {f : Env → M → Prop} (hm : P.follows .mixedOrders = true) (ok : tt.ok P) (t : Tr) (z : Nat) (Hs : List Chunk) (Fs : List HP)
    (hB : (Region.noSelect ops.toArray && q3v ops.toArray z (q7m ops.toArray z) (isQ tt) t (Array.replicate ops.toArray.size false) && t.len == ops.toArray.size) = true)
    (kH : m.ok → ∀ c ∈ Hs,Chunk.ok m.B c) (h : Sub m Hs Fs (execU P tt N ops z Hs Fs t false env m f)) : Draw P tt N ops env m f:=by
  refine ⟨fun ro id Q a w hd hn hl hk hs hQ=>?_⟩
  have st : St N env m a { w with drawn:=w.drawn + 1 }:=⟨hd,hn,hl,hk,q3u hs rfl⟩;have:=q3a (ro:=ro) ok (B0:=m.B) (kH hk) t false env m a _ (fun h=>by cases h) h.x st ⟨fun i hi=>⟨hi,rfl⟩⟩ (fun _=>h.s);refine wpIn_mono (q73 (C:=sat (M.props ⟨m.B,Hs,Fs⟩)) (Q':=fun e a w=>e = .normal ∧ ∃ env' m',f env' m' ∧ St N env' m' a w) hm t hB ?_) ?_
  · have e : (fun a w=>(fun (e : Exit) a w=>e = .normal ∧ ∃ env' m',f env' m' ∧ St N env' m' a w) Exit.normal a w) = fun a w=>∃ env' m',f env' m' ∧ St N env' m' a w:=by
      funext a w;simp
    rw [e];exact this
  · rintro e a w ⟨rfl,env',m',hf,st⟩;exact hQ a w env' m' st.d st.n st.l st.k st.s hf
theorem Draw.till {P : Program} {tt : TT} {N : Nat} {ops : List Oper} {env : Env} {B : Names} {H : List Chunk} {F : List HP} {f : Env → M → Prop} (hm : P.follows .mixedOrders = true) (ok : tt.ok P) (t : Tr) (z : Nat)
    (hB : (Region.noSelect ops.toArray && q3v ops.toArray z (q7m ops.toArray z) (isQ tt) t (Array.replicate ops.toArray.size false) && t.len == ops.toArray.size) = true)
    (h : execU P tt N ops z H F t false env ⟨B,H,F⟩ f) : Draw P tt N ops env ⟨B,H,F⟩ f :=
  .part hm ok t z H F hB (fun k=>k) (Sub.whole h)
end Go.Sx
namespace Go.Sx
section
open Go.MapKept
def Mit (r g since : Nat) (seen : List Nat) (c : Nat) : HP:=blk r (.mapIter (some g) since seen.toArray c)
theorem Mit.heap {B : Names} {H : List Chunk} {F : List HP} {r g s c : Nat} {seen : List Nat} {w : World} (hF : Mit r g s seen c ∈ F) (hs : sat (M.props ⟨B,H,F⟩) w) : w.heap[r]? = some (.mapIter (some g) s seen.toArray c):=by
  obtain ⟨h,hle,hp⟩:=sat_F (m:=⟨B,H,F⟩) hF hs;exact hle.out _ _ hp
end
theorem Ent.seps {L M : List HP} (h : ∀ h,Sx.seps L h → Sx.seps M h) : Ent (Sx.all L) (Sx.all M):=fun g hg=>⟨g,.refl g,h g hg⟩
theorem Ent.nest {p : HP} {M : List HP} : Ent (Sx.all (p :: M)) (Sx.all [p,Sx.all M]) :=
  Ent.seps fun _ s=>q63 (.swap _ _ _) (q14.2 (q63 (List.perm_append_comm (l₁:=[p])) s))
theorem Ent.two {L : List HP} {p : HP} {M : List HP} (is : List Nat) (h : pickF is L fun l _=>l = p :: M ∧ True) : Ent (Sx.all L) (Sx.all [p,Sx.all M]):=(Ent.sub is h).trans Ent.nest
end Go.Sx
namespace Go.Sx
theorem q3m {P : Program} {t e ty ts n cap k : Nat} {x y : TyX} {a : Option Addr} {xs : List Value} {B : Names} {H : List Chunk} {F F' : List HP} {kk : IntKind} {zv : Value} {f : SV → M → Prop}
    (hF : F.Perm (Own a cap e y.size xs :: F')) (hxs : xs.length = n * y.size) (hy1 : y.size = 1) (hzv : dens [] y.zero = [zv])
    (hbig : (n + k + (n + k) / 4 + 192) * y.bytes ≤ 281474976710656) (hbig' : n + k ≤ 281474976710656) (hpos : 0 < y.bytes) (hts : P.underlying ts = some (.int kk))
    (h : ∀ a' cap',n + k ≤ cap' → (a' = none → n + k = 0) → f (.c (.rs a' (n + k) cap')) ⟨B,H,Own a' cap' e y.size (xs ++ List.replicate k zv) :: F'⟩) :
    With (Ty P t x ∧ x.k = .slice e ∧ Ty P e y) (RunOb P (Builtin.append_ #[t,ts] ty ([SV.c (.rs a n cap),SV.c (.int .i64 k)].map (SV.den B)).toArray) ⟨B,H,F⟩ f):=by
  refine ⟨fun ⟨T,hk,E⟩=>⟨fun km w hs=>?_⟩⟩;have hu:=q21 T hk;obtain ⟨ie,_,_,hie,_,_,hes,heb,hez,hec⟩:=E.h
  rename_i z _ _
  have hzs : z.cells.size = y.size:=by rw [← Array.length_toList,hec,q0y E.z,E.l]
  have hz1 : ∀ v ∈ z.cells.toList,v.oneCell' = true:=by rw [hec];exact q0q E.z
  have hs2 : sat (Own a cap e y.size xs :: (H.map (Chunk.p B) ++ F')) w:=q07 ((List.Perm.append_left _ hF).trans List.perm_middle) hs
  have old : ∀ w',w'.heap = w.heap → (Builtin.firstCells y.size n (.slice a n cap)).run P w' = .ok xs.toArray w':=by
    intro w' he;have : Src ⟨B,H,F⟩ (.c (.rs a n cap)) n xs:=Src.rs (A:=Own a cap e y.size xs) (hF.mem_iff.2 (by simp)) Own.rd;exact (this.run (P:=P) km hs he hxs).2
  have eargs : ([SV.c (.rs a n cap),SV.c (.int .i64 k)].map (SV.den B)).toArray = #[.slice a n cap,.int .i64 k]:=rfl;show ∃ v w',(Builtin.append_ #[t,ts] ty ([SV.c (.rs a n cap),SV.c (.int .i64 k)].map (SV.den B)).toArray).run P w = .ok v w' ∧ _;rw [eargs];generalize hys0 : List.replicate k zv = ys at h;have hzl : z.cells.toList = [zv]:=by rw [hec];exact hzv
  have hza : z.cells = #[zv]:=by apply Array.ext';simpa using hzl
  have hzz : Builtin.zeroCells z.cells k = ys.toArray:=by
    rw [← hys0,hza]
    apply Array.ext'
    simp only [Builtin.zeroCells,Array.toList_map,Array.toList_range,List.size_toArray,List.length_cons,List.length_nil];rw [show k * 1 = k by omega]
    apply List.ext_getElem
    · simp
    · intro i h1 h2;simp [Nat.mod_one]
  have hys : ys.length = k * y.size:=by rw [← hys0,hy1];simp
  have h1 : ∀ v ∈ ys,v.oneCell' = true:=by
    intro v hv;rw [← hys0] at hv;exact hz1 v (by rw [hzl,(List.mem_replicate.1 hv).2];simp)
  -- what the result needs
  have fin : ∀ (v : Value) (w' : World) (a' : Option Addr) (cap' : Nat),v = .slice a' (n + k) cap' → n + k ≤ cap' → (a' = none → n + k = 0) → sat (Own a' cap' e y.size (xs ++ ys) :: (H.map (Chunk.p B) ++ F')) w' →
      (Builtin.append_ #[t,ts] ty #[.slice a n cap,.int .i64 k]).run P w = .ok v w' →
      ∃ v w',(Builtin.append_ #[t,ts] ty #[.slice a n cap,.int .i64 k]).run P w = .ok v w' ∧ ∃ x m',v = SV.den m'.B x ∧ x.ok m'.B ∧ m'.ok ∧ sat m'.props w' ∧
        (m'.B = B ∨ ∃ d b,fresh B d True ∧ m'.B = (d,b) :: B) ∧ f x m':=by
    intro v w' a' cap' hv hc1 hc2 hs' hr;refine ⟨v,w',hr,.c (.rs a' (n + k) cap'),⟨B,H,Own a' cap' e y.size (xs ++ ys) :: F'⟩,hv,trivial,km,?_,.inl rfl,h a' cap' hc1 hc2⟩;exact q07 List.perm_middle.symm hs'
  have hsz : ∀ w',(sizeOf e).run P w' = .ok y.size w':=fun w'=>E.run_sizeOf w';have hty : ∀ w',(typeInfo e).run P w' = .ok ie w':=fun w'=>by simp [typeInfo,hie]
  have hzero : ∀ w',(zeroValue e).run P w' = .ok z w':=fun w'=>by simp [zeroValue,typeInfo,hie,hez]
  have hund : ∀ w',(underlying t).run P w' = .ok (.slice e) w':=fun w'=>run_underlying hu w';have hundts : ∀ w',(underlying ts).run P w' = .ok (.int kk) w':=fun w'=>run_underlying hts w';have hai : ∀ (j : Int) w',(asInt (.int .i64 j)).run P w' = .ok j w':=fun _ _=>rfl;have hneg : ¬ ((k : Int) < 0):=by omega
  have hwr : IntKind.i64.wrap (k : Int) = k:=IntWalk.i64_in _ (by omega)
  have hkb : ¬ ((k : Int) * (y.bytes : Int) > 281474976710656):=by
    have h2 : k * y.bytes ≤ (n + k + (n + k) / 4 + 192) * y.bytes:=Nat.mul_le_mul_right _ (by omega);have : ((k * y.bytes : Nat) : Int) = (k : Int) * (y.bytes : Int):=by push_cast;rfl
    omega
  have hkb' : ¬ (281474976710656 < (k : Int) * (y.bytes : Int)):=hkb
  by_cases hroom : n + k ≤ cap
  · rcases q4d hs2 with ⟨rfl,rfl,rfl⟩ | ⟨b,junk,fz,rfl,hb,hl,hf,hone,hs3⟩
    · have hn0 : n = 0:=by omega
      have hk0 : k = 0:=by omega
      subst hn0 hk0;have hy0 : ys = []:=List.eq_nil_of_length_eq_zero (by simpa using hys);subst hy0;refine fin (.slice none 0 0) w none 0 rfl (Nat.le_refl _) (fun _=>rfl) hs2 ?_
      simp [Builtin.append_,hund,hsz,hundts,hai,show IntKind.i64.wrap 0 = 0 from by decide,hty,heb]
    · have hst:=q0w (P:=P) hf ys (n * y.size) 0 (xs ++ junk) w hb (by simpa using hl) (by rw [hys,Nat.add_zero,← Nat.add_mul];exact Nat.mul_le_mul_right _ hroom) h1;have e1 : (xs ++ junk).take (n * y.size + 0) = xs:=by rw [Nat.add_zero,← hxs,List.take_left]
      have e2 : (xs ++ junk).drop (n * y.size + 0 + ys.length) = junk.drop ys.length:=by rw [Nat.add_zero,← hxs,← List.drop_drop,List.drop_left]
      rw [e1,e2] at hst;have hw:=q2y (cs':=(xs ++ (ys ++ junk.drop ys.length)).toArray) hb
      have hjl : ys.length ≤ junk.length:=by
        rw [hys];have:=Nat.mul_le_mul_right y.size hroom;rw [Nat.add_mul] at this;omega
      refine fin (.slice (some ⟨b,0,none⟩) (n + k) cap) _ (some ⟨b,0,none⟩) cap rfl hroom (fun h=>by cases h) (q0x (fun g hg=>.inr ⟨b,junk.drop ys.length,fz,rfl,by rw [List.append_assoc];exact hg,?_,hf,?_⟩) (q36 hs3 hw.1 hw.2)) ?_
      · simp;omega
      · intro v hv;simp only [List.mem_append] at hv hone
        rcases hv with (hv | hv) | hv
        · exact hone v (.inl hv)
        · exact h1 v hv
        · exact hone v (.inr (List.mem_of_mem_drop hv))
      · have hneg' : ¬ ((k : Int) < 0):=hneg
        by_cases hk0 : k = 0
        · subst hk0;have : ys = []:=List.eq_nil_of_length_eq_zero (by simpa using hys);subst this
          simp [Builtin.append_,hund,hsz,hundts,hai,show IntKind.i64.wrap 0 = 0 from by decide,hty,heb,q0l]
          simp at hst
          have h0 : n ≤ cap:=by omega
          rw [if_pos h0,hst];rfl
        · simp [Builtin.append_,hund,hsz,hundts,hai,hwr,hty,heb,hkb',hneg',hroom,q0l,hzero,hzz,hy1,hk0]
          simp only [hy1,Nat.mul_one] at hst;rw [hst];rfl
  · have hgrow:=growslice_fits_wide (need:=n + k) (old:=cap) (bytes:=y.bytes) (by omega) hbig
    have hneed : ¬ ((n + k : Nat) : Int) > IntKind.i64.max:=by
      simp only [IntKind.max,IntKind.signed,IntKind.bits];simp;omega
    have hq : (Question.appendCap (n + k) cap e).forced = false:=rfl
    let nc:=(Question.appendCap (n + k) cap e).cut (w.tape w.drawn (.appendCap (n + k) cap e))
    have hnc : n + k ≤ nc:=by simp only [nc,Question.cut];omega
    refine fin (.slice (some ⟨w.heap.size,0,none⟩) (n + k) nc) (w.drew.alloc (.cells (xs.toArray ++ ys.toArray ++ Builtin.zeroCells z.cells (nc - (n + k))) e)) (some ⟨w.heap.size,0,none⟩) nc rfl hnc (fun h=>by cases h) ?_ ?_
    · have s4 : sat (H.map (Chunk.p B) ++ F') w.drew:=q3u (qc6 hs2) rfl
      have s5:=q3d (o:=.cells (xs.toArray ++ ys.toArray ++ Builtin.zeroCells z.cells (nc - (n + k))) e) (w':=w.drew.alloc (.cells (xs.toArray ++ ys.toArray ++ Builtin.zeroCells z.cells (nc - (n + k))) e)) s4
        qfk (fun c hc=>qgc hc)
      refine q0x (fun g hg=>.inr ⟨w.heap.size,(Builtin.zeroCells z.cells (nc - (n + k))).toList,(0,0),rfl,?_,?_,fun i _ h=>by omega,?_⟩) s5
      · rw [show ((xs ++ ys ++ (Builtin.zeroCells z.cells (nc - (n + k))).toList).toArray) = xs.toArray ++ ys.toArray ++ Builtin.zeroCells z.cells (nc - (n + k)) by simp];exact hg
      · rw [List.length_append,hxs,hys,Array.length_toList,q2u,hzs,← Nat.add_mul,← Nat.add_mul];congr 1;omega
      · intro v hv;simp only [List.mem_append] at hv
        rcases hv with (hv | hv) | hv
        · rcases q4d hs2 with ⟨_,_,rfl⟩ | ⟨b,junk,fz,_,_,_,_,hone,_⟩
          · simp at hv
          · exact hone v (by simp [hv])
        · exact h1 v hv
        · exact q37 hz1 _ v hv
    · have hold:=old w.drew rfl;have hb0 : ¬ y.bytes = 0:=by omega
      have hc1 : ¬ (9223372036854775807 < (n : Int) + (k : Int) ∧ y.bytes = 0):=by omega
      have hc2 : ¬ 281474976710656 < Builtin.nextslicecap (n + k) cap * y.bytes:=by omega
      have hc3 : ¬ (9223372036854775807 < (n : Int) + (k : Int)):=by omega
      by_cases hk0 : k = 0
      · exfalso
        subst hk0
        rcases q4d hs2 with ⟨_,rfl,rfl⟩ | ⟨b,junk,fz,_,_,hl,_⟩
        · rw [hy1] at hxs;simp at hxs;omega
        · rw [hy1] at hxs hl;omega
      · rw [hy1] at hold
        simp [Builtin.append_,hund,hsz,hundts,hai,hwr,hty,heb,hkb',hneg,hroom,hzero,hzz,hk0,hy1,hc3,hc2,hq,hold,newRow,nc]
        rw [← Array.append_assoc];simp
end Go.Sx
namespace Go.Sx
theorem YieldOb.by2 {P : Program} {l : Nat} {args : List SV} {B : Names} {H : List Chunk} {F : List HP} {f : SV → List Chunk → List HP → Prop} {v u : Value} {K K' : HP} (i : Nat) (hY : q80 P l v u K K')
    (hargs : args.map (SV.den B) = [v,u]) (h : pickF [i] F fun ks rF=>ks = [K] ∧ f (.c .tt) H (K' :: rF)) : YieldOb P l args ⟨B,H,F⟩ f:=by
  refine ⟨fun km w hs=>?_⟩;obtain ⟨ks,rF,⟨rfl,hf⟩,pF⟩:=q1j h;have s1 : sat (H.map (Chunk.p B) ++ (K :: rF)) w:=q07 (List.Perm.append_left _ pF) hs;have s2 : sat ([K] ++ (H.map (Chunk.p B) ++ rF)) w:=(q19 (l:=H.map (Chunk.p B)) (m:=rF)).1 s1;obtain ⟨fn,tmps,assign,body,hr,hb⟩:=hY (all (H.map (Chunk.p B) ++ rF)) w (q22.1 s2);refine ⟨fn,tmps,assign,body,by rw [hargs];exact hr,hb.mono ?_⟩;rintro e w' ⟨rfl,s3⟩;refine ⟨.c .tt,H,K' :: rF,rfl,trivial,?_,km,hf⟩
  have s4 : sat ([K'] ++ (H.map (Chunk.p B) ++ rF)) w':=(q22 (l:=[K'])).2 s3;exact (q19 (l:=H.map (Chunk.p B)) (m:=rF)).2 s4
def Iter2 (P : Program) (n : Nat) (caps : List Value) (xs : List (SV × SV)) (qc : List Cel) (pre : List HP) {τ : Type} (q : τ → Prop) (qc' : τ → List Cel) (post : τ → List HP) : Prop :=
  ∀ (l : Nat) (K : Nat → HP) (A : HP),(∀ (i : Nat) (x : SV × SV),xs[i]? = some x → q80 P l (x.1.den []) (x.2.den []) (K i) (K (i + 1))) →
    Con P n (.c (.raw (.func (.yield l) #[] #[])) :: caps.map fun v=>.c (.raw v)) qc (K 0 :: pre) A q (fun _=>.tup []) qc' (fun t=>K xs.length :: post t)
theorem RangeOb2.by' {P : Program} {n : Nat} {caps : List Value} {p p' : Nat} {assign body : Ek0} {env : Env} {B : Names} {H : List Chunk} {F : List HP} {f : Ex → Env → M → Prop}
    {xs : List (SV × SV)} {qc : List Cel} {pre : List HP} {τ : Type} {q : τ → Prop} {qc' : τ → List Cel} {post : τ → List HP} {σ : Type} (k : Nat → σ → Prop) (G : σ → List Chunk × List HP) (cs fi fj : List Nat) (s0 : σ) (I : List HP) (hI : ∀ g,seps I g → seps (qc.map Cel.p ++ pre) g)
    (hB : dsOf B = []) (hrun : Runs P n) (C : Iter2 P n caps xs qc pre q qc' post) (hk : k 0 s0) (hx : ∀ x ∈ xs,x.1.ok [] ∧ x.2.ok [])
    (hG : pickH cs H H fun ch _=>pickF fi F fun l rF=>l = I ∧ pickF fj rF fun l' _=>(ch.map (Chunk.p B) = (G s0).1.map (Chunk.p B) ∧ okH B (G s0).1) ∧ l' = (G s0).2)
    (round : ∀ i s x,xs[i]? = some x → k i s → ∀ R,assign ((p,x.1) :: (p',x.2) :: env) ⟨B,(G s).1,(G s).2 ++ [R]⟩ fun e env' m'=>e = .normal ∧ ∃ B1 H1,m' = ⟨B1,H1,(G s).2 ++ [R]⟩ ∧
      ∀ R,body env' ⟨B1,H1,(G s).2 ++ [R]⟩ fun e _ m'=>e = .normal ∧ ∃ s',k (i + 1) s' ∧
        (m'.ok → ∀ w,sat m'.props w → (M.mk B (G s').1 (G s').2).ok ∧ sat (M.props ⟨B,(G s').1,(G s').2 ++ [R]⟩) w))
    (h : ∀ s t r,k xs.length s → q t → f .normal env ⟨(1000000,r) :: B,(G s).1,((qc' t).map Cel.p ++ post t) ++ ((G s).2 ++ [Mk r])⟩) :
    RangeOb2 P n caps p p' assign body env ⟨B,H,F⟩ f:=by
  refine ⟨hrun,hB,xs,σ,k,G,I,τ,q,fun t=>(qc' t).map Cel.p ++ post t,?_,?_,?_,h⟩
  · intro km w hs;refine ⟨s0,hk,?_⟩;obtain ⟨ch,rH,h1,pH⟩:=q1i hG;obtain ⟨l,rF,⟨e0,h2⟩,pF⟩:=q1j h1;rw [e0] at pF;obtain ⟨l',r2,⟨⟨e1,e2⟩,rfl⟩,pF2⟩:=q1j h2;refine ⟨q52 e2,?_⟩;have s2 : sat ((ch ++ rH).map (Chunk.p B) ++ (I ++ ((G s0).2 ++ r2))) w:=q07 ((pH.map _).append (pF.trans (List.Perm.append_left _ pF2))) hs
    have p3 : ((ch ++ rH).map (Chunk.p B) ++ (I ++ ((G s0).2 ++ r2))).Perm ((I ++ (ch.map (Chunk.p B) ++ (G s0).2)) ++ (rH.map (Chunk.p B) ++ r2)):=by
      rw [List.map_append];generalize ch.map (Chunk.p B) = a,rH.map (Chunk.p B) = b,(G s0).2 = d;refine (List.perm_append_comm_assoc (a ++ b) I (d ++ r2)).trans ?_;rw [List.append_assoc I];refine List.Perm.append_left I ?_;simp only [List.append_assoc];refine List.Perm.append_left a ?_;exact List.perm_append_comm_assoc _ _ _
    obtain ⟨g,kk,d,hg,_,h3,_⟩:=q0o.1 (q07 p3 s2);have:=q2z hg h3;rw [e1] at this;exact this
  · intro i s x hi hks;exact ⟨hx x (List.mem_of_getElem? hi),round i s x hi hks⟩
  · intro l K hY _ w hs0
    have hs : sat ((qc.map Cel.p ++ pre) ++ [K 0]) w:=by
      obtain ⟨g,kk,d,hg,hk1,h1,h2⟩:=q0o.1 hs0;exact q0o.2 ⟨g,kk,d,hg,hk1,hI g h1,h2⟩
    have c:=(C l K (all []) hY).h w (by
      have s1 : sat (all [] :: (K 0 :: (qc.map Cel.p ++ pre))) w:=q14.2 (q1t (m:=[K 0]) hs);refine q07 ?_ s1;refine (List.perm_append_comm (l₁:=[all []]) (l₂:=K 0 :: (qc.map Cel.p ++ pre))).trans ?_;rw [← List.append_assoc];refine List.Perm.append_right _ ?_;exact List.perm_middle.symm)
    have ea : ((SV.c (.raw (.func (.yield l) #[] #[])) :: caps.map fun v=>SV.c (.raw v)).map (SV.den [])).toArray = (Value.func (.yield l) #[] #[] :: caps).toArray:=by
      simp only [List.map_cons,List.map_map];congr 2;(conv=>rhs;rw [← List.map_id caps]);rfl
    rw [ea] at c;refine c.mono ?_;rintro e w' ⟨t,hq,rfl,_,_,s2⟩;refine ⟨_,t,rfl,hq,?_⟩
    have p4 : ((qc' t).map Cel.p ++ ((K xs.length :: post t) ++ [all []])).Perm (all [] :: (((qc' t).map Cel.p ++ post t) ++ [K xs.length])):=by
      rw [← List.append_assoc];refine (List.perm_append_comm (l₂:=[all []])).trans ?_;refine List.Perm.cons _ ?_;refine List.perm_middle.trans ?_;exact (List.perm_append_comm (l₁:=[K xs.length]) (l₂:=(qc' t).map Cel.p ++ post t))
    have s3:=q07 p4 s2;exact (q14 (l:=[])).1 s3
theorem RangeOb2.turn {P : Program} {n : Nat} {caps : List Value} {p p' : Nat} {assign body : Ek0} {env : Env} {B : Names} {H : List Chunk} {F F' : List HP} {f : Ex → Env → M → Prop} (i : ∀ g,seps F g → seps F' g)
    (h : RangeOb2 P n caps p p' assign body env ⟨B,H,F'⟩ f) : RangeOb2 P n caps p p' assign body env ⟨B,H,F⟩ f:=by
  obtain ⟨hr,hB,xs,σ,k,G,I,τ,q,J,h0,h1,h2,h3⟩:=h;refine ⟨hr,hB,xs,σ,k,G,I,τ,q,J,fun km w s=>h0 km w ?_,h1,h2,h3⟩;obtain ⟨g,k,d,hg,hk,h1,h2⟩:=q0o.1 s;exact q0o.2 ⟨g,k,d,hg,hk,h1,i _ h2⟩
end Go.Sx
namespace Go.Sx
theorem qhz {e size : Nat} {l : List HP} {h : Hp} (s : seps l h) : seps (Own none 0 e size [] :: l) h :=
  ⟨⟨fun _=>none,h.io⟩,h,⟨fun _=>.inl rfl⟩,⟨fun _ _ e=>by simp at e,rfl⟩,.refl _,.inl ⟨rfl,rfl,rfl⟩,s⟩
theorem q65 {B : Names} {H : List Chunk} {F F' : List HP} (i : ∀ g,seps F g → seps F' g) {w : World} (s : sat (M.props ⟨B,H,F⟩) w) : sat (M.props ⟨B,H,F'⟩) w:=by
  obtain ⟨g,k,d,hg,hk,h1,h2⟩:=q0o.1 s;exact q0o.2 ⟨g,k,d,hg,hk,h1,i k h2⟩
theorem Wk.turn {env env' : Env} {B : Names} {H : List Chunk} {F F' : List HP} {m' : M} (i : ∀ g,seps F g → seps F' g) (h : Wk env ⟨B,H,F'⟩ env' m') : Wk env ⟨B,H,F⟩ env' m' :=
  ⟨h.b,fun w km s k=>h.h w km (q65 i s) k⟩
theorem Ret.turn {B : Names} {H : List Chunk} {F F' : List HP} {v : SV} {τ : Type} {p : τ → Prop} {val : τ → SV} {qc' : τ → List Cel} {post : τ → List HP} {A : HP} (i : ∀ g,seps F g → seps F' g)
    (h : Ret B H F' v p val qc' post A) : Ret B H F v p val qc' post A:=by
  obtain ⟨t,a,b,c,d,e⟩:=h.h;exact ⟨t,a,b,c,d,fun w s=>e w (q65 i s)⟩
theorem qhu {B B' : Names} {H H' : List Chunk} {F F' F2 F3 : List HP} (cs fi : List Nat) (kH : okH B H') (h : Parts cs fi B' H F (H'.map (Chunk.p B)) F2) (i : ∀ g,seps F2 g → seps F' g) :
    (M.mk B' H F).ok → ∀ w,sat (M.props ⟨B',H,F⟩) w → (M.mk B H' F3).ok ∧ sat (M.props ⟨B,H',F'⟩) w :=
  fun _ _ s=>⟨q52 kH,q65 (F:=F2) i (h.sat s)⟩
end Go.Sx
namespace Go.Sx
end Go.Sx
namespace Go.Sx
theorem Cq.know {P : Program} {fn : Nat} {args : List SV} {m : M} {f : SV → List Chunk → List HP → Prop} {p : Prop} (hr : Runs P fn) (hp : ∀ w,sat m.props w → p) (h : p → Cq P fn args m f) : Cq P fn args m f :=
  open Classical in
  if hq : p then h hq else .runs hr fun _ w hs=>absurd (hp w hs) hq
end Go.Sx
namespace Go.Sx
end Go.Sx
namespace Go.Sx
inductive Tv where
  | nil
  | one (i : Nat) (r : Tv)
  | two (i : Nat) (r : Tv) (j : Nat) (s : Tv)
  | tre (i : Nat) (r : Tv) (j : Nat) (s : Tv) (k : Nat) (u : Tv)
def Tv.len : Tv → Nat
  | .nil=>0
  | .one _ r=>r.len + 1
  | .two _ r _ _=>r.len + 1
  | .tre _ r _ _ _ _=>r.len + 1
def Tv.of : List Nat → Tv → Tv
  | [],t=>t
  | i :: r,t=>.one i (Tv.of r t)
section
variable {ro : Option Nat} {P : Program} {ops : Array Oper} {C : World → Prop} {Q : Act → World → Prop} {z : Nat}
theorem qer {i : Nat} {oi : Oper} {v : Value} (hiz : i ≠ z) (hi : ops[i]? = some oi) (hsel : ∀ (j : Nat) (o : Oper) cs b,ops[j]? = some o → o.op ≠ .select cs b) :
    ∀ (n : Nat) (listed : Array Bool) (a : Act) (w : World),
      (∀ j oj,ops[j]? = some oj → j ≠ i → listed.getD j true = false → (∀ e ∈ oj.after,Region.binds .any e = true → e.on ≠ i) → oi.apart ops oj = true) →
      i ∈ Region.ready .any ops listed → YieldsS P ops (fun _=>True) oi v a →
      anyC ro P ops C z Q n (listed.setIfInBounds i true) (a.put oi.dst v) w → anyC ro P ops C z Q (n + 1) listed a w:=by
  have cz : ∀ {listed : Array Bool} {w : World},Cz C z (listed.setIfInBounds i true) w → Cz C z listed w:=fun h hz=>h (by rw [getD_set_ne false hiz];exact hz);intro n
  induction n with
  | zero =>
    intro listed a w _ hr hy H;refine ⟨cz H.1,fun h=>(by rw [h] at hr;cases hr),fun j hj=>?_⟩
    by_cases hji : j = i
    · subst hji;exact hy.wpOp hi trivial H
    · have:=ready_mono hj hji;rw [H.2.1] at this;cases this
  | succ n ih =>
    intro listed a w hfree hr hy H;refine ⟨cz H.1,fun h=>(by rw [h] at hr;cases hr),fun j hj=>?_⟩
    by_cases hji : j = i
    · subst hji;exact hy.wpOp hi trivial H
    · have h1:=H.2.2 j (ready_mono hj hji);obtain ⟨hjun,oj,hoj,hall⟩:=mem_ready.1 hj
      have hnot : ∀ e ∈ oj.after,Region.binds .any e = true → e.on ≠ i:=fun e he hb heq=>by
        have h1:=hall e he hb;have h0:=(mem_ready.1 hr).1;rw [heq] at h1
        rcases Nat.lt_or_ge i listed.size with h' | h'
        · simp [h'] at h0 h1;rw [h0] at h1;cases h1
        · simp [Array.getElem?_eq_none h'] at h1
      have h2:=q99 (C:=fun _=>True) hoj (hfree j oj hoj hji hjun hnot) (fun cs b=>hsel i oi cs b hi) (fun cs b=>hsel j oj cs b hoj) hy h1
      have hfree' : ∀ k ok,ops[k]? = some ok → k ≠ i → (listed.setIfInBounds j true).getD k true = false →
          (∀ e ∈ ok.after,Region.binds .any e = true → e.on ≠ i) → oi.apart ops ok = true:=fun k ok hk hki hun hno=>by
        refine hfree k ok hk hki ?_ hno
        by_cases hjk : j = k
        · subst hjk;exact hjun
        · rw [getD_set_ne true hjk] at hun;exact hun
      refine wpOpIn_mono (fun a' w' h3=>?_) h2;rw [Array.setIfInBounds_comm _ _ (Ne.symm hji)] at h3;exact ih (listed.setIfInBounds j true) a' w' hfree' (ready_mono hr (Ne.symm hji)) h3.1 h3.2
def q2j (ops : Array Oper) (z mask : Nat) (p q : Oper → Bool) : Tv → Array Bool → Bool
  | .nil,listed=>(Region.ready .any ops listed).isEmpty && (Nat.ble ops.size z || listed.getD z false)
  | .one i r,listed=>(match ops[i]? with
      | none=>false
      | some o=>if p o && !Nat.beq i z then (Region.ready .any ops listed).contains i && Region.free .any ops listed i
        else if q o && !(listed.getD z false || Nat.beq i z) then q76 ops z mask i && (Region.ready .any ops listed).contains i && Region.free .any ops listed i else Region.ready .any ops listed == [i]) &&
    q2j ops z mask p q r (listed.setIfInBounds i true)
  | .two i r j s,listed=>(match ops[i]? with | none=>false | some o=>!(p o && !Nat.beq i z) && !(q o && !(listed.getD z false || Nat.beq i z))) && (match ops[j]? with | none=>false | some o=>!(p o && !Nat.beq j z) && !(q o && !(listed.getD z false || Nat.beq j z))) && Region.ready .any ops listed == [i,j] && Nat.beq r.len s.len &&
    q2j ops z mask p q r (listed.setIfInBounds i true) && q2j ops z mask p q s (listed.setIfInBounds j true)
  | .tre i r j s k u,listed=>(match ops[i]? with | none=>false | some o=>!(p o && !Nat.beq i z) && !(q o && !(listed.getD z false || Nat.beq i z))) && (match ops[j]? with | none=>false | some o=>!(p o && !Nat.beq j z) && !(q o && !(listed.getD z false || Nat.beq j z))) && (match ops[k]? with | none=>false | some o=>!(p o && !Nat.beq k z) && !(q o && !(listed.getD z false || Nat.beq k z))) && Region.ready .any ops listed == [i,j,k] && Nat.beq r.len s.len && Nat.beq r.len u.len &&
    q2j ops z mask p q r (listed.setIfInBounds i true) && q2j ops z mask p q s (listed.setIfInBounds j true) && q2j ops z mask p q u (listed.setIfInBounds k true)
def runV (ro : Option Nat) (P : Program) (ops : Array Oper) (C : World → Prop) (z : Nat) (Q : Act → World → Prop) (p q : Oper → Bool) : Bool → Tv → Act → World → Prop
  | _,.nil,a,w=>((Nat.ble ops.size z) = true → C w) ∧ Q a w
  | g,.one i r,a,w=>(g = false → C w) ∧ ∃ o,ops[i]? = some o ∧ if p o && !Nat.beq i z then ∃ v,YieldsS P ops (fun _=>True) o v a ∧ runV ro P ops C z Q p q (g || Nat.beq i z) r (a.put o.dst v) w
      else if q o && !(g || Nat.beq i z) then ∃ v,YieldsS P ops C o v a ∧ runV ro P ops C z Q p q (g || Nat.beq i z) r (a.put o.dst v) w else wpOpIn (Wf ro) 0 P ops (QN Q) i (runV ro P ops C z Q p q (g || Nat.beq i z) r) a w
  | g,.two i r j s,a,w=>(g = false → C w) ∧ (∀ o,ops[i]? = some o → (p o && !Nat.beq i z) = false → (q o && !(g || Nat.beq i z)) = false → wpOpIn (Wf ro) 0 P ops (QN Q) i (runV ro P ops C z Q p q (g || Nat.beq i z) r) a w) ∧
      ∀ o,ops[j]? = some o → (p o && !Nat.beq j z) = false → (q o && !(g || Nat.beq j z)) = false → wpOpIn (Wf ro) 0 P ops (QN Q) j (runV ro P ops C z Q p q (g || Nat.beq j z) s) a w
  | g,.tre i r j s k u,a,w=>(g = false → C w) ∧ (∀ o,ops[i]? = some o → (p o && !Nat.beq i z) = false → (q o && !(g || Nat.beq i z)) = false → wpOpIn (Wf ro) 0 P ops (QN Q) i (runV ro P ops C z Q p q (g || Nat.beq i z) r) a w) ∧ (∀ o,ops[j]? = some o → (p o && !Nat.beq j z) = false → (q o && !(g || Nat.beq j z)) = false → wpOpIn (Wf ro) 0 P ops (QN Q) j (runV ro P ops C z Q p q (g || Nat.beq j z) s) a w) ∧ (∀ o,ops[k]? = some o → (p o && !Nat.beq k z) = false → (q o && !(g || Nat.beq k z)) = false → wpOpIn (Wf ro) 0 P ops (QN Q) k (runV ro P ops C z Q p q (g || Nat.beq k z) u) a w)
theorem q1l {p q : Oper → Bool} {mask : Nat} (hs : Region.noSelect ops = true) (hm : ∀ i,q76 ops z mask i = true → i ≠ z → ∀ oz,ops[z]? = some oz → Reach ops z i) :
    ∀ (t : Tv) (g : Bool) (listed : Array Bool) (a : Act) (w : World),listed.size = ops.size → g = listed.getD z false → Closed ops listed → q2j ops z mask p q t listed = true → runV ro P ops C z Q p q g t a w → anyC ro P ops C z Q t.len listed a w
  | .nil,g,listed,a,w,hsz,hg,hcl,hB,h=>by
    simp only [q2j,Bool.and_eq_true,Bool.or_eq_true,List.isEmpty_iff] at hB;refine ⟨fun hz=>?_,hB.1,h.2⟩
    rcases hB.2 with h2 | h2
    · exact h.1 h2
    · rw [hz] at h2;cases h2
  | .one i r,g,listed,a,w,hsz,hg,hcl,hB,h=>by
    obtain ⟨hC,o,ho,h⟩:=h;have hgs:=q38 (z:=z) hsz hg ho;simp only [q2j,ho] at hB;rw [← hg,Bool.and_eq_true] at hB;obtain ⟨hB1,hB2⟩:=hB
    by_cases hp : (p o && !Nat.beq i z) = true
    · rw [if_pos hp] at h hB1;obtain ⟨v,hy,h⟩:=h
      have hiz : i ≠ z:=by
        have : Nat.beq i z = false:=by cases h1 : p o <;> cases h3 : Nat.beq i z <;> simp_all
        exact Nat.ne_of_beq_eq_false this
      simp only [Bool.and_eq_true] at hB1
      exact qer hiz ho (Region.noSelect_spec hs) r.len listed a w (Region.free_spec ho hB1.2) (by simpa using hB1.1) hy
        (q1l hs hm r _ _ _ _ (by simpa using hsz) hgs (hcl.set (by simpa using hB1.1)) hB2 h)
    rw [if_neg hp] at h hB1
    by_cases hq : (q o && !(g || Nat.beq i z)) = true
    · rw [if_pos hq] at h hB1;obtain ⟨v,hy,h⟩:=h
      have hq2 : q o = true ∧ g = false ∧ Nat.beq i z = false:=by
        cases h1 : q o <;> cases h2 : g <;> cases h3 : Nat.beq i z <;> simp_all
      have hiz : i ≠ z:=Nat.ne_of_beq_eq_false hq2.2.2;simp only [Bool.and_eq_true] at hB1
      exact q9r (hm i hB1.1.1 hiz) hiz ho (Region.noSelect_spec hs) r.len listed a w (Region.free_spec ho hB1.2) hcl (by simpa using hB1.1.2) hy (hC hq2.2.1) (by rw [← hg,hq2.2.1])
        (q1l hs hm r _ _ _ _ (by simpa using hsz) hgs (hcl.set (by simpa using hB1.1.2)) hB2 h)
    · rw [if_neg hq] at h hB1;have hB1 : Region.ready .any ops listed = [i]:=by simpa using hB1
      show anyC ro P ops C z Q (r.len + 1) listed a w;refine ⟨fun hz=>hC (hg.trans hz),fun h0=>absurd (hB1.symm.trans h0) (by simp),fun j hj=>?_⟩;rw [hB1] at hj
      simp at hj
      subst hj;exact wpOpIn_mono (fun a' w' h'=>q1l hs hm r _ _ _ _ (by simpa using hsz) hgs (hcl.set (by rw [hB1];simp)) hB2 h') h
  | .two i r j s,g,listed,a,w,hsz,hg,hcl,hB,h=>by
    obtain ⟨hC,h1,h2⟩:=h;simp only [q2j] at hB;rw [← hg] at hB;simp only [Bool.and_eq_true] at hB;obtain ⟨⟨⟨⟨⟨hi,hj⟩,hr⟩,hl⟩,hBr⟩,hBs⟩:=hB;have hr : Region.ready .any ops listed = [i,j]:=by simpa using hr
    have hl : r.len = s.len:=Nat.eq_of_beq_eq_true hl;show anyC ro P ops C z Q (r.len + 1) listed a w;refine ⟨fun hz=>hC (hg.trans hz),fun h0=>absurd (hr.symm.trans h0) (by simp),fun k hk=>?_⟩;rw [hr] at hk;simp only [List.mem_cons,List.not_mem_nil,or_false] at hk
    rcases hk with rfl | rfl
    · cases ho : ops[k]? with
      | none=>rw [ho] at hi;cases hi
      | some o =>
        rw [ho] at hi;simp only [Bool.and_eq_true] at hi;exact wpOpIn_mono (fun a' w' h'=>q1l hs hm r _ _ _ _ (by simpa using hsz) (q38 hsz hg ho) (hcl.set (by rw [hr];simp)) hBr h') (h1 o ho ((Bool.not_eq_true' _).mp hi.1) ((Bool.not_eq_true' _).mp hi.2))
    · cases ho : ops[k]? with
      | none=>rw [ho] at hj;cases hj
      | some o =>
        rw [ho] at hj;rw [hl];simp only [Bool.and_eq_true] at hj;exact wpOpIn_mono (fun a' w' h'=>q1l hs hm s _ _ _ _ (by simpa using hsz) (q38 hsz hg ho) (hcl.set (by rw [hr];simp)) hBs h') (h2 o ho ((Bool.not_eq_true' _).mp hj.1) ((Bool.not_eq_true' _).mp hj.2))
  | .tre i r j s k u,g,listed,a,w,hsz,hg,hcl,hB,h=>by
    obtain ⟨hC,h1,h2,h3⟩:=h;simp only [q2j] at hB;rw [← hg] at hB;simp only [Bool.and_eq_true] at hB;obtain ⟨⟨⟨⟨⟨⟨⟨⟨hi,hj⟩,hk⟩,hr⟩,hl⟩,hl2⟩,hBr⟩,hBs⟩,hBu⟩:=hB;have hr : Region.ready .any ops listed = [i,j,k]:=by simpa using hr
    have hl : r.len = s.len:=Nat.eq_of_beq_eq_true hl;have hl2 : r.len = u.len:=Nat.eq_of_beq_eq_true hl2;show anyC ro P ops C z Q (r.len + 1) listed a w;refine ⟨fun hz=>hC (hg.trans hz),fun h0=>absurd (hr.symm.trans h0) (by simp),fun k0 hk0=>?_⟩;rw [hr] at hk0;simp only [List.mem_cons,List.not_mem_nil,or_false] at hk0
    rcases hk0 with rfl | rfl | rfl
    · cases ho : ops[k0]? with
      | none=>rw [ho] at hi;cases hi
      | some o =>
        rw [ho] at hi;simp only [Bool.and_eq_true] at hi;exact wpOpIn_mono (fun a' w' h'=>q1l hs hm r _ _ _ _ (by simpa using hsz) (q38 hsz hg ho) (hcl.set (by rw [hr];simp)) hBr h') (h1 o ho ((Bool.not_eq_true' _).mp hi.1) ((Bool.not_eq_true' _).mp hi.2))
    · cases ho : ops[k0]? with
      | none=>rw [ho] at hj;cases hj
      | some o =>
        rw [ho] at hj;rw [hl];simp only [Bool.and_eq_true] at hj;exact wpOpIn_mono (fun a' w' h'=>q1l hs hm s _ _ _ _ (by simpa using hsz) (q38 hsz hg ho) (hcl.set (by rw [hr];simp)) hBs h') (h2 o ho ((Bool.not_eq_true' _).mp hj.1) ((Bool.not_eq_true' _).mp hj.2))
    · cases ho : ops[k0]? with
      | none=>rw [ho] at hk;cases hk
      | some o =>
        rw [ho] at hk;rw [hl2];simp only [Bool.and_eq_true] at hk;exact wpOpIn_mono (fun a' w' h'=>q1l hs hm u _ _ _ _ (by simpa using hsz) (q38 hsz hg ho) (hcl.set (by rw [hr];simp)) hBu h') (h3 o ho ((Bool.not_eq_true' _).mp hk.1) ((Bool.not_eq_true' _).mp hk.2))
theorem q6z {id : Nat} {Q' : Exit → Act → World → Prop} {a : Act} {w : World} {p q : Oper → Bool} (hm : P.follows .mixedOrders = true) (t : Tv)
    (hB : (Region.noSelect ops && q2j ops z (q7m ops z) p q t (Array.replicate ops.size false) && t.len == ops.size) = true)
    (h : runV ro P ops C z (fun a w=>Q' .normal a w) p q false t a { w with drawn:=w.drawn + 1 }) : (Code.region id ops true).wpIn (Wf ro) 0 P Q' a w:=by
  simp only [Bool.and_eq_true,beq_iff_eq] at hB;refine wpIn_mono (wpIn_region_any hm ?_) ?_ (Q:=QN fun a w=>Q' .normal a w)
  · have:=q7v _ _ _ _ (q1l hB.1.1 q9f t false (Array.replicate ops.size false) _ _ (by simp) (by
      by_cases h : z < ops.size <;> simp [h]) Closed.zero hB.1.2 h)
    rw [hB.2] at this;exact this
  · intro e a w hq;cases e <;> first | exact hq | exact hq.elim
end
theorem qhg (w : World) : sat [] w:=by
  first
    | trivial
    | exact ⟨_,.refl _,trivial⟩
    | (unfold sat;trivial)
def isP (tt : TT) (o : Oper) : Bool:=isQ tt o && (match o.op with
  | .move _=>true
  | .assign _=>true
  | .pick ..=>true
  | .extract ..=>true
  | .binOp ..=>true
  | .unOp ..=>true
  | .nilCheck ..=>true
  | .fieldAddr ..=>true
  | _=>false)
def ordV (P : Program) (tt : TT) (N : Nat) (all : List Oper) (Hs : List Chunk) (Fs : List HP) (here gone : Bool) (i : Nat) (k : Env → M → (Env → M → Prop) → Prop) (env : Env) (m : M) (f : Env → M → Prop) : Prop :=
  nthO all i fun o=>match isP tt o && !here with
    | true=>q93 all o env (fun env=>qd9 tt o (match m with | ⟨B,H,F⟩=>Sx.execOp P tt o env ⟨B,[],[]⟩ fun v _=>put N o.dst v env fun env'=>k env' ⟨B,H,F⟩ f)) (fun env=>put N o.dst (.tup []) env fun env'=>k env' m f)
    | false=>ordU P tt N all Hs Fs gone i k env m f
noncomputable def execV (P : Program) (tt : TT) (N : Nat) (all : List Oper) (z : Nat) (Hs : List Chunk) (Fs : List HP) (t : Tv) : Bool → Env → M → (Env → M → Prop) → Prop :=
  @Tv.rec (fun _=>Bool → Env → M → (Env → M → Prop) → Prop) (fun _ env m f=>f env m) (fun i _ ih g=>ordV P tt N all Hs Fs (Nat.beq i z) (g || Nat.beq i z) i (ih (g || Nat.beq i z)))
    (fun i _ j _ ih ih' g env m f=>ordU P tt N all Hs Fs (g || Nat.beq i z) i (ih (g || Nat.beq i z)) env m f ∧ ordU P tt N all Hs Fs (g || Nat.beq j z) j (ih' (g || Nat.beq j z)) env m f)
    (fun i _ j _ k _ ih ih' ih'' g env m f=>ordU P tt N all Hs Fs (g || Nat.beq i z) i (ih (g || Nat.beq i z)) env m f ∧ ordU P tt N all Hs Fs (g || Nat.beq j z) j (ih' (g || Nat.beq j z)) env m f ∧ ordU P tt N all Hs Fs (g || Nat.beq k z) k (ih'' (g || Nat.beq k z)) env m f) t
theorem q1r {ro : Option Nat} {P : Program} {tt : TT} {N : Nat} (ok : tt.ok P) {all : List Oper} {z : Nat} {Hs : List Chunk} {Fs : List HP} {B0 : Names} (kH : ∀ c ∈ Hs,Chunk.ok B0 c) {f : Env → M → Prop} :
    ∀ (t : Tv) (g : Bool) (env : Env) (m : M) (a : Act) (w : World),(g = true → z < all.length) → execV P tt N all z Hs Fs t g env m f → St N env m a w → ExtS B0 m.B → (g = false → ∀ w,sat m.props w → sat (M.props ⟨m.B,Hs,Fs⟩) w) →
      runV ro P all.toArray (sat (M.props ⟨B0,Hs,Fs⟩)) z (fun a w=>∃ env' m',f env' m' ∧ St N env' m' a w) (isP tt) (isQ tt) g t a w
  | .nil,g,env,m,a,w,hz,h,st,hB,hS=>by
    refine ⟨fun hb=>?_,env,m,h,st⟩;have hb:=Nat.le_of_ble_eq_true hb
    have hg : g = false:=by
      cases g with
      | false=>rfl
      | true=>have:=hz rfl;simp at hb;omega
    have:=hS hg w st.s;simp only [M.props,(hB.chunks kH).2] at this;exact this
  | .two i r j s,g,env,m,a,w,hz,h,st,hB,hS=>by
    have same : M.props ⟨m.B,Hs,Fs⟩ = M.props ⟨B0,Hs,Fs⟩:=by simp only [M.props,(hB.chunks kH).2]
    refine ⟨fun hg=>by rw [← same];exact hS hg w st.s,fun o ho _ hq=>?_,fun o ho _ hq=>?_⟩
    · refine loudU ok (by simpa using ho) hq h.1 st hB (fun h=>hS (q62 h)) fun env' m' a' w' h' st' hB' hS'=>q1r ok kH r _ env' m' a' w' (fun hh=>?_) h' st' hB' hS'
      rcases Bool.or_eq_true_iff.1 hh with hh | hh
      · exact hz hh
      · have:=Nat.eq_of_beq_eq_true hh;subst this;exact (List.getElem?_eq_some_iff.1 (show all[i]? = some o by simpa using ho)).1
    · refine loudU ok (by simpa using ho) hq h.2 st hB (fun h=>hS (q62 h)) fun env' m' a' w' h' st' hB' hS'=>q1r ok kH s _ env' m' a' w' (fun hh=>?_) h' st' hB' hS'
      rcases Bool.or_eq_true_iff.1 hh with hh | hh
      · exact hz hh
      · have:=Nat.eq_of_beq_eq_true hh;subst this;exact (List.getElem?_eq_some_iff.1 (show all[j]? = some o by simpa using ho)).1
  | .tre i r j s k u,g,env,m,a,w,hz,h,st,hB,hS=>by
    have same : M.props ⟨m.B,Hs,Fs⟩ = M.props ⟨B0,Hs,Fs⟩:=by simp only [M.props,(hB.chunks kH).2]
    refine ⟨fun hg=>by rw [← same];exact hS hg w st.s,fun o ho _ hq=>?_,fun o ho _ hq=>?_,fun o ho _ hq=>?_⟩
    · refine loudU ok (by simpa using ho) hq h.1 st hB (fun h=>hS (q62 h)) fun env' m' a' w' h' st' hB' hS'=>q1r ok kH r _ env' m' a' w' (fun hh=>?_) h' st' hB' hS'
      rcases Bool.or_eq_true_iff.1 hh with hh | hh
      · exact hz hh
      · have:=Nat.eq_of_beq_eq_true hh;subst this;exact (List.getElem?_eq_some_iff.1 (show all[i]? = some o by simpa using ho)).1
    · refine loudU ok (by simpa using ho) hq h.2.1 st hB (fun h=>hS (q62 h)) fun env' m' a' w' h' st' hB' hS'=>q1r ok kH s _ env' m' a' w' (fun hh=>?_) h' st' hB' hS'
      rcases Bool.or_eq_true_iff.1 hh with hh | hh
      · exact hz hh
      · have:=Nat.eq_of_beq_eq_true hh;subst this;exact (List.getElem?_eq_some_iff.1 (show all[j]? = some o by simpa using ho)).1
    · refine loudU ok (by simpa using ho) hq h.2.2 st hB (fun h=>hS (q62 h)) fun env' m' a' w' h' st' hB' hS'=>q1r ok kH u _ env' m' a' w' (fun hh=>?_) h' st' hB' hS'
      rcases Bool.or_eq_true_iff.1 hh with hh | hh
      · exact hz hh
      · have:=Nat.eq_of_beq_eq_true hh;subst this;exact (List.getElem?_eq_some_iff.1 (show all[k]? = some o by simpa using ho)).1
  | .one i r,g,env,m,a,w,hz,h,st,hB,hS=>by
    have same : M.props ⟨m.B,Hs,Fs⟩ = M.props ⟨B0,Hs,Fs⟩:=by simp only [M.props,(hB.chunks kH).2]
    refine ⟨fun hg=>by rw [← same];exact hS hg w st.s,?_⟩;have h : ordV P tt N all Hs Fs (Nat.beq i z) (g || Nat.beq i z) i (execV P tt N all z Hs Fs r (g || Nat.beq i z)) env m f:=h;obtain ⟨o,ho,h⟩:=q2v h;refine ⟨o,by simpa using ho,?_⟩
    by_cases hp : (isP tt o && !Nat.beq i z) = true
    · rw [if_pos hp];rw [hp] at h;have hiz : Nat.beq i z = false:=by cases h1 : isP tt o <;> cases h3 : Nat.beq i z <;> simp_all
      have hpo : isP tt o = true:=by cases h1 : isP tt o <;> simp_all
      rw [hiz,Bool.or_false] at h ⊢;obtain ⟨env,st,h2⟩:=q28 st h
      by_cases hw : Region.wanted o (yielded all.toArray a.tmps) = true
      · rw [if_pos hw] at h2;obtain ⟨hqq,h3⟩:=q3i h2
        cases m with
        | mk B H F =>
        have st' : St N env ⟨B,[],[]⟩ a w:=⟨st.d,st.n,st.l,(fun c hc=>by cases hc),qhg w⟩
        rcases q1g ok st' h3 with ⟨x,kx,hf,hr⟩ | ⟨hn,_⟩
        · obtain ⟨env',hg,st2⟩:=q2d st (.inl rfl) st.k st.s kx hf;refine ⟨x.den B,.inl ⟨hw,fun w _=>hr w (qhg w)⟩,?_⟩;exact q1r ok kH r g env' ⟨B,H,F⟩ _ w hz hg st2 hB hS
        · exact absurd hqq hn
      · rw [if_neg hw] at h2;have hw : Region.wanted o (yielded all.toArray a.tmps) = false:=by simpa using hw
        obtain ⟨env',hg,st'⟩:=q33 st h2;exact ⟨undef,.inr ⟨hw,rfl⟩,q1r ok kH r g env' m _ w hz hg st' hB hS⟩
    rw [if_neg hp];have hp : (isP tt o && !Nat.beq i z) = false:=by simpa using hp
    rw [hp] at h;have h : ordU P tt N all Hs Fs (g || Nat.beq i z) i (execV P tt N all z Hs Fs r (g || Nat.beq i z)) env m f:=h;have h0:=h;obtain ⟨o2,ho2,h1⟩:=q2v h;rw [ho] at ho2;obtain rfl:=Option.some.inj ho2
    by_cases hq : (isQ tt o && !(g || Nat.beq i z)) = true
    · rw [if_pos hq]
      have hq2 : isQ tt o = true ∧ g = false ∧ Nat.beq i z = false:=by
        cases h1 : isQ tt o <;> cases h2 : g <;> cases h3 : Nat.beq i z <;> simp_all
      obtain ⟨hqo,rfl,hiz⟩:=hq2;rw [hiz] at h1 ⊢;obtain ⟨env,st,h2⟩:=q28 st h1
      by_cases hw : Region.wanted o (yielded all.toArray a.tmps) = true
      · rw [if_pos hw,hqo] at h2;obtain ⟨hqq,h3⟩:=q3i h2
        cases m with
        | mk B H F =>
        have st' : St N env ⟨B,Hs,Fs⟩ a w:=⟨st.d,st.n,st.l,(hB.chunks kH).1,hS rfl w st.s⟩
        rcases q1g ok st' h3 with ⟨x,kx,hf,hr⟩ | ⟨hn,_⟩
        · obtain ⟨env',hg,st2⟩:=q2d st (.inl rfl) st.k st.s kx hf;refine ⟨x.den B,.inl ⟨hw,fun w hw'=>hr w (by rw [same];exact hw')⟩,?_⟩;exact q1r ok kH r false env' ⟨B,H,F⟩ _ w (fun h=>by cases h) hg st2 hB hS
        · exact absurd hqq hn
      · rw [if_neg hw] at h2;have hw : Region.wanted o (yielded all.toArray a.tmps) = false:=by simpa using hw
        obtain ⟨env',hg,st'⟩:=q33 st h2;exact ⟨undef,.inr ⟨hw,rfl⟩,q1r ok kH r false env' m _ w (fun h=>by cases h) hg st' hB hS⟩
    · rw [if_neg hq];have hq : (isQ tt o && !(g || Nat.beq i z)) = false:=by simpa using hq
      refine loudU ok ho hq h0 st hB (fun h=>hS (q62 h)) fun env' m' a' w' h' st' hB' hS'=>q1r ok kH r _ env' m' a' w' (fun hh=>?_) h' st' hB' hS'
      rcases Bool.or_eq_true_iff.1 hh with hh | hh
      · exact hz hh
      · have:=Nat.eq_of_beq_eq_true hh;subst this;exact (List.getElem?_eq_some_iff.1 ho).1
theorem Draw.free {P : Program} {tt : TT} {N : Nat} {ops : List Oper} {env : Env} {m : M} {f : Env → M → Prop} (hm : P.follows .mixedOrders = true) (ok : tt.ok P) (t : Tv) (z : Nat) (Hs : List Chunk) (Fs : List HP)
    (hB : (Region.noSelect ops.toArray && q2j ops.toArray z (q7m ops.toArray z) (isP tt) (isQ tt) t (Array.replicate ops.toArray.size false) && t.len == ops.toArray.size) = true)
    (kH : m.ok → ∀ c ∈ Hs,Chunk.ok m.B c) (h : Sub m Hs Fs (execV P tt N ops z Hs Fs t false env m f)) : Draw P tt N ops env m f:=by
  refine ⟨fun ro id Q a w hd hn hl hk hs hQ=>?_⟩
  have st : St N env m a { w with drawn:=w.drawn + 1 }:=⟨hd,hn,hl,hk,q3u hs rfl⟩;have:=q1r (ro:=ro) ok (B0:=m.B) (kH hk) t false env m a _ (fun h=>by cases h) h.x st ⟨fun i hi=>⟨hi,rfl⟩⟩ (fun _=>h.s);refine wpIn_mono (q6z (C:=sat (M.props ⟨m.B,Hs,Fs⟩)) (Q':=fun e a w=>e = .normal ∧ ∃ env' m',f env' m' ∧ St N env' m' a w) hm t hB ?_) ?_
  · have e : (fun a w=>(fun (e : Exit) a w=>e = .normal ∧ ∃ env' m',f env' m' ∧ St N env' m' a w) Exit.normal a w) = fun a w=>∃ env' m',f env' m' ∧ St N env' m' a w:=by
      funext a w;simp
    rw [e];exact this
  · rintro e a w ⟨rfl,env',m',hf,st⟩;exact hQ a w env' m' st.d st.n st.l st.k st.s hf
theorem Draw.a {P : Program} {tt : TT} {N : Nat} {ops : List Oper} {env : Env} {B : Names} {H : List Chunk} {F : List HP} {f : Env → M → Prop} (hm : P.follows .mixedOrders = true) (ok : tt.ok P) (t : Tv) (z : Nat)
    (hB : (Region.noSelect ops.toArray && q2j ops.toArray z (q7m ops.toArray z) (isP tt) (isQ tt) t (Array.replicate ops.toArray.size false) && t.len == ops.toArray.size) = true)
    (h : execV P tt N ops z H F t false env ⟨B,H,F⟩ f) : Draw P tt N ops env ⟨B,H,F⟩ f :=
  .free hm ok t z H F hB (fun k=>k) (Sub.whole h)
end Go.Sx

namespace Go.Proofs.YtfehjfoajlfhfaaGreatDoor
open Go.Sx
def tt : TT:=.node 152 ⟨.func,1,8,[.one (.raw .nilFunc)]⟩ (.node 80 ⟨.func,1,8,[.one (.raw .nilFunc)]⟩ (.node 44 ⟨.func,1,8,[.one (.raw .nilFunc)]⟩ (.node 27 ⟨.array 8 5,8,8,[.many 8 (List.replicate 8 (.int .u8 0 : Value))]⟩ (.node 13 ⟨.struct [(0,9),(1,12)],2,24,[.one (.str ByteArray.empty),.one (.int .u64 0)]⟩ (.node 4 ⟨.bool,1,1,[.one (.ff)]⟩ (.node 2 ⟨.int .i64,1,8,[.one (.int .i64 0)]⟩ (.node 1 ⟨.func,1,8,[.one (.raw .nilFunc)]⟩ (.leaf) (.leaf)) (.node 3 ⟨.int .i64,1,8,[.one (.int .i64 0)]⟩ (.leaf) (.leaf))) (.node 9 ⟨.str,1,16,[.one (.str ByteArray.empty)]⟩ (.node 5 ⟨.int .u8,1,1,[.one (.int .u8 0)]⟩ (.leaf) (.leaf)) (.node 12 ⟨.int .u64,1,8,[.one (.int .u64 0)]⟩ (.leaf) (.leaf)))) (.node 23 ⟨.array 32 5,32,32,[.many 32 (List.replicate 32 (.int .u8 0 : Value))]⟩ (.node 21 ⟨.int .i32,1,4,[.one (.int .i32 0)]⟩ (.node 20 ⟨.iface 0,1,16,[.one (.raw .nilIface)]⟩ (.leaf) (.leaf)) (.node 22 ⟨.array 32 5,32,32,[.many 32 (List.replicate 32 (.int .u8 0 : Value))]⟩ (.leaf) (.leaf))) (.node 25 ⟨.func,1,8,[.one (.raw .nilFunc)]⟩ (.node 24 ⟨.slice 5,1,24,[.one (.rs none 0 0)]⟩ (.leaf) (.leaf)) (.node 26 ⟨.array 8 5,8,8,[.many 8 (List.replicate 8 (.int .u8 0 : Value))]⟩ (.leaf) (.leaf))))) (.node 36 ⟨.func,1,8,[.one (.raw .nilFunc)]⟩ (.node 31 ⟨.array 16 5,16,16,[.many 16 (List.replicate 16 (.int .u8 0 : Value))]⟩ (.node 29 ⟨.struct [(0,3),(1,3),(2,3),(3,27)],11,32,[.one (.int .i64 0),.one (.int .i64 0),.one (.int .i64 0),.many 8 (List.replicate 8 (.int .u8 0 : Value))]⟩ (.node 28 ⟨.struct [(0,3),(1,3),(2,3),(3,27)],11,32,[.one (.int .i64 0),.one (.int .i64 0),.one (.int .i64 0),.many 8 (List.replicate 8 (.int .u8 0 : Value))]⟩ (.leaf) (.leaf)) (.node 30 ⟨.array 16 5,16,16,[.many 16 (List.replicate 16 (.int .u8 0 : Value))]⟩ (.leaf) (.leaf))) (.node 33 ⟨.struct [(0,29),(11,24),(12,31),(28,24)],29,96,[.one (.int .i64 0),.one (.int .i64 0),.one (.int .i64 0),.many 8 (List.replicate 8 (.int .u8 0 : Value)),.one (.rs none 0 0),.many 16 (List.replicate 16 (.int .u8 0 : Value)),.one (.rs none 0 0)]⟩ (.node 32 ⟨.struct [(0,29),(11,24),(12,31),(28,24)],29,96,[.one (.int .i64 0),.one (.int .i64 0),.one (.int .i64 0),.many 8 (List.replicate 8 (.int .u8 0 : Value)),.one (.rs none 0 0),.many 16 (List.replicate 16 (.int .u8 0 : Value)),.one (.rs none 0 0)]⟩ (.leaf) (.leaf)) (.node 34 ⟨.int .i64,1,8,[.one (.int .i64 0)]⟩ (.leaf) (.leaf)))) (.node 40 ⟨.struct [(0,38),(11,24),(12,31),(28,24)],29,96,[.one (.int .i64 0),.one (.int .i64 0),.one (.int .i64 0),.many 8 (List.replicate 8 (.int .u8 0 : Value)),.one (.rs none 0 0),.many 16 (List.replicate 16 (.int .u8 0 : Value)),.one (.rs none 0 0)]⟩ (.node 38 ⟨.struct [(0,3),(1,3),(2,3),(3,26)],11,32,[.one (.int .i64 0),.one (.int .i64 0),.one (.int .i64 0),.many 8 (List.replicate 8 (.int .u8 0 : Value))]⟩ (.node 37 ⟨.struct [(0,3),(1,3),(2,3),(3,26)],11,32,[.one (.int .i64 0),.one (.int .i64 0),.one (.int .i64 0),.many 8 (List.replicate 8 (.int .u8 0 : Value))]⟩ (.leaf) (.leaf)) (.node 39 ⟨.struct [(0,38),(11,24),(12,31),(28,24)],29,96,[.one (.int .i64 0),.one (.int .i64 0),.one (.int .i64 0),.many 8 (List.replicate 8 (.int .u8 0 : Value)),.one (.rs none 0 0),.many 16 (List.replicate 16 (.int .u8 0 : Value)),.one (.rs none 0 0)]⟩ (.leaf) (.leaf))) (.node 43 ⟨.func,1,8,[.one (.raw .nilFunc)]⟩ (.node 42 ⟨.func,1,8,[.one (.raw .nilFunc)]⟩ (.leaf) (.leaf)) (.leaf))))) (.node 63 ⟨.func,1,8,[.one (.raw .nilFunc)]⟩ (.node 54 ⟨.func,1,8,[.one (.raw .nilFunc)]⟩ (.node 49 ⟨.func,1,8,[.one (.raw .nilFunc)]⟩ (.node 47 ⟨.func,1,8,[.one (.raw .nilFunc)]⟩ (.node 45 ⟨.slice 117,1,24,[.one (.rs none 0 0)]⟩ (.leaf) (.leaf)) (.node 48 ⟨.slice 96,1,24,[.one (.rs none 0 0)]⟩ (.leaf) (.leaf))) (.node 52 ⟨.func,1,8,[.one (.raw .nilFunc)]⟩ (.node 51 ⟨.func,1,8,[.one (.raw .nilFunc)]⟩ (.leaf) (.leaf)) (.node 53 ⟨.func,1,8,[.one (.raw .nilFunc)]⟩ (.leaf) (.leaf)))) (.node 58 ⟨.struct [(0,23),(32,57),(192,31)],208,208,[.many 32 (List.replicate 32 (.int .u8 0 : Value)),.many 160 (List.replicate 160 (.int .u8 0 : Value)),.many 16 (List.replicate 16 (.int .u8 0 : Value))]⟩ (.node 56 ⟨.array 160 5,160,160,[.many 160 (List.replicate 160 (.int .u8 0 : Value))]⟩ (.node 55 ⟨.func,1,8,[.one (.raw .nilFunc)]⟩ (.leaf) (.leaf)) (.node 57 ⟨.array 160 5,160,160,[.many 160 (List.replicate 160 (.int .u8 0 : Value))]⟩ (.leaf) (.leaf))) (.node 60 ⟨.slice 23,1,24,[.one (.rs none 0 0)]⟩ (.node 59 ⟨.struct [(0,23),(32,57),(192,31)],208,208,[.many 32 (List.replicate 32 (.int .u8 0 : Value)),.many 160 (List.replicate 160 (.int .u8 0 : Value)),.many 16 (List.replicate 16 (.int .u8 0 : Value))]⟩ (.leaf) (.leaf)) (.node 62 ⟨.func,1,8,[.one (.raw .nilFunc)]⟩ (.leaf) (.leaf))))) (.node 72 ⟨.struct [(0,23),(32,24),(33,31)],49,72,[.many 32 (List.replicate 32 (.int .u8 0 : Value)),.one (.rs none 0 0),.many 16 (List.replicate 16 (.int .u8 0 : Value))]⟩ (.node 67 ⟨.struct [(0,27),(8,23),(40,60)],41,64,[.many 8 (List.replicate 8 (.int .u8 0 : Value)),.many 32 (List.replicate 32 (.int .u8 0 : Value)),.one (.rs none 0 0)]⟩ (.node 65 ⟨.struct [(0,3),(1,59),(209,23)],241,248,[.one (.int .i64 0),.many 32 (List.replicate 32 (.int .u8 0 : Value)),.many 160 (List.replicate 160 (.int .u8 0 : Value)),.many 16 (List.replicate 16 (.int .u8 0 : Value)),.many 32 (List.replicate 32 (.int .u8 0 : Value))]⟩ (.node 64 ⟨.func,1,8,[.one (.raw .nilFunc)]⟩ (.leaf) (.leaf)) (.node 66 ⟨.struct [(0,3),(1,59),(209,23)],241,248,[.one (.int .i64 0),.many 32 (List.replicate 32 (.int .u8 0 : Value)),.many 160 (List.replicate 160 (.int .u8 0 : Value)),.many 16 (List.replicate 16 (.int .u8 0 : Value)),.many 32 (List.replicate 32 (.int .u8 0 : Value))]⟩ (.leaf) (.leaf))) (.node 70 ⟨.func,1,8,[.one (.raw .nilFunc)]⟩ (.node 68 ⟨.struct [(0,27),(8,23),(40,60)],41,64,[.many 8 (List.replicate 8 (.int .u8 0 : Value)),.many 32 (List.replicate 32 (.int .u8 0 : Value)),.one (.rs none 0 0)]⟩ (.leaf) (.leaf)) (.node 71 ⟨.struct [(0,23),(32,24),(33,31)],49,72,[.many 32 (List.replicate 32 (.int .u8 0 : Value)),.one (.rs none 0 0),.many 16 (List.replicate 16 (.int .u8 0 : Value))]⟩ (.leaf) (.leaf)))) (.node 76 ⟨.struct [(0,26),(8,23),(40,60)],41,64,[.many 8 (List.replicate 8 (.int .u8 0 : Value)),.many 32 (List.replicate 32 (.int .u8 0 : Value)),.one (.rs none 0 0)]⟩ (.node 74 ⟨.struct [(0,3),(1,72),(50,23)],82,112,[.one (.int .i64 0),.many 32 (List.replicate 32 (.int .u8 0 : Value)),.one (.rs none 0 0),.many 16 (List.replicate 16 (.int .u8 0 : Value)),.many 32 (List.replicate 32 (.int .u8 0 : Value))]⟩ (.node 73 ⟨.struct [(0,3),(1,72),(50,23)],82,112,[.one (.int .i64 0),.many 32 (List.replicate 32 (.int .u8 0 : Value)),.one (.rs none 0 0),.many 16 (List.replicate 16 (.int .u8 0 : Value)),.many 32 (List.replicate 32 (.int .u8 0 : Value))]⟩ (.leaf) (.leaf)) (.node 75 ⟨.struct [(0,26),(8,23),(40,60)],41,64,[.many 8 (List.replicate 8 (.int .u8 0 : Value)),.many 32 (List.replicate 32 (.int .u8 0 : Value)),.one (.rs none 0 0)]⟩ (.leaf) (.leaf))) (.node 79 ⟨.func,1,8,[.one (.raw .nilFunc)]⟩ (.node 78 ⟨.func,1,8,[.one (.raw .nilFunc)]⟩ (.leaf) (.leaf)) (.leaf)))))) (.node 117 ⟨.struct [(0,23),(32,38)],43,64,[.many 32 (List.replicate 32 (.int .u8 0 : Value)),.one (.int .i64 0),.one (.int .i64 0),.one (.int .i64 0),.many 8 (List.replicate 8 (.int .u8 0 : Value))]⟩ (.node 99 ⟨.struct [(0,29),(11,59),(219,23),(251,31)],267,288,[.one (.int .i64 0),.one (.int .i64 0),.one (.int .i64 0),.many 8 (List.replicate 8 (.int .u8 0 : Value)),.many 32 (List.replicate 32 (.int .u8 0 : Value)),.many 160 (List.replicate 160 (.int .u8 0 : Value)),.many 16 (List.replicate 16 (.int .u8 0 : Value)),.many 32 (List.replicate 32 (.int .u8 0 : Value)),.many 16 (List.replicate 16 (.int .u8 0 : Value))]⟩ (.node 88 ⟨.func,1,8,[.one (.raw .nilFunc)]⟩ (.node 84 ⟨.func,1,8,[.one (.raw .nilFunc)]⟩ (.node 82 ⟨.func,1,8,[.one (.raw .nilFunc)]⟩ (.node 81 ⟨.func,1,8,[.one (.raw .nilFunc)]⟩ (.leaf) (.leaf)) (.node 83 ⟨.func,1,8,[.one (.raw .nilFunc)]⟩ (.leaf) (.leaf))) (.node 86 ⟨.func,1,8,[.one (.raw .nilFunc)]⟩ (.node 85 ⟨.func,1,8,[.one (.raw .nilFunc)]⟩ (.leaf) (.leaf)) (.node 87 ⟨.func,1,8,[.one (.raw .nilFunc)]⟩ (.leaf) (.leaf)))) (.node 94 ⟨.func,1,8,[.one (.raw .nilFunc)]⟩ (.node 90 ⟨.func,1,8,[.one (.raw .nilFunc)]⟩ (.node 89 ⟨.func,1,8,[.one (.raw .nilFunc)]⟩ (.leaf) (.leaf)) (.node 92 ⟨.func,1,8,[.one (.raw .nilFunc)]⟩ (.leaf) (.leaf))) (.node 96 ⟨.struct [(0,23),(32,29)],43,64,[.many 32 (List.replicate 32 (.int .u8 0 : Value)),.one (.int .i64 0),.one (.int .i64 0),.one (.int .i64 0),.many 8 (List.replicate 8 (.int .u8 0 : Value))]⟩ (.node 95 ⟨.struct [(0,23),(32,29)],43,64,[.many 32 (List.replicate 32 (.int .u8 0 : Value)),.one (.int .i64 0),.one (.int .i64 0),.one (.int .i64 0),.many 8 (List.replicate 8 (.int .u8 0 : Value))]⟩ (.leaf) (.leaf)) (.node 98 ⟨.func,1,8,[.one (.raw .nilFunc)]⟩ (.leaf) (.leaf))))) (.node 110 ⟨.func,1,8,[.one (.raw .nilFunc)]⟩ (.node 105 ⟨.func,1,8,[.one (.raw .nilFunc)]⟩ (.node 102 ⟨.func,1,8,[.one (.raw .nilFunc)]⟩ (.node 100 ⟨.struct [(0,29),(11,59),(219,23),(251,31)],267,288,[.one (.int .i64 0),.one (.int .i64 0),.one (.int .i64 0),.many 8 (List.replicate 8 (.int .u8 0 : Value)),.many 32 (List.replicate 32 (.int .u8 0 : Value)),.many 160 (List.replicate 160 (.int .u8 0 : Value)),.many 16 (List.replicate 16 (.int .u8 0 : Value)),.many 32 (List.replicate 32 (.int .u8 0 : Value)),.many 16 (List.replicate 16 (.int .u8 0 : Value))]⟩ (.leaf) (.leaf)) (.node 103 ⟨.func,1,8,[.one (.raw .nilFunc)]⟩ (.leaf) (.leaf))) (.node 107 ⟨.struct [(0,38),(11,72),(60,23),(92,31)],108,152,[.one (.int .i64 0),.one (.int .i64 0),.one (.int .i64 0),.many 8 (List.replicate 8 (.int .u8 0 : Value)),.many 32 (List.replicate 32 (.int .u8 0 : Value)),.one (.rs none 0 0),.many 16 (List.replicate 16 (.int .u8 0 : Value)),.many 32 (List.replicate 32 (.int .u8 0 : Value)),.many 16 (List.replicate 16 (.int .u8 0 : Value))]⟩ (.node 106 ⟨.struct [(0,38),(11,72),(60,23),(92,31)],108,152,[.one (.int .i64 0),.one (.int .i64 0),.one (.int .i64 0),.many 8 (List.replicate 8 (.int .u8 0 : Value)),.many 32 (List.replicate 32 (.int .u8 0 : Value)),.one (.rs none 0 0),.many 16 (List.replicate 16 (.int .u8 0 : Value)),.many 32 (List.replicate 32 (.int .u8 0 : Value)),.many 16 (List.replicate 16 (.int .u8 0 : Value))]⟩ (.leaf) (.leaf)) (.node 109 ⟨.func,1,8,[.one (.raw .nilFunc)]⟩ (.leaf) (.leaf)))) (.node 114 ⟨.func,1,8,[.one (.raw .nilFunc)]⟩ (.node 112 ⟨.func,1,8,[.one (.raw .nilFunc)]⟩ (.node 111 ⟨.func,1,8,[.one (.raw .nilFunc)]⟩ (.leaf) (.leaf)) (.node 113 ⟨.func,1,8,[.one (.raw .nilFunc)]⟩ (.leaf) (.leaf))) (.node 116 ⟨.struct [(0,23),(32,38)],43,64,[.many 32 (List.replicate 32 (.int .u8 0 : Value)),.one (.int .i64 0),.one (.int .i64 0),.one (.int .i64 0),.many 8 (List.replicate 8 (.int .u8 0 : Value))]⟩ (.node 115 ⟨.func,1,8,[.one (.raw .nilFunc)]⟩ (.leaf) (.leaf)) (.leaf))))) (.node 134 ⟨.func,1,8,[.one (.raw .nilFunc)]⟩ (.node 127 ⟨.array 32 5,32,32,[.many 32 (List.replicate 32 (.int .u8 0 : Value))]⟩ (.node 122 ⟨.func,1,8,[.one (.raw .nilFunc)]⟩ (.node 120 ⟨.func,1,8,[.one (.raw .nilFunc)]⟩ (.node 118 ⟨.func,1,8,[.one (.raw .nilFunc)]⟩ (.leaf) (.leaf)) (.node 121 ⟨.func,1,8,[.one (.raw .nilFunc)]⟩ (.leaf) (.leaf))) (.node 125 ⟨.func,1,8,[.one (.raw .nilFunc)]⟩ (.node 123 ⟨.slice 127,1,24,[.one (.rs none 0 0)]⟩ (.leaf) (.leaf)) (.node 126 ⟨.func,1,8,[.one (.raw .nilFunc)]⟩ (.leaf) (.leaf)))) (.node 131 ⟨.slice 150,1,24,[.one (.rs none 0 0)]⟩ (.node 129 ⟨.func,1,8,[.one (.raw .nilFunc)]⟩ (.node 128 ⟨.func,1,8,[.one (.raw .nilFunc)]⟩ (.leaf) (.leaf)) (.node 130 ⟨.func,1,8,[.one (.raw .nilFunc)]⟩ (.leaf) (.leaf))) (.node 133 ⟨.func,1,8,[.one (.raw .nilFunc)]⟩ (.node 132 ⟨.func,1,8,[.one (.raw .nilFunc)]⟩ (.leaf) (.leaf)) (.leaf)))) (.node 143 ⟨.func,1,8,[.one (.raw .nilFunc)]⟩ (.node 138 ⟨.func,1,8,[.one (.raw .nilFunc)]⟩ (.node 136 ⟨.func,1,8,[.one (.raw .nilFunc)]⟩ (.node 135 ⟨.func,1,8,[.one (.raw .nilFunc)]⟩ (.leaf) (.leaf)) (.node 137 ⟨.func,1,8,[.one (.raw .nilFunc)]⟩ (.leaf) (.leaf))) (.node 141 ⟨.func,1,8,[.one (.raw .nilFunc)]⟩ (.node 140 ⟨.func,1,8,[.one (.raw .nilFunc)]⟩ (.leaf) (.leaf)) (.node 142 ⟨.func,1,8,[.one (.raw .nilFunc)]⟩ (.leaf) (.leaf)))) (.node 148 ⟨.func,1,8,[.one (.raw .nilFunc)]⟩ (.node 146 ⟨.func,1,8,[.one (.raw .nilFunc)]⟩ (.node 145 ⟨.func,1,8,[.one (.raw .nilFunc)]⟩ (.leaf) (.leaf)) (.node 147 ⟨.func,1,8,[.one (.raw .nilFunc)]⟩ (.leaf) (.leaf))) (.node 150 ⟨.struct [(0,9),(1,148)],2,24,[.one (.str ByteArray.empty),.one (.raw .nilFunc)]⟩ (.node 149 ⟨.struct [(0,9),(1,148)],2,24,[.one (.str ByteArray.empty),.one (.raw .nilFunc)]⟩ (.leaf) (.leaf)) (.leaf))))))) (.node 218 ⟨.func,1,8,[.one (.raw .nilFunc)]⟩ (.node 186 ⟨.ptr 180,1,8,[.one (.raw (.pointer none))]⟩ (.node 171 ⟨.func,1,8,[.one (.raw .nilFunc)]⟩ (.node 161 ⟨.func,1,8,[.one (.raw .nilFunc)]⟩ (.node 157 ⟨.func,1,8,[.one (.raw .nilFunc)]⟩ (.node 154 ⟨.func,1,8,[.one (.raw .nilFunc)]⟩ (.node 153 ⟨.func,1,8,[.one (.raw .nilFunc)]⟩ (.leaf) (.leaf)) (.node 156 ⟨.func,1,8,[.one (.raw .nilFunc)]⟩ (.leaf) (.leaf))) (.node 159 ⟨.func,1,8,[.one (.raw .nilFunc)]⟩ (.node 158 ⟨.func,1,8,[.one (.raw .nilFunc)]⟩ (.leaf) (.leaf)) (.node 160 ⟨.func,1,8,[.one (.raw .nilFunc)]⟩ (.leaf) (.leaf)))) (.node 166 ⟨.func,1,8,[.one (.raw .nilFunc)]⟩ (.node 164 ⟨.func,1,8,[.one (.raw .nilFunc)]⟩ (.node 163 ⟨.func,1,8,[.one (.raw .nilFunc)]⟩ (.leaf) (.leaf)) (.node 165 ⟨.func,1,8,[.one (.raw .nilFunc)]⟩ (.leaf) (.leaf))) (.node 168 ⟨.func,1,8,[.one (.raw .nilFunc)]⟩ (.node 167 ⟨.func,1,8,[.one (.raw .nilFunc)]⟩ (.leaf) (.leaf)) (.node 169 ⟨.func,1,8,[.one (.raw .nilFunc)]⟩ (.leaf) (.leaf))))) (.node 179 ⟨.array 4 178,4,32,[.many 4 (List.replicate 4 (.int .u64 0 : Value))]⟩ (.node 175 ⟨.struct [(0,23),(32,24)],33,56,[.many 32 (List.replicate 32 (.int .u8 0 : Value)),.one (.rs none 0 0)]⟩ (.node 173 ⟨.ptr 175,1,8,[.one (.raw (.pointer none))]⟩ (.node 172 ⟨.func,1,8,[.one (.raw .nilFunc)]⟩ (.leaf) (.leaf)) (.node 174 ⟨.struct [(0,23),(32,24)],33,56,[.many 32 (List.replicate 32 (.int .u8 0 : Value)),.one (.rs none 0 0)]⟩ (.leaf) (.leaf))) (.node 177 ⟨.func,1,8,[.one (.raw .nilFunc)]⟩ (.node 176 ⟨.func,1,8,[.one (.raw .nilFunc)]⟩ (.leaf) (.leaf)) (.node 178 ⟨.int .u64,1,8,[.one (.int .u64 0)]⟩ (.leaf) (.leaf)))) (.node 183 ⟨.struct [(0,180),(4,180),(8,180),(12,180),(16,180)],20,160,[.many 4 (List.replicate 4 (.int .u64 0 : Value)),.many 4 (List.replicate 4 (.int .u64 0 : Value)),.many 4 (List.replicate 4 (.int .u64 0 : Value)),.many 4 (List.replicate 4 (.int .u64 0 : Value)),.many 4 (List.replicate 4 (.int .u64 0 : Value))]⟩ (.node 181 ⟨.func,1,8,[.one (.raw .nilFunc)]⟩ (.node 180 ⟨.array 4 178,4,32,[.many 4 (List.replicate 4 (.int .u64 0 : Value))]⟩ (.leaf) (.leaf)) (.node 182 ⟨.ptr 184,1,8,[.one (.raw (.pointer none))]⟩ (.leaf) (.leaf))) (.node 185 ⟨.func,1,8,[.one (.raw .nilFunc)]⟩ (.node 184 ⟨.struct [(0,180),(4,180),(8,180),(12,180),(16,180)],20,160,[.many 4 (List.replicate 4 (.int .u64 0 : Value)),.many 4 (List.replicate 4 (.int .u64 0 : Value)),.many 4 (List.replicate 4 (.int .u64 0 : Value)),.many 4 (List.replicate 4 (.int .u64 0 : Value)),.many 4 (List.replicate 4 (.int .u64 0 : Value))]⟩ (.leaf) (.leaf)) (.leaf))))) (.node 202 ⟨.func,1,8,[.one (.raw .nilFunc)]⟩ (.node 194 ⟨.ptr 231,1,8,[.one (.raw (.pointer none))]⟩ (.node 190 ⟨.func,1,8,[.one (.raw .nilFunc)]⟩ (.node 188 ⟨.func,1,8,[.one (.raw .nilFunc)]⟩ (.node 187 ⟨.func,1,8,[.one (.raw .nilFunc)]⟩ (.leaf) (.leaf)) (.node 189 ⟨.func,1,8,[.one (.raw .nilFunc)]⟩ (.leaf) (.leaf))) (.node 192 ⟨.array 12 5,12,12,[.many 12 (List.replicate 12 (.int .u8 0 : Value))]⟩ (.node 191 ⟨.array 12 5,12,12,[.many 12 (List.replicate 12 (.int .u8 0 : Value))]⟩ (.leaf) (.leaf)) (.node 193 ⟨.int .u32,1,4,[.one (.int .u32 0)]⟩ (.leaf) (.leaf)))) (.node 199 ⟨.func,1,8,[.one (.raw .nilFunc)]⟩ (.node 197 ⟨.func,1,8,[.one (.raw .nilFunc)]⟩ (.node 195 ⟨.func,1,8,[.one (.raw .nilFunc)]⟩ (.leaf) (.leaf)) (.node 198 ⟨.func,1,8,[.one (.raw .nilFunc)]⟩ (.leaf) (.leaf))) (.node 201 ⟨.func,1,8,[.one (.raw .nilFunc)]⟩ (.node 200 ⟨.func,1,8,[.one (.raw .nilFunc)]⟩ (.leaf) (.leaf)) (.leaf)))) (.node 211 ⟨.func,1,8,[.one (.raw .nilFunc)]⟩ (.node 207 ⟨.func,1,8,[.one (.raw .nilFunc)]⟩ (.node 204 ⟨.func,1,8,[.one (.raw .nilFunc)]⟩ (.node 203 ⟨.func,1,8,[.one (.raw .nilFunc)]⟩ (.leaf) (.leaf)) (.node 205 ⟨.func,1,8,[.one (.raw .nilFunc)]⟩ (.leaf) (.leaf))) (.node 209 ⟨.func,1,8,[.one (.raw .nilFunc)]⟩ (.node 208 ⟨.ptr 242,1,8,[.one (.raw (.pointer none))]⟩ (.leaf) (.leaf)) (.node 210 ⟨.func,1,8,[.one (.raw .nilFunc)]⟩ (.leaf) (.leaf)))) (.node 215 ⟨.ptr 248,1,8,[.one (.raw (.pointer none))]⟩ (.node 213 ⟨.func,1,8,[.one (.raw .nilFunc)]⟩ (.node 212 ⟨.func,1,8,[.one (.raw .nilFunc)]⟩ (.leaf) (.leaf)) (.node 214 ⟨.func,1,8,[.one (.raw .nilFunc)]⟩ (.leaf) (.leaf))) (.node 217 ⟨.func,1,8,[.one (.raw .nilFunc)]⟩ (.node 216 ⟨.func,1,8,[.one (.raw .nilFunc)]⟩ (.leaf) (.leaf)) (.leaf)))))) (.node 249 ⟨.func,1,8,[.one (.raw .nilFunc)]⟩ (.node 234 ⟨.func,1,8,[.one (.raw .nilFunc)]⟩ (.node 226 ⟨.func,1,8,[.one (.raw .nilFunc)]⟩ (.node 222 ⟨.slice 178,1,24,[.one (.rs none 0 0)]⟩ (.node 220 ⟨.array 8 178,8,64,[.many 8 (List.replicate 8 (.int .u64 0 : Value))]⟩ (.node 219 ⟨.int .u64,1,8,[.one (.int .u64 0)]⟩ (.leaf) (.leaf)) (.node 221 ⟨.func,1,8,[.one (.raw .nilFunc)]⟩ (.leaf) (.leaf))) (.node 224 ⟨.func,1,8,[.one (.raw .nilFunc)]⟩ (.node 223 ⟨.func,1,8,[.one (.raw .nilFunc)]⟩ (.leaf) (.leaf)) (.node 225 ⟨.array 64 5,64,64,[.many 64 (List.replicate 64 (.int .u8 0 : Value))]⟩ (.leaf) (.leaf)))) (.node 230 ⟨.struct [(0,228),(2,24)],3,40,[.one (.ff),.one (.int .i64 0),.one (.rs none 0 0)]⟩ (.node 228 ⟨.struct [(0,4),(1,34)],2,16,[.one (.ff),.one (.int .i64 0)]⟩ (.node 227 ⟨.struct [(0,4),(1,34)],2,16,[.one (.ff),.one (.int .i64 0)]⟩ (.leaf) (.leaf)) (.node 229 ⟨.func,1,8,[.one (.raw .nilFunc)]⟩ (.leaf) (.leaf))) (.node 232 ⟨.func,1,8,[.one (.raw .nilFunc)]⟩ (.node 231 ⟨.struct [(0,228),(2,24)],3,40,[.one (.ff),.one (.int .i64 0),.one (.rs none 0 0)]⟩ (.leaf) (.leaf)) (.node 233 ⟨.func,1,8,[.one (.raw .nilFunc)]⟩ (.leaf) (.leaf))))) (.node 242 ⟨.struct [(0,228),(2,24),(3,3)],4,48,[.one (.ff),.one (.int .i64 0),.one (.rs none 0 0),.one (.int .i64 0)]⟩ (.node 238 ⟨.func,1,8,[.one (.raw .nilFunc)]⟩ (.node 236 ⟨.struct [(0,23),(32,23)],64,64,[.many 32 (List.replicate 32 (.int .u8 0 : Value)),.many 32 (List.replicate 32 (.int .u8 0 : Value))]⟩ (.node 235 ⟨.struct [(0,23),(32,23)],64,64,[.many 32 (List.replicate 32 (.int .u8 0 : Value)),.many 32 (List.replicate 32 (.int .u8 0 : Value))]⟩ (.leaf) (.leaf)) (.node 237 ⟨.func,1,8,[.one (.raw .nilFunc)]⟩ (.leaf) (.leaf))) (.node 240 ⟨.func,1,8,[.one (.raw .nilFunc)]⟩ (.node 239 ⟨.func,1,8,[.one (.raw .nilFunc)]⟩ (.leaf) (.leaf)) (.node 241 ⟨.struct [(0,228),(2,24),(3,3)],4,48,[.one (.ff),.one (.int .i64 0),.one (.rs none 0 0),.one (.int .i64 0)]⟩ (.leaf) (.leaf)))) (.node 246 ⟨.func,1,8,[.one (.raw .nilFunc)]⟩ (.node 244 ⟨.array 8 193,8,32,[.many 8 (List.replicate 8 (.int .u32 0 : Value))]⟩ (.node 243 ⟨.func,1,8,[.one (.raw .nilFunc)]⟩ (.leaf) (.leaf)) (.node 245 ⟨.array 8 193,8,32,[.many 8 (List.replicate 8 (.int .u32 0 : Value))]⟩ (.leaf) (.leaf))) (.node 248 ⟨.struct [(0,4),(1,245),(9,24),(10,3)],11,72,[.one (.ff),.many 8 (List.replicate 8 (.int .u32 0 : Value)),.one (.rs none 0 0),.one (.int .i64 0)]⟩ (.node 247 ⟨.struct [(0,4),(1,245),(9,24),(10,3)],11,72,[.one (.ff),.many 8 (List.replicate 8 (.int .u32 0 : Value)),.one (.rs none 0 0),.one (.int .i64 0)]⟩ (.leaf) (.leaf)) (.leaf))))) (.node 265 ⟨.func,1,8,[.one (.raw .nilFunc)]⟩ (.node 258 ⟨.func,1,8,[.one (.raw .nilFunc)]⟩ (.node 254 ⟨.array 16 193,16,64,[.many 16 (List.replicate 16 (.int .u32 0 : Value))]⟩ (.node 252 ⟨.func,1,8,[.one (.raw .nilFunc)]⟩ (.node 251 ⟨.func,1,8,[.one (.raw .nilFunc)]⟩ (.leaf) (.leaf)) (.node 253 ⟨.func,1,8,[.one (.raw .nilFunc)]⟩ (.leaf) (.leaf))) (.node 256 ⟨.func,1,8,[.one (.raw .nilFunc)]⟩ (.node 255 ⟨.array 16 193,16,64,[.many 16 (List.replicate 16 (.int .u32 0 : Value))]⟩ (.leaf) (.leaf)) (.node 257 ⟨.ptr 228,1,8,[.one (.raw (.pointer none))]⟩ (.leaf) (.leaf)))) (.node 262 ⟨.func,1,8,[.one (.raw .nilFunc)]⟩ (.node 260 ⟨.func,1,8,[.one (.raw .nilFunc)]⟩ (.node 259 ⟨.slice 3,1,24,[.one (.rs none 0 0)]⟩ (.leaf) (.leaf)) (.node 261 ⟨.slice 193,1,24,[.one (.rs none 0 0)]⟩ (.leaf) (.leaf))) (.node 264 ⟨.func,1,8,[.one (.raw .nilFunc)]⟩ (.node 263 ⟨.func,1,8,[.one (.raw .nilFunc)]⟩ (.leaf) (.leaf)) (.leaf)))) (.node 273 ⟨.func,1,8,[.one (.raw .nilFunc)]⟩ (.node 269 ⟨.func,1,8,[.one (.raw .nilFunc)]⟩ (.node 267 ⟨.array 64 193,64,256,[.many 64 (List.replicate 64 (.int .u32 0 : Value))]⟩ (.node 266 ⟨.ptr 245,1,8,[.one (.raw (.pointer none))]⟩ (.leaf) (.leaf)) (.node 268 ⟨.func,1,8,[.one (.raw .nilFunc)]⟩ (.leaf) (.leaf))) (.node 271 ⟨.ptr 255,1,8,[.one (.raw (.pointer none))]⟩ (.node 270 ⟨.func,1,8,[.one (.raw .nilFunc)]⟩ (.leaf) (.leaf)) (.node 272 ⟨.func,1,8,[.one (.raw .nilFunc)]⟩ (.leaf) (.leaf)))) (.node 282 ⟨.func,1,8,[.one (.raw .nilFunc)]⟩ (.node 275 ⟨.func,1,8,[.one (.raw .nilFunc)]⟩ (.node 274 ⟨.func,1,8,[.one (.raw .nilFunc)]⟩ (.leaf) (.leaf)) (.node 276 ⟨.func,1,8,[.one (.raw .nilFunc)]⟩ (.leaf) (.leaf))) (.node 286 ⟨.ptr 5,1,8,[.one (.raw (.pointer none))]⟩ (.node 285 ⟨.func,1,8,[.one (.raw .nilFunc)]⟩ (.leaf) (.leaf)) (.leaf)))))))
set_option maxRecDepth 100000 in
theorem tt_ok : tt.ok Tryz.prog:=TT.ok_of (by kernel_rfl) (by kernel_rfl)
end Go.Proofs.YtfehjfoajlfhfaaGreatDoor
