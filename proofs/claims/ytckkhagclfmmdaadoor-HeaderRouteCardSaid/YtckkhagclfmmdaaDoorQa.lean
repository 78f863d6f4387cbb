import Derived.Test.YtckkhagclfmmdaaDoorWc
/- Prime numbers (plain): Fermat's little theorem, Pocklington's criterion. -/
namespace Go.Proofs.YtckkhagclfmmdaaDoor.Gr
set_option maxRecDepth 100000
set_option linter.unusedSimpArgs false
set_option linter.unusedVariables false
theorem q7i : ∀ (l m : List Nat),l.Nodup → (∀ x ∈ l,x ∈ m) → l.length = m.length → l.Perm m
  | [],m,_,_,h=>by
    cases m with
    | nil=>exact List.Perm.refl _
    | cons a t=>simp at h
  | a :: t,m,hn,hs,h=>by
    have ha : a ∈ m:=hs a List.mem_cons_self;have hp : m.Perm (a :: m.erase a):=List.perm_cons_erase ha;have hn':=List.nodup_cons.1 hn
    have h1 : ∀ x ∈ t,x ∈ m.erase a:=fun x hx=>by
      have hne : x ≠ a:=fun e=>hn'.1 (e ▸ hx);exact (List.mem_erase_of_ne hne).2 (hs x (List.mem_cons_of_mem _ hx))
    have hl:=hp.length_eq;simp only [List.length_cons] at h hl;exact ((q7i t (m.erase a) hn'.2 h1 (by omega)).cons a).trans hp.symm
structure Prim (p : Nat) : Prop where
  two : 2 ≤ p
  dv : ∀ d,d ∣ p → d = 1 ∨ d = p
theorem Prim.cop {p a : Nat} (h : Prim p) (ha : ¬ p ∣ a) : Nat.gcd p a = 1:=by
  rcases h.dv _ (Nat.gcd_dvd_left p a) with e | e
  · exact e
  · exact absurd (e ▸ Nat.gcd_dvd_right p a) ha
theorem Prim.mul {p a b : Nat} (h : Prim p) (hd : p ∣ a * b) : p ∣ a ∨ p ∣ b:=by
  by_cases ha : p ∣ a
  · exact .inl ha
  · exact .inr (Nat.Coprime.dvd_of_dvd_mul_left (h.cop ha) hd)
def prod : List Nat → Nat
  | []=>1
  | a :: l=>a * prod l
theorem qez {l m : List Nat} (h : l.Perm m) : prod l = prod m:=by
  induction h with
  | nil=>rfl
  | cons a _ ih=>show a * _ = a * _;rw [ih]
  | swap a b l=>show b * (a * _) = a * (b * _);rw [Nat.mul_left_comm]
  | trans _ _ h1 h2=>exact h1.trans h2
theorem q70 {p : Nat} (h : Prim p) : ∀ {l : List Nat},(∀ x ∈ l,¬ p ∣ x) → ¬ p ∣ prod l
  | [],_,hd=>by
    have h1 : p ∣ 1:=hd;have:=Nat.le_of_dvd (by decide) h1;have:=h.two;omega
  | a :: l,hl,hd=>by
    rcases h.mul hd with e | e
    · exact hl a List.mem_cons_self e
    · exact q70 h (fun x hx=>hl x (List.mem_cons_of_mem _ hx)) e
theorem qd7 (p a : Nat) : ∀ l : List Nat,prod (l.map fun x=>a * x % p) % p = a ^ l.length * prod l % p
  | []=>by show 1 % p = a ^ 0 * 1 % p;rw [Nat.pow_zero,Nat.one_mul]
  | x :: l=>by
    show (a * x % p * prod (l.map fun x=>a * x % p)) % p = a ^ (l.length + 1) * (x * prod l) % p;rw [Nat.mul_mod,qd7 p a l,Nat.mod_mod,← Nat.mul_mod];congr 1;rw [Nat.pow_succ];ac_rfl
theorem qf1 {p a x y : Nat} (h : Prim p) (ha : ¬ p ∣ a) (hx : x < p) (hy : y < p) (e : a * x % p = a * y % p) : x = y:=by
  have key : ∀ {x y : Nat},x ≤ y → y < p → a * x % p = a * y % p → x = y:=fun {x y} hxy hy e=>by
    have h1 : p ∣ a * y - a * x:=Nat.dvd_of_mod_eq_zero (Nat.sub_mod_eq_zero_of_mod_eq e.symm);rw [← Nat.mul_sub] at h1
    rcases h.mul h1 with k | k
    · exact absurd k ha
    · have:=Nat.eq_zero_of_dvd_of_lt k (by omega);omega
  rcases Nat.le_total x y with hxy | hxy
  · exact key hxy hy e
  · exact (key hxy hx e.symm).symm
theorem q53 {f : Nat → Nat} : ∀ {l : List Nat},(∀ x ∈ l,∀ y ∈ l,f x = f y → x = y) → l.Nodup → (l.map f).Nodup
  | [],_,_=>List.nodup_nil
  | a :: l,hi,hn=>by
    have hn':=List.nodup_cons.1 hn;refine List.nodup_cons.2 ⟨fun hm=>?_,q53 (fun x hx y hy=>hi x (List.mem_cons_of_mem _ hx) y (List.mem_cons_of_mem _ hy)) hn'.2⟩;obtain ⟨b,hb,e⟩:=List.mem_map.1 hm;exact hn'.1 (hi b (List.mem_cons_of_mem _ hb) a List.mem_cons_self e ▸ hb)
theorem qik {p a : Nat} (h : Prim p) (ha : ¬ p ∣ a) : a ^ (p - 1) % p = 1 % p:=by
  have h2:=h.two
  have hmem : ∀ x,x ∈ List.range' 1 (p - 1) ↔ 1 ≤ x ∧ x < p:=fun x=>by
    rw [List.mem_range'_1];omega
  have hnd : (List.range' 1 (p - 1)).Nodup:=List.nodup_range'
  have hp : ((List.range' 1 (p - 1)).map fun x=>a * x % p).Perm (List.range' 1 (p - 1)):=by
    refine q7i _ _ (q53 (fun x hx y hy e=>?_) hnd) (fun z hz=>?_) (List.length_map _)
    · exact qf1 h ha ((hmem x).1 hx).2 ((hmem y).1 hy).2 e
    · obtain ⟨x,hx,e⟩:=List.mem_map.1 hz;have hx':=(hmem x).1 hx;have hlt : a * x % p < p:=Nat.mod_lt _ (by omega)
      have hne : a * x % p ≠ 0:=fun e0=>by
        rcases h.mul (Nat.dvd_of_mod_eq_zero e0) with k | k
        · exact ha k
        · have:=Nat.le_of_dvd (by omega) k;omega
      have e' : a * x % p = z:=e;rw [← e'];exact (hmem _).2 ⟨by omega,hlt⟩
  have e:=qd7 p a (List.range' 1 (p - 1));rw [qez hp,List.length_range'] at e
  have hn : ¬ p ∣ prod (List.range' 1 (p - 1)):=q70 h fun x hx hd=>by
    have hx':=(hmem x).1 hx;have:=Nat.le_of_dvd (by omega) hd;omega
  generalize prod (List.range' 1 (p - 1)) = w at e hn;have h3 : w * 1 % p = w * (a ^ (p - 1)) % p:=by rw [Nat.mul_one,Nat.mul_comm w,e]
  have hlt : a ^ (p - 1) % p < p:=Nat.mod_lt _ (by omega);have h4 : w * 1 % p = w * (a ^ (p - 1) % p) % p:=by rw [h3,Nat.mul_mod,Nat.mul_mod w (_ % p),Nat.mod_mod]
  rw [Nat.mod_eq_of_lt (show 1 < p by omega)];exact (qf1 h hn (by omega) hlt h4).symm
theorem least {n : Nat} (h : 2 ≤ n) (hn : ¬ Prim n) : ∃ r,Prim r ∧ r ∣ n ∧ r * r ≤ n:=by
  have hex : ∃ d,2 ≤ d ∧ d ∣ n ∧ ∀ e,2 ≤ e → e ∣ n → d ≤ e:=by
    have : ∀ k,(∃ d,2 ≤ d ∧ d ∣ n ∧ d ≤ k) → ∃ d,2 ≤ d ∧ d ∣ n ∧ ∀ e,2 ≤ e → e ∣ n → d ≤ e:=fun k=>by
      induction k with
      | zero=>rintro ⟨d,a,_,b⟩;omega
      | succ k ih =>
        rintro ⟨d,a,b,c⟩
        by_cases hk : ∃ d,2 ≤ d ∧ d ∣ n ∧ d ≤ k
        · exact ih hk
        · refine ⟨d,a,b,fun e he hd=>Nat.le_of_not_lt fun hlt=>hk ⟨e,he,hd,by omega⟩⟩
    exact this n ⟨n,h,Nat.dvd_refl _,Nat.le_refl _⟩
  obtain ⟨d,h2,hd,hm⟩:=hex
  have hpr : Prim d:=⟨h2,fun e he=>by
    have he0 : 0 < e:=Nat.pos_of_dvd_of_pos he (by omega)
    by_cases h1 : e = 1
    · exact .inl h1
    · have:=hm e (by omega) (Nat.dvd_trans he hd);have:=Nat.le_of_dvd (by omega) he;exact .inr (by omega)⟩
  refine ⟨d,hpr,hd,?_⟩;obtain ⟨k,hk⟩:=hd;have hk0 : k ≠ 0:=fun e=>by subst e;omega
  by_cases hk1 : k = 1
  · subst hk1;rw [Nat.mul_one] at hk;exact absurd (hk ▸ hpr) hn
  · have:=hm k (by omega) ⟨d,by rw [hk,Nat.mul_comm]⟩;rw [hk];exact Nat.mul_le_mul_left _ this
theorem qjn {r a : Nat} (m n : Nat) : a ^ m % r = 1 % r → a ^ n % r = 1 % r → a ^ Nat.gcd m n % r = 1 % r:=by
  induction m,n using Nat.gcd.induction with
  | H0 n=>intro _ h;rwa [Nat.gcd_zero_left]
  | H1 m n hm ih =>
    intro h1 h2;rw [Nat.gcd_rec];refine ih ?_ h1
    have e : a ^ n % r = a ^ (n % m) % r:=by
      conv=>lhs;rw [← Nat.div_add_mod n m,Nat.pow_add,Nat.pow_mul,Nat.mul_mod,Nat.pow_mod,h1,← Nat.pow_mod,Nat.one_pow,← Nat.mul_mod,Nat.one_mul]
    rw [← e,h2]
theorem pock1 {N q a r : Nat} (hq : Prim q) (hN : 2 ≤ N) (hd : q ∣ N - 1) (h1 : a ^ (N - 1) % N = 1) (hg : Nat.gcd (a ^ ((N - 1) / q) % N + (N - 1)) N = 1) (hr : Prim r) (hrn : r ∣ N) : q ∣ r - 1:=by
  have hr2:=hr.two;have m1 : ∀ e,a ^ e % N % r = a ^ e % r:=fun e=>Nat.mod_mod_of_dvd _ hrn;have e1 : a ^ (N - 1) % r = 1 % r:=by rw [← m1,h1]
  have hna : ¬ r ∣ a:=fun k=>by
    have : r ∣ a ^ (N - 1):=Nat.dvd_trans k ⟨a ^ (N - 2),by rw [show N - 1 = N - 2 + 1 by omega,Nat.pow_succ,Nat.mul_comm]⟩;rw [Nat.mod_eq_zero_of_dvd this,Nat.mod_eq_of_lt (by omega)] at e1;omega
  have e2:=qik hr hna;have e3:=qjn _ _ e1 e2
  by_cases hqg : q ∣ Nat.gcd (N - 1) (r - 1)
  · exact Nat.dvd_trans hqg (Nat.gcd_dvd_right _ _)
  · exfalso
    obtain ⟨M,hM⟩:=hd;have hq2:=hq.two;have hdiv : (N - 1) / q = M:=by rw [hM,Nat.mul_div_cancel_left _ (by omega)]
    have hgM : Nat.gcd (N - 1) (r - 1) ∣ M:=by
      have h5 : Nat.gcd (N - 1) (r - 1) ∣ q * M:=hM ▸ Nat.gcd_dvd_left _ _;exact Nat.Coprime.dvd_of_dvd_mul_left ((Nat.gcd_comm _ _).trans (hq.cop hqg)) h5
    obtain ⟨j,hj⟩:=hgM;have e4 : a ^ M % r = 1 % r:=by rw [hj,Nat.pow_mul,Nat.pow_mod,e3,← Nat.pow_mod,Nat.one_pow]
    have h6 : r ∣ a ^ ((N - 1) / q) % N + (N - 1):=by
      refine Nat.dvd_of_mod_eq_zero ?_;rw [Nat.add_mod,m1,hdiv,e4,← Nat.add_mod,show 1 + (N - 1) = N by omega];exact Nat.mod_eq_zero_of_dvd hrn
    have h7 : r ∣ 1:=hg ▸ Nat.dvd_gcd h6 hrn;have:=Nat.le_of_dvd (by decide) h7;omega
def pmod (N : Nat) : Nat → Nat → Nat → Nat
  | 0,_,_=>1 % N
  | f + 1,a,e=>if e = 0 then 1 % N else let h:=pmod N f (a * a % N) (e / 2);if e % 2 = 1 then h * a % N else h
theorem q7d (N : Nat) : ∀ f a e,e < 2 ^ f → pmod N f a e = a ^ e % N
  | 0,a,e,h=>by
    have : e = 0:=by simpa using h
    subst this;rfl
  | f + 1,a,e,h=>by
    show (if e = 0 then 1 % N else if e % 2 = 1 then pmod N f (a * a % N) (e / 2) * a % N else pmod N f (a * a % N) (e / 2)) = _;have ih:=q7d N f (a * a % N) (e / 2) (by rw [Nat.pow_succ] at h;omega);rw [← Nat.pow_mod] at ih
    by_cases h0 : e = 0
    · rw [if_pos h0,h0,Nat.pow_zero]
    · rw [if_neg h0,ih];have h2 : (a * a) ^ (e / 2) = a ^ (2 * (e / 2)):=by rw [Nat.pow_mul,Nat.pow_two]
      by_cases h1 : e % 2 = 1
      · rw [if_pos h1,h2,Nat.mod_mul_mod,← Nat.pow_succ,show (2 * (e / 2)).succ = e by omega]
      · rw [if_neg h1,h2,show 2 * (e / 2) = e by omega]
def pocks (N : Nat) (l : List Nat) : Bool :=
  decide (2 ≤ N) && decide (N < (prod l + 1) * (prod l + 1)) && decide (pmod N 256 2 (N - 1) = 1) && decide (N < 2 ^ 256) &&
  l.all fun q=>decide (q * ((N - 1) / q) = N - 1) && decide (Nat.gcd (pmod N 256 2 ((N - 1) / q) + (N - 1)) N = 1)
theorem qck {n : Nat} : ∀ {l : List Nat},(∀ x ∈ l,Prim x) → l.Nodup → (∀ x ∈ l,x ∣ n) → prod l ∣ n
  | [],_,_,_=>Nat.one_dvd _
  | a :: l,hp,hn,hd=>by
    have hn':=List.nodup_cons.1 hn;have ih:=qck (fun x hx=>hp x (List.mem_cons_of_mem _ hx)) hn'.2 (fun x hx=>hd x (List.mem_cons_of_mem _ hx))
    have hc : Nat.Coprime a (prod l):=(hp a List.mem_cons_self).cop (q70 (hp a List.mem_cons_self) fun x hx hax=>by
      rcases (hp x (List.mem_cons_of_mem _ hx)).dv a hax with e | e
      · have:=(hp a List.mem_cons_self).two;omega
      · exact hn'.1 (e ▸ hx))
    exact Nat.Coprime.mul_dvd_of_dvd_of_dvd hc (hd a List.mem_cons_self) ih
theorem pock {N : Nat} (l : List Nat) (hl : ∀ x ∈ l,Prim x) (hn : l.Nodup) (h : pocks N l = true) : Prim N:=by
  unfold pocks at h;simp only [Bool.and_eq_true,decide_eq_true_eq,List.all_eq_true] at h;obtain ⟨⟨⟨⟨h2,hlt⟩,h1⟩,hb⟩,hq⟩:=h;rw [q7d _ _ _ _ (by omega)] at h1;refine Classical.byContradiction fun hnp=>?_;obtain ⟨r,hr,hrn,hrr⟩:=least h2 hnp;have hr2:=hr.two
  have hd : prod l ∣ r - 1:=qck hl hn fun q hqm=>by
    obtain ⟨ha,hg⟩:=hq q hqm;rw [q7d _ _ _ _ (by have:=Nat.div_le_self (N - 1) q;omega)] at hg;exact pock1 (hl q hqm) h2 ⟨_,ha.symm⟩ h1 hg hr hrn
  have:=Nat.le_of_dvd (by omega) hd;have h3 : prod l + 1 ≤ r:=by omega
  have:=Nat.mul_le_mul h3 h3;omega
def qj3 (n : Nat) : Bool:=decide (2 ≤ n) && (List.range n).all fun d=>decide (d < 2) || decide (n % d ≠ 0)
theorem small {n : Nat} (h : qj3 n = true) : Prim n:=by
  unfold qj3 at h;simp only [Bool.and_eq_true,decide_eq_true_eq,List.all_eq_true,Bool.or_eq_true,List.mem_range] at h;obtain ⟨h2,ha⟩:=h;refine ⟨h2,fun d hd=>?_⟩;have hle:=Nat.le_of_dvd (by omega) hd
  by_cases h1 : d = n
  · exact .inr h1
  · rcases ha d (by omega) with k | k
    · have:=Nat.pos_of_dvd_of_pos hd (by omega);exact .inl (by omega)
    · exact absurd (Nat.mod_eq_zero_of_dvd hd) k
theorem q6t {a b : Nat} (h : a ≠ b) : [a,b].Nodup:=by simp [h]
theorem all1 {P : Nat → Prop} {a : Nat} (h : P a) : ∀ x ∈ [a],P x:=by simpa using h
theorem all2 {P : Nat → Prop} {a b : Nat} (h : P a) (k : P b) : ∀ x ∈ [a,b],P x:=by simp [h,k]
theorem p991 : Prim 991:=small (by decide +kernel)
theorem p103 : Prim 103:=small (by decide +kernel)
theorem p127 : Prim 127:=small (by decide +kernel)
theorem p419 : Prim 419:=small (by decide +kernel)
theorem p97 : Prim 97:=small (by decide +kernel)
theorem p1723 : Prim 1723:=small (by decide +kernel)
theorem p4153 : Prim 4153:=small (by decide +kernel)
theorem p2551 : Prim 2551:=small (by decide +kernel)
theorem p3797 : Prim 3797:=small (by decide +kernel)
theorem q1 : Prim 8574133:=pock [991,103] (all2 p991 p103) (q6t (by decide)) (by decide +kernel)
theorem q2 : Prim 1919519569386763:=pock [8574133,127] (all2 q1 p127) (q6t (by decide)) (by decide +kernel)
theorem q3 : Prim 569003:=pock [419,97] (all2 p419 p97) (q6t (by decide)) (by decide +kernel)
theorem q4 : Prim 2773320623:=pock [569003] (all1 q3) (by simp) (by decide +kernel)
theorem q5 : Prim 72106336199:=pock [2773320623] (all1 q4) (by simp) (by decide +kernel)
theorem q6 : Prim 75445702479781427272750846543864801:=pock [1919519569386763,72106336199] (all2 q2 q5) (q6t (by decide)) (by decide +kernel)
theorem q7 : Prim 430751:=pock [1723] (all1 p1723) (by simp) (by decide +kernel)
theorem q8 : Prim 31757755568855353:=pock [430751,4153] (all2 q7 p4153) (q6t (by decide)) (by decide +kernel)
theorem q9 : Prim 74058212732561358302231226437062788676166966415465897661863160754340907:=pock [75445702479781427272750846543864801,31757755568855353] (all2 q6 q8) (q6t (by decide)) (by decide +kernel)
theorem qlx : Prim 57896044618658097711785492504343953926634992332820282019728792003956564819949:=pock [74058212732561358302231226437062788676166966415465897661863160754340907] (all1 q9) (by simp) (by decide +kernel)
theorem r1 : Prim 1224481:=pock [2551] (all1 p2551) (by simp) (by decide +kernel)
theorem r2 : Prim 531581:=pock [3797] (all1 p3797) (by simp) (by decide +kernel)
theorem r3 : Prim 1257559732178653:=pock [1224481,531581] (all2 r1 r2) (q6t (by decide)) (by decide +kernel)
theorem r4 : Prim 4434155615661930479:=pock [1257559732178653] (all1 r3) (by simp) (by decide +kernel)
theorem r5 : Prim 172054593956031949258510691:=pock [4434155615661930479] (all1 r4) (by simp) (by decide +kernel)
theorem r6 : Prim 19757330305831588566944191468367130476339:=pock [172054593956031949258510691] (all1 r5) (by simp) (by decide +kernel)
theorem r7 : Prim 276602624281642239937218680557139826668747:=pock [19757330305831588566944191468367130476339] (all1 r6) (by simp) (by decide +kernel)
theorem qm7 : Prim 7237005577332262213973186563042994240857116359379907606001950938285454250989:=pock [276602624281642239937218680557139826668747] (all1 r7) (by simp) (by decide +kernel)
end Go.Proofs.YtckkhagclfmmdaaDoor.Gr

namespace Go.Proofs.YtckkhagclfmmdaaDoor.Gr
set_option maxRecDepth 100000
set_option linter.unusedSimpArgs false
set_option linter.unusedVariables false
variable {n : Nat} [NeZero n]
structure Fld (n : Nat) [NeZero n] where
  inv : Fin n → Fin n
  inv0 : inv 0 = 0
  invm : ∀ a,a ≠ 0 → a * inv a = 1
  one : (1 : Fin n) ≠ 0
  two : (2 : Fin n) ≠ 0
theorem Fld.mul (F : Fld n) {a b : Fin n} (h : a * b = 0) : a = 0 ∨ b = 0:=by
  by_cases ha : a = 0
  · exact .inl ha
  · have:=F.invm a ha;exact .inr (by grobner)
theorem Fld.ne (F : Fld n) {a b : Fin n} (ha : a ≠ 0) (hb : b ≠ 0) : a * b ≠ 0:=fun h=>(F.mul h).elim ha hb
theorem Fld.can (F : Fld n) {a b c : Fin n} (hc : c ≠ 0) (h : c * a = c * b) : a = b:=by
  have:=F.invm c hc
  grobner
theorem Fld.two' (F : Fld n) {x : Fin n} (h : x + x = 0) : x = 0:=by
  have h2 : (2 : Fin n) * x = 0:=by grobner
  exact (F.mul h2).resolve_left F.two
structure Crv (n : Nat) [NeZero n] extends Fld n where
  r : Fin n
  a : Fin n
  d : Fin n
  hr : r ≠ 0
  ha : a = r * r
  hd : ∀ x y,x * x = d * (y * y) → y = 0
@[ext] structure Poi (C : Crv n) where
  x : Fin n
  y : Fin n
  h : C.a * x * x + y * y = 1 + C.d * x * x * y * y
variable {C : Crv n}
theorem den (P Q : Poi C) {e : Fin n} (he : e = C.d * P.x * Q.x * P.y * Q.y) (h1 : e * e = 1) : False:=by
  obtain ⟨x,y,h⟩:=P;obtain ⟨u,v,k⟩:=Q;dsimp only at he;have hone:=C.one;have ha:=C.ha;have hx : x * y ≠ 0:=fun h0=>hone (by grobner);have e1 : (C.r * x + e * y) * (C.r * x + e * y) = C.d * ((x * y * (C.r * u + v)) * (x * y * (C.r * u + v))):=by grobner
  have e2 : (C.r * x - e * y) * (C.r * x - e * y) = C.d * ((x * y * (C.r * u - v)) * (x * y * (C.r * u - v))):=by grobner
  have k1:=(C.toFld.mul (C.hd _ _ e1)).resolve_left hx;have k2:=(C.toFld.mul (C.hd _ _ e2)).resolve_left hx;have k3 : v = 0:=C.toFld.two' (by grobner);exact hone (by grobner)
theorem den1 (P Q : Poi C) : 1 + C.d * P.x * Q.x * P.y * Q.y ≠ 0:=fun h=>den P Q rfl (by grobner)
theorem den2 (P Q : Poi C) : 1 - C.d * P.x * Q.x * P.y * Q.y ≠ 0:=fun h=>den P Q rfl (by grobner)
def ax (P Q : Poi C) : Fin n:=(P.x * Q.y + P.y * Q.x) * C.inv (1 + C.d * P.x * Q.x * P.y * Q.y)
def ay (P Q : Poi C) : Fin n:=(P.y * Q.y - C.a * P.x * Q.x) * C.inv (1 - C.d * P.x * Q.x * P.y * Q.y)
theorem ax_e (P Q : Poi C) : ax P Q * (1 + C.d * P.x * Q.x * P.y * Q.y) = P.x * Q.y + P.y * Q.x:=by
  have:=C.invm _ (den1 P Q);unfold ax
  grobner
theorem ay_e (P Q : Poi C) : ay P Q * (1 - C.d * P.x * Q.x * P.y * Q.y) = P.y * Q.y - C.a * P.x * Q.x:=by
  have:=C.invm _ (den2 P Q);unfold ay
  grobner
theorem cl1 {a d x1 y1 x2 y2 : Fin n} (h : a * x1 * x1 + y1 * y1 = 1 + d * x1 * x1 * y1 * y1) (k : a * x2 * x2 + y2 * y2 = 1 + d * x2 * x2 * y2 * y2) :
    a * ((x1 * y2 + y1 * x2) * (1 - d * x1 * x2 * y1 * y2)) * ((x1 * y2 + y1 * x2) * (1 - d * x1 * x2 * y1 * y2)) + ((y1 * y2 - a * x1 * x2) * (1 + d * x1 * x2 * y1 * y2)) * ((y1 * y2 - a * x1 * x2) * (1 + d * x1 * x2 * y1 * y2))
    = ((1 + d * x1 * x2 * y1 * y2) * (1 - d * x1 * x2 * y1 * y2)) * ((1 + d * x1 * x2 * y1 * y2) * (1 - d * x1 * x2 * y1 * y2)) + d * (x1 * y2 + y1 * x2) * (x1 * y2 + y1 * x2) * (y1 * y2 - a * x1 * x2) * (y1 * y2 - a * x1 * x2):=by
  grobner
theorem onc {a d x y u v s t : Fin n} (h : a * x * x + y * y = 1 + d * x * x * y * y) (k : a * u * u + v * v = 1 + d * u * u * v * v)
    (hs : s * (1 + d * x * u * y * v) = x * v + y * u) (ht : t * (1 - d * x * u * y * v) = y * v - a * x * u) :
    ((1 + d * x * u * y * v) * (1 - d * x * u * y * v)) * ((1 + d * x * u * y * v) * (1 - d * x * u * y * v)) * (a * s * s + t * t) = ((1 + d * x * u * y * v) * (1 - d * x * u * y * v)) * ((1 + d * x * u * y * v) * (1 - d * x * u * y * v)) * (1 + d * s * s * t * t):=by
  have c:=cl1 h k;rw [← hs,← ht] at c;clear h k hs ht;generalize d * x * u * y * v = e at *
  grobner
def Poi.add (P Q : Poi C) : Poi C:=⟨ax P Q,ay P Q,by
  have h:=onc P.h Q.h (ax_e P Q) (ay_e P Q);exact C.toFld.can (C.toFld.ne (C.toFld.ne (den1 P Q) (den2 P Q)) (C.toFld.ne (den1 P Q) (den2 P Q))) h⟩
theorem Poi.comm (P Q : Poi C) : P.add Q = Q.add P:=by
  have e1 : C.d * P.x * Q.x * P.y * Q.y = C.d * Q.x * P.x * Q.y * P.y:=by grobner
  refine Poi.ext ?_ ?_
  · show ax P Q = ax Q P;unfold ax;rw [e1,show P.x * Q.y + P.y * Q.x = Q.x * P.y + Q.y * P.x by grobner]
  · show ay P Q = ay Q P;unfold ay;rw [e1,show P.y * Q.y - C.a * P.x * Q.x = Q.y * P.y - C.a * Q.x * P.x by grobner]
def Poi.o (C : Crv n) : Poi C:=⟨0,1,by grobner⟩
theorem Poi.add_o (P : Poi C) : P.add (Poi.o C) = P:=by
  have h1:=ax_e P (Poi.o C);have h2:=ay_e P (Poi.o C);refine Poi.ext ?_ ?_
  · show ax P (Poi.o C) = P.x;unfold Poi.o at *;dsimp only at h1
    grobner
  · show ay P (Poi.o C) = P.y;unfold Poi.o at *;dsimp only at h2
    grobner
def Poi.neg (P : Poi C) : Poi C:=⟨-P.x,P.y,by have:=P.h;grind⟩
theorem Poi.add_neg (P : Poi C) : P.add P.neg = Poi.o C:=by
  have h1:=ax_e P P.neg;have h2:=ay_e P P.neg;have d1:=den1 P P.neg;have d2:=den2 P P.neg;have h:=P.h;refine Poi.ext ?_ ?_
  · show ax P P.neg = 0;generalize ax P P.neg = s at *;unfold Poi.neg at *;dsimp only at h1 d1;exact C.toFld.can d1 (by grobner)
  · show ay P P.neg = 1;generalize ay P P.neg = s at *;unfold Poi.neg at *;dsimp only at h2 d2;exact C.toFld.can d2 (by grobner)
theorem asx {a d x1 y1 x2 y2 x3 y3 : Fin n} (h1 : a * x1 * x1 + y1 * y1 = 1 + d * x1 * x1 * y1 * y1) (h2 : a * x2 * x2 + y2 * y2 = 1 + d * x2 * x2 * y2 * y2) (h3 : a * x3 * x3 + y3 * y3 = 1 + d * x3 * x3 * y3 * y3) :
    ((x1 * y2 + y1 * x2) * (1 - d * x1 * x2 * y1 * y2) * y3 + (y1 * y2 - a * x1 * x2) * (1 + d * x1 * x2 * y1 * y2) * x3) * ((1 + d * x2 * x3 * y2 * y3) * (1 - d * x2 * x3 * y2 * y3) + d * x1 * y1 * (x2 * y3 + y2 * x3) * (y2 * y3 - a * x2 * x3))
    = (x1 * (y2 * y3 - a * x2 * x3) * (1 + d * x2 * x3 * y2 * y3) + y1 * (x2 * y3 + y2 * x3) * (1 - d * x2 * x3 * y2 * y3)) * ((1 + d * x1 * x2 * y1 * y2) * (1 - d * x1 * x2 * y1 * y2) + d * (x1 * y2 + y1 * x2) * (y1 * y2 - a * x1 * x2) * x3 * y3):=by
  grobner
theorem asy {a d x1 y1 x2 y2 x3 y3 : Fin n} (h1 : a * x1 * x1 + y1 * y1 = 1 + d * x1 * x1 * y1 * y1) (h2 : a * x2 * x2 + y2 * y2 = 1 + d * x2 * x2 * y2 * y2) (h3 : a * x3 * x3 + y3 * y3 = 1 + d * x3 * x3 * y3 * y3) :
    ((y1 * y2 - a * x1 * x2) * (1 + d * x1 * x2 * y1 * y2) * y3 - a * (x1 * y2 + y1 * x2) * (1 - d * x1 * x2 * y1 * y2) * x3) * ((1 + d * x2 * x3 * y2 * y3) * (1 - d * x2 * x3 * y2 * y3) - d * x1 * y1 * (x2 * y3 + y2 * x3) * (y2 * y3 - a * x2 * x3))
    = (y1 * (y2 * y3 - a * x2 * x3) * (1 + d * x2 * x3 * y2 * y3) - a * x1 * (x2 * y3 + y2 * x3) * (1 - d * x2 * x3 * y2 * y3)) * ((1 + d * x1 * x2 * y1 * y2) * (1 - d * x1 * x2 * y1 * y2) - d * (x1 * y2 + y1 * x2) * (y1 * y2 - a * x1 * x2) * x3 * y3):=by
  grobner
theorem asx2 {a d x1 y1 x2 y2 x3 y3 A B U V s t e f : Fin n} (h1 : a * x1 * x1 + y1 * y1 = 1 + d * x1 * x1 * y1 * y1) (h2 : a * x2 * x2 + y2 * y2 = 1 + d * x2 * x2 * y2 * y2) (h3 : a * x3 * x3 + y3 * y3 = 1 + d * x3 * x3 * y3 * y3)
    (he : e = d * x1 * x2 * y1 * y2) (hf : f = d * x2 * x3 * y2 * y3)
    (hA : A * (1 + e) = x1 * y2 + y1 * x2) (hB : B * (1 - e) = y1 * y2 - a * x1 * x2)
    (hU : U * (1 + f) = x2 * y3 + y2 * x3) (hV : V * (1 - f) = y2 * y3 - a * x2 * x3)
    (hs : s * (1 + d * A * x3 * B * y3) = A * y3 + B * x3) (ht : t * (1 + d * x1 * U * y1 * V) = x1 * V + y1 * U) :
    ((1 + e) * (1 - e)) * ((1 + f) * (1 - f)) * ((1 + d * A * x3 * B * y3) * (1 + d * x1 * U * y1 * V)) * s = ((1 + e) * (1 - e)) * ((1 + f) * (1 - f)) * ((1 + d * A * x3 * B * y3) * (1 + d * x1 * U * y1 * V)) * t:=by
  have g:=asx h1 h2 h3;rw [← he,← hf,← hA,← hB,← hU,← hV] at g;clear h1 h2 h3 he hf hA hB hU hV;have l : ((1 + e) * (1 - e)) * ((1 + f) * (1 - f)) * ((1 + d * A * x3 * B * y3) * (1 + d * x1 * U * y1 * V)) * s = ((1 + e) * (1 - e)) * ((1 + f) * (1 - f)) * ((s * (1 + d * A * x3 * B * y3)) * (1 + d * x1 * U * y1 * V)):=by grobner
  have r : ((1 + e) * (1 - e)) * ((1 + f) * (1 - f)) * ((1 + d * A * x3 * B * y3) * (1 + d * x1 * U * y1 * V)) * t = ((1 + e) * (1 - e)) * ((1 + f) * (1 - f)) * ((1 + d * A * x3 * B * y3) * (t * (1 + d * x1 * U * y1 * V))):=by grobner
  rw [l,r,hs,ht];clear l r hs ht
  grobner
theorem asy2 {a d x1 y1 x2 y2 x3 y3 A B U V s t e f : Fin n} (h1 : a * x1 * x1 + y1 * y1 = 1 + d * x1 * x1 * y1 * y1) (h2 : a * x2 * x2 + y2 * y2 = 1 + d * x2 * x2 * y2 * y2) (h3 : a * x3 * x3 + y3 * y3 = 1 + d * x3 * x3 * y3 * y3)
    (he : e = d * x1 * x2 * y1 * y2) (hf : f = d * x2 * x3 * y2 * y3)
    (hA : A * (1 + e) = x1 * y2 + y1 * x2) (hB : B * (1 - e) = y1 * y2 - a * x1 * x2)
    (hU : U * (1 + f) = x2 * y3 + y2 * x3) (hV : V * (1 - f) = y2 * y3 - a * x2 * x3)
    (hs : s * (1 - d * A * x3 * B * y3) = B * y3 - a * A * x3) (ht : t * (1 - d * x1 * U * y1 * V) = y1 * V - a * x1 * U) :
    ((1 + e) * (1 - e)) * ((1 + f) * (1 - f)) * ((1 - d * A * x3 * B * y3) * (1 - d * x1 * U * y1 * V)) * s = ((1 + e) * (1 - e)) * ((1 + f) * (1 - f)) * ((1 - d * A * x3 * B * y3) * (1 - d * x1 * U * y1 * V)) * t:=by
  have g:=asy h1 h2 h3;rw [← he,← hf,← hA,← hB,← hU,← hV] at g;clear h1 h2 h3 he hf hA hB hU hV;have l : ((1 + e) * (1 - e)) * ((1 + f) * (1 - f)) * ((1 - d * A * x3 * B * y3) * (1 - d * x1 * U * y1 * V)) * s = ((1 + e) * (1 - e)) * ((1 + f) * (1 - f)) * ((s * (1 - d * A * x3 * B * y3)) * (1 - d * x1 * U * y1 * V)):=by grobner
  have r : ((1 + e) * (1 - e)) * ((1 + f) * (1 - f)) * ((1 - d * A * x3 * B * y3) * (1 - d * x1 * U * y1 * V)) * t = ((1 + e) * (1 - e)) * ((1 + f) * (1 - f)) * ((1 - d * A * x3 * B * y3) * (t * (1 - d * x1 * U * y1 * V))):=by grobner
  rw [l,r,hs,ht];clear l r hs ht
  grobner
theorem Poi.assoc (P Q R : Poi C) : (P.add Q).add R = P.add (Q.add R):=by
  have k:=C.toFld.ne (C.toFld.ne (den1 P Q) (den2 P Q)) (C.toFld.ne (den1 Q R) (den2 Q R));refine Poi.ext ?_ ?_
  · refine C.toFld.can (C.toFld.ne k (C.toFld.ne (den1 (P.add Q) R) (den1 P (Q.add R)))) ?_;exact asx2 P.h Q.h R.h rfl rfl (ax_e P Q) (ay_e P Q) (ax_e Q R) (ay_e Q R) (ax_e (P.add Q) R) (ax_e P (Q.add R))
  · refine C.toFld.can (C.toFld.ne k (C.toFld.ne (den2 (P.add Q) R) (den2 P (Q.add R)))) ?_;exact asy2 P.h Q.h R.h rfl rfl (ax_e P Q) (ay_e P Q) (ax_e Q R) (ay_e Q R) (ay_e (P.add Q) R) (ay_e P (Q.add R))
def Poi.mul : Nat → Poi C → Poi C
  | 0,_=>Poi.o C
  | k + 1,P=>(Poi.mul k P).add P
theorem Poi.o_add (P : Poi C) : (Poi.o C).add P = P:=by rw [Poi.comm,Poi.add_o]
theorem Poi.mul_add (j : Nat) (P : Poi C) : ∀ k,Poi.mul (j + k) P = (Poi.mul j P).add (Poi.mul k P)
  | 0=>(Poi.add_o _).symm
  | k + 1=>by
    show (Poi.mul (j + k) P).add P = (Poi.mul j P).add ((Poi.mul k P).add P);rw [Poi.mul_add j P k,Poi.assoc]
theorem Poi.mul_mul (j : Nat) (P : Poi C) : ∀ k,Poi.mul (k * j) P = Poi.mul k (Poi.mul j P)
  | 0=>by rw [Nat.zero_mul];rfl
  | k + 1=>by
    rw [Nat.succ_mul,Poi.mul_add,Poi.mul_mul j P k];rfl
theorem Poi.mul_one (P : Poi C) : Poi.mul 1 P = P:=Poi.o_add P
theorem Poi.mul_o : ∀ k,Poi.mul k (Poi.o C) = Poi.o C
  | 0=>rfl
  | k + 1=>by
    show (Poi.mul k (Poi.o C)).add (Poi.o C) = _;rw [Poi.add_o,Poi.mul_o k]
theorem Poi.mul_comm (j k : Nat) (P : Poi C) : Poi.mul j (Poi.mul k P) = Poi.mul k (Poi.mul j P):=by
  rw [← Poi.mul_mul,← Poi.mul_mul,Nat.mul_comm]
theorem Poi.sub (P Q : Poi C) : (P.add Q).add P.neg = Q:=by
  rw [Poi.comm P Q,Poi.assoc,Poi.add_neg,Poi.add_o]
theorem Poi.cop {j k : Nat} {P : Poi C} (hj : Poi.mul j P = Poi.o C) (hk : Poi.mul k P = Poi.o C) : Poi.mul (Nat.gcd j k) P = Poi.o C:=by
  induction j,k using Nat.gcd.induction with
  | H0 k=>rwa [Nat.gcd_zero_left]
  | H1 j k _ ih =>
    rw [Nat.gcd_rec];refine ih ?_ hj;have h:=hk;rw [← Nat.div_add_mod k j,Poi.mul_add,Nat.mul_comm,Poi.mul_mul,hj,Poi.mul_o,Poi.o_add] at h;exact h
end Go.Proofs.YtckkhagclfmmdaaDoor.Gr

namespace Go.Proofs.YtckkhagclfmmdaaDoor.Gr
set_option maxRecDepth 100000
set_option linter.unusedSimpArgs false
set_option linter.unusedVariables false
variable {n : Nat} [NeZero n] {C : Crv n}
structure Mon (C : Crv n) where
  s : Fin n
  t : Fin n
  c : Fin n
  ht : t ≠ 0
  hs : (s = 1 ∧ C.a = t * (c + 1) ∧ C.d = t * c) ∨ (s = -1 ∧ C.a = t * c ∧ C.d = t * (c + 1))
theorem Mon.ss (m : Mon C) : m.s * m.s = 1:=by
  rcases m.hs with h | h <;> grobner
theorem Mon.s0 (m : Mon C) : m.s ≠ 0:=fun h=>by
  have:=m.ss;have:=C.one
  grobner
theorem Mon.ad (m : Mon C) : C.a - C.d = m.s * m.t:=by
  rcases m.hs with h | h <;> grobner
def dX (p q : Fin n) : Fin n:=((p + q) * (p + q)) * ((p - q) * (p - q))
def dZ (c p q : Fin n) : Fin n:=((p + q) * (p + q) - (p - q) * (p - q)) * ((p + q) * (p + q) + c * ((p + q) * (p + q) - (p - q) * (p - q)))
def sX (p q u v : Fin n) : Fin n:=((u - v) * (p + q) + (u + v) * (p - q)) * ((u - v) * (p + q) + (u + v) * (p - q))
def sZ (b p q u v : Fin n) : Fin n:=b * (((u - v) * (p + q) - (u + v) * (p - q)) * ((u - v) * (p + q) - (u + v) * (p - q)))
def Rep (m : Mon C) (P : Poi C) (p q : Fin n) : Prop:=∃ l,l ≠ 0 ∧ p = m.s * l * (1 + P.y) ∧ q = l * (1 - P.y)
theorem ady (C : Crv n) (y : Fin n) : C.a - C.d * (y * y) ≠ 0:=fun h=>by
  have ha:=C.ha;have:=C.hd C.r y (by grobner);subst this;have:=C.toFld.ne C.hr C.hr
  grobner
theorem ade (m : Mon C) : C.a - C.d ≠ 0:=by rw [m.ad];exact C.toFld.ne m.s0 m.ht
theorem two_m (C : Crv n) {k : Fin n} (h : k ≠ 0) : 2 * k ≠ 0:=C.toFld.ne C.two h
theorem qgg (m : Mon C) (P : Poi C) {p q : Fin n} (h : Rep m P p q) : Rep m (P.add P) (dX p q) (dZ m.c p q):=by
  obtain ⟨l,hl,hp,hq⟩:=h;have d2:=den2 P P;have e2:=ay_e P P;have hc:=P.h
  have k1 : (C.a - C.d * (P.y * P.y)) * (1 - C.d * P.x * P.x * P.y * P.y + P.y * P.y - C.a * P.x * P.x) = 2 * (m.s * m.t) * (P.y * P.y):=by
    rw [← m.ad];grobner
  have k2 : 1 - C.d * P.x * P.x * P.y * P.y - P.y * P.y + C.a * P.x * P.x = 2 * (1 - P.y * P.y):=by grobner
  have hI:=C.invm m.t m.ht;have hI0 : C.inv m.t ≠ 0:=fun h0=>C.one (by grobner);have hss:=m.ss;have hA:=ady C P.y;refine ⟨2 * (2 * (2 * (l * l * (l * l)))) * ((C.a - C.d * (P.y * P.y)) * (1 - C.d * P.x * P.x * P.y * P.y) * C.inv m.t),?_,?_,?_⟩
  · exact C.toFld.ne (two_m C (two_m C (two_m C (C.toFld.ne (C.toFld.ne hl hl) (C.toFld.ne hl hl))))) (C.toFld.ne (C.toFld.ne hA d2) hI0)
  · show _ = _ * (1 + ay P P);generalize ay P P = w at *;have e3 : (1 - C.d * P.x * P.x * P.y * P.y) * (1 + w) = 1 - C.d * P.x * P.x * P.y * P.y + P.y * P.y - C.a * P.x * P.x:=by grobner
    have e4 : m.s * (2 * (2 * (2 * (l * l * (l * l)))) * ((C.a - C.d * (P.y * P.y)) * (1 - C.d * P.x * P.x * P.y * P.y) * C.inv m.t)) * (1 + w) = m.s * (2 * (2 * (2 * (l * l * (l * l))))) * C.inv m.t * ((C.a - C.d * (P.y * P.y)) * ((1 - C.d * P.x * P.x * P.y * P.y) * (1 + w))):=by grobner
    rw [e4,e3,k1,hp,hq];clear e4 e3 k1 k2 hp hq e2 d2 hc hA;unfold dX
    rcases m.hs with h | h
    · rw [h.1] at *;grobner
    · rw [h.1] at *;grobner
  · show _ = _ * (1 - ay P P);generalize ay P P = w at *;have e3 : (1 - C.d * P.x * P.x * P.y * P.y) * (1 - w) = 2 * (1 - P.y * P.y):=by grobner
    have e4 : (2 * (2 * (2 * (l * l * (l * l)))) * ((C.a - C.d * (P.y * P.y)) * (1 - C.d * P.x * P.x * P.y * P.y) * C.inv m.t)) * (1 - w) = (2 * (2 * (2 * (l * l * (l * l))))) * C.inv m.t * ((C.a - C.d * (P.y * P.y)) * ((1 - C.d * P.x * P.x * P.y * P.y) * (1 - w))):=by grobner
    rw [e4,e3,hp,hq];clear e4 e3 k1 k2 hp hq e2 d2 hc hA;unfold dZ
    rcases m.hs with h | h
    · rw [h.2.1,h.2.2,h.1];have e5 : m.t * (m.c + 1) - m.t * m.c * (P.y * P.y) = m.t * (m.c + 1 - m.c * (P.y * P.y)):=by grobner
      rw [e5];generalize P.y = y at *;generalize C.inv m.t = I at *;have e6 : 2 * (2 * (2 * (l * l * (l * l)))) * I * (m.t * (m.c + 1 - m.c * (y * y)) * (2 * (1 - y * y))) = 2 * (2 * (2 * (l * l * (l * l)))) * (m.t * I) * ((m.c + 1 - m.c * (y * y)) * (2 * (1 - y * y))):=by grobner
      rw [e6,hI];clear e6 e5 hI h hss
      grobner
    · rw [h.2.1,h.2.2,h.1];have e5 : m.t * m.c - m.t * (m.c + 1) * (P.y * P.y) = m.t * (m.c - (m.c + 1) * (P.y * P.y)):=by grobner
      rw [e5];generalize P.y = y at *;generalize C.inv m.t = I at *;have e6 : 2 * (2 * (2 * (l * l * (l * l)))) * I * (m.t * (m.c - (m.c + 1) * (y * y)) * (2 * (1 - y * y))) = 2 * (2 * (2 * (l * l * (l * l)))) * (m.t * I) * ((m.c - (m.c + 1) * (y * y)) * (2 * (1 - y * y))):=by grobner
      rw [e6,hI];clear e6 e5 hI h hss
      grobner
theorem cncl {X I Y A : Fin n} (h : A * I = 1) : X * I * (Y * A) = X * Y:=by grobner
theorem cncl1 {X I Y A : Fin n} (h : A * I = 1) : 1 * X * I * (Y * A) = X * Y:=by grobner
theorem qm9 {a d x y u v s t : Fin n} (h : a * x * x + y * y = 1 + d * x * x * y * y) (k : a * u * u + v * v = 1 + d * u * u * v * v)
    (hs : s * (1 - d * x * u * y * v) = y * v - a * x * u) (ht : t * (1 + d * x * u * y * v) = y * v + a * x * u) :
    ((1 - d * x * u * y * v) * (1 + d * x * u * y * v)) * ((1 + s) * (1 + t)) * ((a - d * (y * y)) * (a - d * (v * v))) = (y + v) * (y + v) * ((a - d) * (a - d * ((y * v) * (y * v)))) ∧
    ((1 - d * x * u * y * v) * (1 + d * x * u * y * v)) * ((1 - s) * (1 - t)) * ((a - d * (y * y)) * (a - d * (v * v))) = (v - y) * (v - y) * ((a - d) * (a - d * ((y * v) * (y * v)))):=by
  have e1 : x * x * (a - d * (y * y)) = 1 - y * y:=by clear k hs ht;grobner
  have e2 : u * u * (a - d * (v * v)) = 1 - v * v:=by clear h hs ht e1;grobner
  clear h k;have f1 : (1 - d * x * u * y * v) * (1 + s) = 1 + y * v - (x * u * (d * (y * v) + a)):=by clear ht e1 e2;grobner
  have f2 : (1 + d * x * u * y * v) * (1 + t) = 1 + y * v + (x * u * (d * (y * v) + a)):=by clear hs e1 e2 f1;grobner
  have f3 : (1 - d * x * u * y * v) * (1 - s) = 1 - y * v - (x * u * (d * (y * v) - a)):=by clear ht e1 e2 f1 f2;grobner
  have f4 : (1 + d * x * u * y * v) * (1 - t) = 1 - y * v + (x * u * (d * (y * v) - a)):=by clear hs e1 e2 f1 f2 f3;grobner
  clear hs ht
  constructor
  · have g : ((1 - d * x * u * y * v) * (1 + d * x * u * y * v)) * ((1 + s) * (1 + t)) * ((a - d * (y * y)) * (a - d * (v * v))) = ((1 - d * x * u * y * v) * (1 + s)) * ((1 + d * x * u * y * v) * (1 + t)) * ((a - d * (y * y)) * (a - d * (v * v))):=by clear e1 e2 f1 f2 f3 f4;grobner
    have g2 : (1 + y * v - (x * u * (d * (y * v) + a))) * (1 + y * v + (x * u * (d * (y * v) + a))) * ((a - d * (y * y)) * (a - d * (v * v))) = (1 + y * v) * (1 + y * v) * ((a - d * (y * y)) * (a - d * (v * v))) - (x * x * (a - d * (y * y))) * (u * u * (a - d * (v * v))) * ((d * (y * v) + a) * (d * (y * v) + a)):=by clear e1 e2 f1 f2 f3 f4 g;grobner
    rw [g,f1,f2,g2,e1,e2];clear g g2 f1 f2 f3 f4 e1 e2
    grobner
  · have g : ((1 - d * x * u * y * v) * (1 + d * x * u * y * v)) * ((1 - s) * (1 - t)) * ((a - d * (y * y)) * (a - d * (v * v))) = ((1 - d * x * u * y * v) * (1 - s)) * ((1 + d * x * u * y * v) * (1 - t)) * ((a - d * (y * y)) * (a - d * (v * v))):=by clear e1 e2 f1 f2 f3 f4;grobner
    have g2 : (1 - y * v - (x * u * (d * (y * v) - a))) * (1 - y * v + (x * u * (d * (y * v) - a))) * ((a - d * (y * y)) * (a - d * (v * v))) = (1 - y * v) * (1 - y * v) * ((a - d * (y * y)) * (a - d * (v * v))) - (x * x * (a - d * (y * y))) * (u * u * (a - d * (v * v))) * ((d * (y * v) - a) * (d * (y * v) - a)):=by clear e1 e2 f1 f2 f3 f4 g;grobner
    rw [g,f3,f4,g2,e1,e2];clear g g2 f1 f2 f3 f4 e1 e2
    grobner
theorem qku (m : Mon C) (P Q B : Poi C) (hQ : Q = P.add B) {b p q u v : Fin n} (hb : b * (1 - B.y) = m.s * (1 + B.y)) (hb0 : 1 + B.y ≠ 0)
    (hP : Rep m P p q) (hR : Rep m Q u v) : Rep m (P.add Q) (sX p q u v) (sZ b p q u v):=by
  obtain ⟨l,hl,hp,hq⟩:=hP;obtain ⟨k,hk,hu,hv⟩:=hR
  have hB : B.y * (1 + C.d * P.x * Q.x * P.y * Q.y) = P.y * Q.y + C.a * P.x * Q.x:=by
    have h1 : Q.add P.neg = B:=by rw [hQ,Poi.sub]
    have h2:=ay_e Q P.neg;have h3 : ay Q P.neg = B.y:=congrArg Poi.y h1;rw [h3] at h2;have n1 : P.neg.x = -P.x:=rfl;have n2 : P.neg.y = P.y:=rfl;rw [n1,n2] at h2
    grobner
  have hS:=ay_e P Q;have d1:=den1 P Q;have d2:=den2 P Q;obtain ⟨k1,k2⟩:=qm9 P.h Q.h hS hB;have hA : (C.a - C.d) * (C.a - C.d * ((P.y * Q.y) * (P.y * Q.y))) ≠ 0:=C.toFld.ne (ade m) (ady C _);have hI:=C.invm _ hA;have hI0 : C.inv ((C.a - C.d) * (C.a - C.d * ((P.y * Q.y) * (P.y * Q.y)))) ≠ 0:=fun h0=>C.one (by grobner)
  have hD : ((1 - C.d * P.x * Q.x * P.y * Q.y) * (1 + C.d * P.x * Q.x * P.y * Q.y)) * ((C.a - C.d * (P.y * P.y)) * (C.a - C.d * (Q.y * Q.y))) ≠ 0 :=
    C.toFld.ne (C.toFld.ne d2 d1) (C.toFld.ne (ady C _) (ady C _))
  generalize (C.a - C.d) * (C.a - C.d * ((P.y * Q.y) * (P.y * Q.y))) = A at *;generalize C.inv A = I at *;generalize (1 - C.d * P.x * Q.x * P.y * Q.y) * (1 + C.d * P.x * Q.x * P.y * Q.y) = D1 at *;generalize (C.a - C.d * (P.y * P.y)) * (C.a - C.d * (Q.y * Q.y)) = D2 at *;show Rep m (P.add Q) _ _;have hss:=m.ss;refine ⟨m.s * (2 * (2 * (2 * (2 * ((l * l) * (k * k)))))) * (D1 * D2 * I) * (1 + B.y),?_,?_,?_⟩
  · exact C.toFld.ne (C.toFld.ne (C.toFld.ne m.s0 (two_m C (two_m C (two_m C (two_m C (C.toFld.ne (C.toFld.ne hl hl) (C.toFld.ne hk hk))))))) (C.toFld.ne hD hI0)) hb0
  · show sX p q u v = _ * (1 + ay P Q);have g : m.s * (m.s * (2 * (2 * (2 * (2 * ((l * l) * (k * k)))))) * (D1 * D2 * I) * (1 + B.y)) * (1 + ay P Q) = (m.s * m.s) * (2 * (2 * (2 * (2 * ((l * l) * (k * k)))))) * I * (D1 * ((1 + ay P Q) * (1 + B.y)) * D2):=by grobner
    rw [g,k1,hss,hp,hq,hu,hv];rw [cncl1 hI];unfold sX;generalize P.y = y at *;generalize Q.y = w at *;clear g k1 k2 hI hp hq hu hv hS hB
    rcases m.hs with h | h
    · rw [h.1];grobner
    · rw [h.1];grobner
  · show sZ b p q u v = _ * (1 - ay P Q);have g : (m.s * (2 * (2 * (2 * (2 * ((l * l) * (k * k)))))) * (D1 * D2 * I) * (1 + B.y)) * (1 - ay P Q) = (m.s * (1 + B.y)) * ((2 * (2 * (2 * (2 * ((l * l) * (k * k)))))) * I * (D1 * (1 - ay P Q) * D2)):=by grobner
    have g1 : b * (1 - B.y) * ((2 * (2 * (2 * (2 * ((l * l) * (k * k)))))) * I * (D1 * (1 - ay P Q) * D2)) = b * ((2 * (2 * (2 * (2 * ((l * l) * (k * k)))))) * I * (D1 * ((1 - ay P Q) * (1 - B.y)) * D2)):=by grobner
    rw [g,← hb,g1,k2,cncl hI,hp,hq,hu,hv];unfold sZ;generalize P.y = y at *;generalize Q.y = w at *;clear g g1 k1 k2 hI hp hq hu hv hS hB hb
    rcases m.hs with h | h
    · rw [h.1];grobner
    · rw [h.1];grobner
def toU (m : Mon C) (P : Poi C) : Fin n:=m.s * (1 + P.y) * C.inv (1 - P.y)
theorem qji (m : Mon C) {P : Poi C} {p q : Fin n} (h : Rep m P p q) : p * C.inv q = toU m P:=by
  obtain ⟨l,hl,hp,hq⟩:=h;unfold toU
  by_cases h1 : 1 - P.y = 0
  · rw [hq,h1];have h0:=C.inv0;have e : l * (0 : Fin n) = 0:=by grobner
    rw [e,h0];grobner
  · have hq0 : q ≠ 0:=by rw [hq];exact C.toFld.ne hl h1
    refine C.toFld.can hq0 ?_;have i1:=C.invm _ h1;have i2:=C.invm _ hq0;generalize C.inv q = Y at *;generalize C.inv (1 - P.y) = Z at *;have e1 : q * (p * Y) = p * (q * Y):=by grobner
    have e2 : q * (m.s * (1 + P.y) * Z) = m.s * (1 + P.y) * l * ((1 - P.y) * Z):=by rw [hq];grobner
    rw [e1,e2,i1,i2,hp];grobner
theorem rep_o (m : Mon C) : Rep m (Poi.o C) 1 0:=by
  have h2:=C.invm _ C.two;have hss:=m.ss;refine ⟨m.s * C.inv 2,C.toFld.ne m.s0 (fun h0=>C.one (by grobner)),?_,?_⟩
  · show (1 : Fin n) = m.s * (m.s * C.inv 2) * (1 + 1)
    grobner
  · show (0 : Fin n) = m.s * C.inv 2 * (1 - 1)
    grobner
theorem rep_b (m : Mon C) {B : Poi C} {b : Fin n} (hb : b * (1 - B.y) = m.s * (1 + B.y)) (h1 : 1 - B.y ≠ 0) : Rep m B b 1:=by
  have i1:=C.invm _ h1;refine ⟨C.inv (1 - B.y),fun h0=>C.one (by grobner),?_,?_⟩
  · have e : m.s * C.inv (1 - B.y) * (1 + B.y) = (m.s * (1 + B.y)) * C.inv (1 - B.y):=by grobner
    rw [e,← hb];grobner
  · grind
end Go.Proofs.YtckkhagclfmmdaaDoor.Gr

namespace Go.Proofs.YtckkhagclfmmdaaDoor.Gr
set_option maxRecDepth 100000
set_option linter.unusedSimpArgs false
set_option linter.unusedVariables false
variable {n : Nat} [NeZero n]
def pw (a : Fin n) : Nat → Fin n
  | 0=>1
  | k + 1=>pw a k * a
theorem q8n (a : Fin n) (j : Nat) : ∀ k,pw a (j + k) = pw a j * pw a k
  | 0=>by show pw a j = pw a j * 1;grobner
  | k + 1=>by
    show pw a (j + k) * a = pw a j * (pw a k * a);rw [q8n a j k];grobner
theorem qja (a : Fin n) (j : Nat) : ∀ k,pw a (j * k) = pw (pw a j) k
  | 0=>rfl
  | k + 1=>by
    rw [Nat.mul_succ,q8n,qja a j k];rfl
theorem qf2 (a b : Fin n) : ∀ k,pw (a * b) k = pw a k * pw b k
  | 0=>by show (1 : Fin n) = 1 * 1;grobner
  | k + 1=>by
    show pw (a * b) k * (a * b) = pw a k * a * (pw b k * b);rw [qf2 a b k];grobner
theorem ql7 : ∀ k,pw (1 : Fin n) k = 1
  | 0=>rfl
  | k + 1=>by
    show pw (1 : Fin n) k * 1 = 1;rw [ql7 k];grobner
theorem qdu (h : 1 < n) (a : Fin n) : ∀ k,(pw a k).val = a.val ^ k % n
  | 0=>by
    show (1 : Fin n).val = 1 % n;rfl
  | k + 1=>by
    show (pw a k * a).val = _;rw [Fin.val_mul,qdu h a k,Nat.pow_succ,Nat.mod_mul_mod]
theorem q7o (hp : Prim n) {a : Fin n} (ha : a ≠ 0) : pw a (n - 1) = 1:=by
  have h2:=hp.two;refine Fin.ext ?_;rw [qdu (by omega),qik hp]
  · rfl
  · intro hd;have:=Nat.eq_zero_of_dvd_of_lt hd a.isLt;exact ha (Fin.ext this)
theorem pw_z {k : Nat} (h : 0 < k) : pw (0 : Fin n) k = 0:=by
  obtain ⟨j,rfl⟩ : ∃ j,k = j + 1:=⟨k - 1,by omega⟩;show pw 0 j * 0 = (0 : Fin n)
  grobner
structure Fac (n : Nat) [NeZero n] where
  p : Prim n
  k : Nat
  hk : n = 8 * k + 5
  c : Fin n
  r1 : Fin n
  r2 : Fin n
  i : Fin n
  hi : i * i = -1
  h1 : r1 * r1 = c + 1
  h2 : r2 * r2 = 2 * c
  n1 : pw c (4 * k + 2) = -1
  n2 : pw (2 * (c + 1)) (4 * k + 2) = -1
  n3 : pw (2 : Fin n) (4 * k + 2) = -1
def Fac.fld (f : Fac n) : Fld n where
  inv a:=pw a (n - 2)
  inv0:=pw_z (by have:=f.hk;omega)
  invm a ha:=by
    have h:=q7o f.p ha;have e : n - 1 = (n - 2) + 1:=by have:=f.hk;omega
    rw [e] at h;have h' : pw a (n - 2) * a = 1:=h
    grobner
  one h:=by
    have h1:=congrArg Fin.val h;have h2 : (1 : Fin n).val = 1 % n:=rfl;have h3 : (0 : Fin n).val = 0:=rfl;have:=f.hk;rw [h2,h3,Nat.mod_eq_of_lt (by omega)] at h1;omega
  two h:=by
    have h1:=congrArg Fin.val h;have h2 : (2 : Fin n).val = 2 % n:=rfl;have h3 : (0 : Fin n).val = 0:=rfl;have:=f.hk;rw [h2,h3,Nat.mod_eq_of_lt (by omega)] at h1;omega
theorem Fac.nsq (f : Fac n) {z : Fin n} (h : pw z (4 * f.k + 2) = -1) : ∀ x y,x * x = z * (y * y) → y = 0:=fun x y e=>by
  refine Classical.byContradiction fun hy=>?_;have hI:=f.fld.invm y hy;have hone:=f.fld.one;have htwo:=f.fld.two
  have e1 : (x * f.fld.inv y) * (x * f.fld.inv y) = z:=by
    have : (x * f.fld.inv y) * (x * f.fld.inv y) = (x * x) * (f.fld.inv y * f.fld.inv y):=by grobner
    rw [this,e];have : z * (y * y) * (f.fld.inv y * f.fld.inv y) = z * ((y * f.fld.inv y) * (y * f.fld.inv y)):=by grobner
    rw [this,hI];grobner
  generalize x * f.fld.inv y = w at e1
  have hw : w ≠ 0:=fun h0=>by
    have hz : z = 0:=by rw [← e1,h0];grobner
    rw [hz,pw_z (by omega)] at h;exact hone (by grobner)
  have h3:=q7o f.p hw;have e2 : n - 1 = 2 * (4 * f.k + 2):=by have:=f.hk;omega
  have e3 : pw w 2 = w * w:=by show (1 * w) * w = _;grobner
  rw [e2,qja,e3,e1,h] at h3;exact htwo (by grobner)
theorem Fac.sqr (f : Fac n) {z : Fin n} (h : pw z (4 * f.k + 2) = 1) : ∃ w,w * w = z:=by
  have hi:=f.hi
  have e : pw z (f.k + 1) * pw z (f.k + 1) * (pw z (f.k + 1) * pw z (f.k + 1)) = z * z:=by
    rw [← q8n,← q8n,show f.k + 1 + (f.k + 1) + (f.k + 1 + (f.k + 1)) = (4 * f.k + 2) + 2 by omega,q8n,h];show 1 * (1 * z * z) = z * z
    grobner
  generalize pw z (f.k + 1) = w at e;have e2 : (w * w - z) * (w * w + z) = 0:=by grobner
  rcases f.fld.mul e2 with k | k
  · exact ⟨w,by grobner⟩
  · exact ⟨f.i * w,by grobner⟩
theorem Fac.dich (f : Fac n) {z : Fin n} (hz : z ≠ 0) : ∃ w,w * w = z ∨ w * w = 2 * z:=by
  have h3:=q7o f.p hz;have e2 : n - 1 = (4 * f.k + 2) + (4 * f.k + 2):=by have:=f.hk;omega
  rw [e2,q8n] at h3;have e : (pw z (4 * f.k + 2) - 1) * (pw z (4 * f.k + 2) + 1) = 0:=by grobner
  rcases f.fld.mul e with k | k
  · obtain ⟨w,hw⟩:=f.sqr (z:=z) (by grobner);exact ⟨w,.inl hw⟩
  · have h2 : pw (2 * z) (4 * f.k + 2) = 1:=by
      rw [qf2,f.n3];grobner
    obtain ⟨w,hw⟩:=f.sqr h2;exact ⟨w,.inr hw⟩
theorem Fac.c0 (f : Fac n) : f.c ≠ 0:=fun h=>by
  have h1:=f.n1;have:=f.fld.one;rw [h,pw_z (by omega)] at h1
  grobner
theorem Fac.c1 (f : Fac n) : f.c + 1 ≠ 0:=fun h=>by
  have h1:=f.n2;have:=f.fld.one;rw [h,show (2 : Fin n) * 0 = 0 by grobner,pw_z (by omega)] at h1
  grobner
def Fac.E1 (f : Fac n) : Crv n where
  toFld:=f.fld
  r:=f.r1
  a:=f.c + 1
  d:=f.c
  hr h:=f.c1 (by rw [← f.h1,h];grind)
  ha:=f.h1.symm
  hd:=f.nsq f.n1
def Fac.E2 (f : Fac n) : Crv n where
  toFld:=f.fld
  r:=f.r2
  a:=2 * f.c
  d:=2 * (f.c + 1)
  hr h:=f.fld.ne f.fld.two f.c0 (by rw [← f.h2,h];grind)
  ha:=f.h2.symm
  hd:=f.nsq f.n2
def Fac.M1 (f : Fac n) : Mon f.E1:=⟨1,1,f.c,f.fld.one,.inl ⟨rfl,by show f.c + 1 = 1 * (f.c + 1);grind,by show f.c = 1 * f.c;grind⟩⟩
def Fac.M2 (f : Fac n) : Mon f.E2:=⟨-1,2,f.c,f.fld.two,.inr ⟨rfl,rfl,rfl⟩⟩
theorem Fac.onto (f : Fac n) (u : Fin n) : (∃ P : Poi f.E1,toU f.M1 P = u) ∨ ∃ P : Poi f.E2,toU f.M2 P = u:=by
  have hone:=f.fld.one;have htwo:=f.fld.two;have h4 : (2 : Fin n) * 2 ≠ 0:=f.fld.ne htwo htwo;have i2:=f.fld.invm 2 htwo
  by_cases hu : u = 0
  · refine .inl ⟨⟨0,-1,by grobner⟩,?_⟩;show (1 : Fin n) * (1 + -1) * _ = u;rw [hu];grobner
  have hq : u * u + (4 * f.c + 2) * u + 1 ≠ 0:=fun h=>by
    have e : (u + (2 * f.c + 1)) * (u + (2 * f.c + 1)) = f.c * ((2 * f.r1) * (2 * f.r1)):=by
      have:=f.h1;grobner
    have:=f.nsq f.n1 _ _ e;have k:=f.E1.hr;exact f.fld.ne htwo k this
  obtain ⟨w,hw⟩:=f.dich (f.fld.ne hu hq)
  have hw0 : w ≠ 0:=fun h0=>by
    rcases hw with k | k
    · exact f.fld.ne hu hq (by rw [← k,h0];grind)
    · exact f.fld.ne htwo (f.fld.ne hu hq) (by rw [← k,h0];grind)
  have iw:=f.fld.invm w hw0
  rcases hw with k | k
  · have hu1 : u + 1 ≠ 0:=fun h=>by
      have e : u = -1:=by grobner
      have e2 : w * w = f.c * (2 * 2):=by rw [k,e];grobner
      exact htwo (f.nsq f.n1 _ _ e2)
    have iu:=f.fld.invm _ hu1;generalize f.fld.inv (u + 1) = I at iu;generalize f.fld.inv w = J at iw;refine .inl ⟨⟨2 * u * J,(u - 1) * I,?_⟩,?_⟩
    · show (f.c + 1) * (2 * u * J) * (2 * u * J) + (u - 1) * I * ((u - 1) * I) = 1 + f.c * (2 * u * J) * (2 * u * J) * ((u - 1) * I) * ((u - 1) * I);have hh : (w * w) * ((u + 1) * (u + 1)) ≠ 0:=f.fld.ne (f.fld.ne hw0 hw0) (f.fld.ne hu1 hu1);refine f.fld.can hh ?_;have a1 : w * w * ((u + 1) * (u + 1)) * ((f.c + 1) * (2 * u * J) * (2 * u * J) + (u - 1) * I * ((u - 1) * I)) = (f.c + 1) * (2 * u * (w * J)) * (2 * u * (w * J)) * ((u + 1) * (u + 1)) + (w * w) * (((u - 1) * ((u + 1) * I)) * ((u - 1) * ((u + 1) * I))):=by grobner
      have a2 : w * w * ((u + 1) * (u + 1)) * (1 + f.c * (2 * u * J) * (2 * u * J) * ((u - 1) * I) * ((u - 1) * I)) = (w * w) * ((u + 1) * (u + 1)) + f.c * (2 * u * (w * J)) * (2 * u * (w * J)) * ((u - 1) * ((u + 1) * I)) * ((u - 1) * ((u + 1) * I)):=by grobner
      rw [a1,a2,iw,iu,k];clear a1 a2 iw iu k hh
      grobner
    · show (1 : Fin n) * (1 + (u - 1) * I) * f.fld.inv (1 - (u - 1) * I) = u;have e1 : (u + 1) * (1 - (u - 1) * I) = 2:=by grobner
      have e2 : (u + 1) * (1 + (u - 1) * I) = 2 * u:=by grobner
      have h0 : 1 - (u - 1) * I ≠ 0:=fun h=>htwo (by rw [← e1,h];grind);have ih:=f.fld.invm _ h0;generalize 1 - (u - 1) * I = D at *;generalize 1 + (u - 1) * I = N at *;generalize f.fld.inv D = K at *;refine f.fld.can (f.fld.ne hu1 h0) ?_;have a1 : (u + 1) * D * (1 * N * K) = ((u + 1) * N) * (D * K):=by grobner
      have a2 : (u + 1) * D * u = 2 * u:=by rw [e1]
      rw [a1,a2,e2,ih];grobner
  · have hu1 : u - 1 ≠ 0:=fun h=>by
      have e : u = 1:=by grobner
      have e2 : w * w = (2 * (f.c + 1)) * (2 * 2):=by rw [k,e];grobner
      exact htwo (f.nsq f.n2 _ _ e2)
    have iu:=f.fld.invm _ hu1;generalize f.fld.inv (u - 1) = I at iu;generalize f.fld.inv w = J at iw;refine .inr ⟨⟨2 * u * J,(u + 1) * I,?_⟩,?_⟩
    · show (2 * f.c) * (2 * u * J) * (2 * u * J) + (u + 1) * I * ((u + 1) * I) = 1 + (2 * (f.c + 1)) * (2 * u * J) * (2 * u * J) * ((u + 1) * I) * ((u + 1) * I);have hh : (w * w) * ((u - 1) * (u - 1)) ≠ 0:=f.fld.ne (f.fld.ne hw0 hw0) (f.fld.ne hu1 hu1);refine f.fld.can hh ?_;have a1 : w * w * ((u - 1) * (u - 1)) * ((2 * f.c) * (2 * u * J) * (2 * u * J) + (u + 1) * I * ((u + 1) * I)) = (2 * f.c) * (2 * u * (w * J)) * (2 * u * (w * J)) * ((u - 1) * (u - 1)) + (w * w) * (((u + 1) * ((u - 1) * I)) * ((u + 1) * ((u - 1) * I))):=by grobner
      have a2 : w * w * ((u - 1) * (u - 1)) * (1 + (2 * (f.c + 1)) * (2 * u * J) * (2 * u * J) * ((u + 1) * I) * ((u + 1) * I)) = (w * w) * ((u - 1) * (u - 1)) + (2 * (f.c + 1)) * (2 * u * (w * J)) * (2 * u * (w * J)) * ((u + 1) * ((u - 1) * I)) * ((u + 1) * ((u - 1) * I)):=by grobner
      rw [a1,a2,iw,iu,k];clear a1 a2 iw iu k hh
      grobner
    · show (-1 : Fin n) * (1 + (u + 1) * I) * f.fld.inv (1 - (u + 1) * I) = u;have e1 : (u - 1) * (1 - (u + 1) * I) = -2:=by grobner
      have e2 : (u - 1) * (1 + (u + 1) * I) = 2 * u:=by grobner
      have h0 : 1 - (u + 1) * I ≠ 0:=fun h=>htwo (by
        have : (-2 : Fin n) = 0:=by rw [← e1,h];grobner
        grind)
      have ih:=f.fld.invm _ h0;generalize 1 - (u + 1) * I = D at *;generalize 1 + (u + 1) * I = N at *;generalize f.fld.inv D = K at *;refine f.fld.can (f.fld.ne hu1 h0) ?_;have a1 : (u - 1) * D * (-1 * N * K) = -(((u - 1) * N) * (D * K)):=by grobner
      have a2 : (u - 1) * D * u = -2 * u:=by rw [e1]
      rw [a1,a2,e2,ih];grobner
structure Lst (n : Nat) where
  p : Fin n
  q : Fin n
  u : Fin n
  v : Fin n
def lad (c b : Fin n) (bits : Nat → Bool) : Nat → Lst n
  | 0=>⟨1,0,b,1⟩
  | j + 1 =>
    let s:=lad c b bits j
    if bits j = true then ⟨sX s.u s.v s.p s.q,sZ b s.u s.v s.p s.q,dX s.u s.v,dZ c s.u s.v⟩ else ⟨dX s.p s.q,dZ c s.p s.q,sX s.p s.q s.u s.v,sZ b s.p s.q s.u s.v⟩
def nob (bits : Nat → Bool) : Nat → Nat
  | 0=>0
  | j + 1=>2 * nob bits j + (bits j).toNat
theorem qkb (p q u v : Fin n) : sX u v p q = sX p q u v:=by unfold sX;grobner
theorem qjf (b p q u v : Fin n) : sZ b u v p q = sZ b p q u v:=by unfold sZ;grobner
theorem qcd {C : Crv n} (m : Mon C) (B : Poi C) {b : Fin n} (hb : b * (1 - B.y) = m.s * (1 + B.y)) (h0 : 1 + B.y ≠ 0) (h1 : 1 - B.y ≠ 0) (bits : Nat → Bool) :
    ∀ j,Rep m (Poi.mul (nob bits j) B) (lad m.c b bits j).p (lad m.c b bits j).q ∧ Rep m (Poi.mul (nob bits j + 1) B) (lad m.c b bits j).u (lad m.c b bits j).v
  | 0=>by
    refine ⟨rep_o m,?_⟩;show Rep m (Poi.mul 1 B) b 1;rw [Poi.mul_one];exact rep_b m hb h1
  | j + 1=>by
    obtain ⟨i1,i2⟩:=qcd m B hb h0 h1 bits j;have hs:=qku m _ _ B (rfl : Poi.mul (nob bits j + 1) B = (Poi.mul (nob bits j) B).add B) hb h0 i1 i2;have d1:=qgg m _ i1;have d2:=qgg m _ i2;rw [← Poi.mul_add] at hs d1 d2
    cases hbj : bits j with
    | true =>
      have e : lad m.c b bits (j + 1) = ⟨sX (lad m.c b bits j).u (lad m.c b bits j).v (lad m.c b bits j).p (lad m.c b bits j).q,sZ b (lad m.c b bits j).u (lad m.c b bits j).v (lad m.c b bits j).p (lad m.c b bits j).q,dX (lad m.c b bits j).u (lad m.c b bits j).v,dZ m.c (lad m.c b bits j).u (lad m.c b bits j).v⟩:=if_pos hbj;have en : nob bits (j + 1) = nob bits j + (nob bits j + 1):=by show 2 * nob bits j + (bits j).toNat = _;rw [hbj];show 2 * nob bits j + 1 = _;omega
      rw [e,en];refine ⟨?_,?_⟩
      · show Rep m _ (sX _ _ _ _) (sZ _ _ _ _ _);rw [qkb,qjf];exact hs
      · rw [show nob bits j + (nob bits j + 1) + 1 = (nob bits j + 1) + (nob bits j + 1) by omega];exact d2
    | false =>
      have e : lad m.c b bits (j + 1) = ⟨dX (lad m.c b bits j).p (lad m.c b bits j).q,dZ m.c (lad m.c b bits j).p (lad m.c b bits j).q,sX (lad m.c b bits j).p (lad m.c b bits j).q (lad m.c b bits j).u (lad m.c b bits j).v,sZ b (lad m.c b bits j).p (lad m.c b bits j).q (lad m.c b bits j).u (lad m.c b bits j).v⟩:=if_neg (by rw [hbj];decide);have en : nob bits (j + 1) = nob bits j + nob bits j:=by show 2 * nob bits j + (bits j).toNat = _;rw [hbj];show 2 * nob bits j + 0 = _;omega
      rw [e,en];exact ⟨d1,by rw [show nob bits j + nob bits j + 1 = nob bits j + (nob bits j + 1) by omega];exact hs⟩
theorem lad_z (F : Fld n) (c : Fin n) (bits : Nat → Bool) : ∀ j,(lad c 0 bits j).p * (lad c 0 bits j).q = 0 ∧ (lad c 0 bits j).u * (lad c 0 bits j).v = 0
  | 0=>by
    refine ⟨?_,?_⟩
    · show (1 : Fin n) * 0 = 0;grobner
    · show (0 : Fin n) * 1 = 0;grobner
  | j + 1=>by
    obtain ⟨i1,i2⟩:=lad_z F c bits j
    have hd : ∀ p q : Fin n,p * q = 0 → dX p q * dZ c p q = 0:=fun p q h=>by
      have e : dZ c p q = (p * q) * (4 * ((p + q) * (p + q) + c * ((p + q) * (p + q) - (p - q) * (p - q)))):=by unfold dZ;grobner
      rw [e,h];grobner
    have hs : ∀ p q u v : Fin n,sX p q u v * sZ 0 p q u v = 0:=fun p q u v=>by unfold sZ;grobner
    cases hbj : bits j with
    | true =>
      have e : lad c 0 bits (j + 1) = ⟨sX (lad c 0 bits j).u (lad c 0 bits j).v (lad c 0 bits j).p (lad c 0 bits j).q,sZ 0 (lad c 0 bits j).u (lad c 0 bits j).v (lad c 0 bits j).p (lad c 0 bits j).q,dX (lad c 0 bits j).u (lad c 0 bits j).v,dZ c (lad c 0 bits j).u (lad c 0 bits j).v⟩:=if_pos hbj;rw [e];exact ⟨hs _ _ _ _,hd _ _ i2⟩
    | false =>
      have e : lad c 0 bits (j + 1) = ⟨dX (lad c 0 bits j).p (lad c 0 bits j).q,dZ c (lad c 0 bits j).p (lad c 0 bits j).q,sX (lad c 0 bits j).p (lad c 0 bits j).q (lad c 0 bits j).u (lad c 0 bits j).v,sZ 0 (lad c 0 bits j).p (lad c 0 bits j).q (lad c 0 bits j).u (lad c 0 bits j).v⟩:=if_neg (by rw [hbj];decide);rw [e];exact ⟨hd _ _ i1,hs _ _ _ _⟩
def told (f : Fac n) (b : Fin n) (bits : Nat → Bool) (j : Nat) : Fin n:=(lad f.c b bits j).p * f.fld.inv (lad f.c b bits j).q
theorem q8w {C : Crv n} (B : Poi C) (hx : B.x = 0) (hy : B.y * B.y = 1) : ∀ k,(Poi.mul k B).x = 0 ∧ (Poi.mul k B).y * (Poi.mul k B).y = 1
  | 0=>⟨rfl,by show (1 : Fin n) * 1 = 1;grind⟩
  | k + 1=>by
    obtain ⟨i1,i2⟩:=q8w B hx hy k;have e1:=ax_e (Poi.mul k B) B;have e2:=ay_e (Poi.mul k B) B;refine ⟨?_,?_⟩
    · show ax (Poi.mul k B) B = 0;rw [i1,hx] at e1
      grobner
    · show ay (Poi.mul k B) B * ay (Poi.mul k B) B = 1;rw [i1,hx] at e2;have e3 : ay (Poi.mul k B) B = (Poi.mul k B).y * B.y:=by grobner
      rw [e3];grobner
theorem q48 {C : Crv n} (m : Mon C) (B : Poi C) (hy : B.y * B.y = 1) : toU m B = 0:=by
  have e : (1 - B.y) * (1 + B.y) = 0:=by grobner
  unfold toU
  rcases C.toFld.mul e with h | h
  · rw [h,C.inv0];grobner
  · rw [h];grobner
theorem qe1 {C : Crv n} (m : Mon C) (B : Poi C) (h : toU m B = 0) : B.y * B.y = 1:=by
  unfold toU at h
  by_cases h1 : 1 - B.y = 0
  · grind
  · have i1:=C.invm _ h1;have h2 : m.s * (1 + B.y) * C.inv (1 - B.y) * (1 - B.y) = 0:=by rw [h];grobner
    have h3 : m.s * (1 + B.y) * C.inv (1 - B.y) * (1 - B.y) = m.s * (1 + B.y) * ((1 - B.y) * C.inv (1 - B.y)):=by grobner
    rw [h3,i1] at h2;have h4 : m.s * (1 + B.y) = 0:=by grobner
    have:=(C.toFld.mul h4).resolve_left m.s0
    grobner
theorem qet {C : Crv n} (m : Mon C) (B : Poi C) (hy : B.y * B.y = 1) : B.x = 0:=by
  have h:=B.h;have e : (C.a - C.d) * (B.x * B.x) = 0:=by grobner
  have:=(C.toFld.mul e).resolve_left (ade m)
  rcases C.toFld.mul this with k | k <;> exact k
theorem q3i (f : Fac n) {C : Crv n} (m : Mon C) (hc : m.c = f.c) (hF : C.toFld = f.fld) (B : Poi C) (bits : Nat → Bool) (j : Nat) : told f (toU m B) bits j = toU m (Poi.mul (nob bits j) B):=by
  by_cases h0 : toU m B = 0
  · have hy:=qe1 m B h0;have hx:=qet m B hy;rw [h0,q48 m _ (q8w B hx hy _).2];unfold told;have:=(lad_z f.fld f.c bits j).1
    rcases f.fld.mul this with h | h
    · rw [h];grobner
    · rw [h,f.fld.inv0];grobner
  · have h1 : 1 - B.y ≠ 0:=fun h=>h0 (q48 m B (by grobner));have h2 : 1 + B.y ≠ 0:=fun h=>h0 (q48 m B (by grobner))
    have hb : toU m B * (1 - B.y) = m.s * (1 + B.y):=by
      have i1:=C.invm _ h1;unfold toU;have : m.s * (1 + B.y) * C.inv (1 - B.y) * (1 - B.y) = m.s * (1 + B.y) * ((1 - B.y) * C.inv (1 - B.y)):=by grobner
      rw [this,i1];grobner
    have hr:=qji m (qcd m B hb h2 h1 bits j).1;rw [← hr];unfold told;rw [← hc,← hF]
theorem qfj (f : Fac n) (b : Fin n) (s t : Nat → Bool) (j k : Nat) : told f (told f b s j) t k = told f (told f b t k) s j:=by
  rcases f.onto b with ⟨P,rfl⟩ | ⟨P,rfl⟩
  · rw [q3i f f.M1 rfl rfl,q3i f f.M1 rfl rfl,q3i f f.M1 rfl rfl,q3i f f.M1 rfl rfl,Poi.mul_comm]
  · rw [q3i f f.M2 rfl rfl,q3i f f.M2 rfl rfl,q3i f f.M2 rfl rfl,q3i f f.M2 rfl rfl,Poi.mul_comm]
end Go.Proofs.YtckkhagclfmmdaaDoor.Gr
