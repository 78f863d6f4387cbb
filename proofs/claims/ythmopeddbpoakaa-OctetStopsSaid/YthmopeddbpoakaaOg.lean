/- The law OctetBack, walked. -/
import Derived.Test.YthmopeddbpoakaaOf
namespace Go.Proofs.Ythmopeddbpoakaa
open Go.Sx
set_option maxRecDepth 100000
set_option pp.deepTerms false
set_option pp.maxSteps 300
set_option linter.unusedSimpArgs false
set_option linter.unusedVariables false

theorem big_foldl (l : List UInt8) : ∀ a : Int, l.foldl (fun n c => n * 256 + (c.toNat : Int)) a = a * 256 ^ l.length + big l := by
  induction l with
  | nil => intro a; simp [big]
  | cons c r ih =>
    intro a
    have h0 := ih (0 * 256 + (c.toNat : Int))
    have h1 := ih (a * 256 + (c.toNat : Int))
    have hb : big (c :: r) = (0 * 256 + (c.toNat : Int)) * 256 ^ r.length + big r := h0
    rw [List.foldl_cons, h1, hb, List.length_cons, Int.pow_succ, Int.add_mul, Int.mul_assoc, Int.mul_comm 256]
    simp [Int.add_assoc]
theorem big_cons (c : UInt8) (r : List UInt8) : big (c :: r) = (c.toNat : Int) * 256 ^ r.length + big r := by
  have this : big (c :: r) = (0 * 256 + (c.toNat : Int)) * 256 ^ r.length + big r := big_foldl r (0 * 256 + (c.toNat : Int))
  rw [Int.zero_mul, Int.zero_add] at this
  exact this
theorem big_append (l m : List UInt8) : big (l ++ m) = big l * 256 ^ m.length + big m := by
  unfold big; rw [List.foldl_append]; exact big_foldl m _
theorem big_beb (n k : Nat) : big (beb n k) = ((n % 256 ^ k : Nat) : Int) := by
  induction k with
  | zero => simp [beb, big, Nat.mod_one]
  | succ k ih =>
    rw [beb, big_cons, ih, beb_len]
    have e1 : ((n : Int).fdiv (2 ^ (8 * k))) = ((n / 256 ^ k : Nat) : Int) := by
      rw [Int.pow_mul, Int.fdiv_eq_ediv_of_nonneg _ (Int.le_of_lt (Int.pow_pos (by decide)))]
      norm_cast
    have e2 : ((by8 ((n / 256 ^ k : Nat) : Int)).toNat : Int) = ((n / 256 ^ k % 256 : Nat) : Int) := by
      have e3 : by8 ((n / 256 ^ k : Nat) : Int) = by8 ((n / 256 ^ k % 256 : Nat) : Int) := by
        unfold by8; congr 2; omega
      rw [e3]; exact by8_toNat _ (by omega)
    rw [e1, e2]
    have e4 := Nat.mod_mul (x := n) (a := 256 ^ k) (b := 256)
    rw [← Nat.pow_succ] at e4
    rw [e4]; push_cast; rw [Int.mul_comm, Int.add_comm]
theorem big_fits {n : Int} {k : Nat} (hn : 0 ≤ n) (h : fitsN n k = true) : big (beb n k) = n := by
  obtain ⟨m, rfl⟩ := Int.eq_ofNat_of_zero_le hn
  have h : m < 256 ^ k := by
    simp [fitsN] at h
    have := h.2
    exact_mod_cast this
  rw [big_beb, Nat.mod_eq_of_lt h]

/-- What is laid down of a call. -/
def Act.even (x : Act) : Bool := decide (x.k.tmod 2 = 0)
def Act.enc (x : Act) : List UInt8 := x.b ++ if x.even then beb x.n x.z.toNat else []
def Act.good (x : Act) : Prop := x.b.length ≤ 1000 ∧ (x.even = true → fitsN x.n x.z = true)
theorem Act.enc_len {x : Act} (h : x.good) : x.enc.length ≤ 1008 := by
  unfold Act.enc
  rw [List.length_append]
  have := h.1
  split
  · rename_i e
    have := fitsN_le (h.2 e)
    rw [beb_len]; omega
  · simp; omega
theorem lay_ok {s : WS} {b : List UInt8} (h : s.e = 0) (hb : (b.length : Int) ≤ s.room - s.l.length) : s.lay b = ({ s with l := s.l ++ b }, 0) := by
  unfold WS.lay; rw [if_pos h, if_neg (by omega)]

structure BL where
  i : Nat
  t : List UInt8
  g : List Act
  a : Option Addr
  c : Nat
  xs : List Value
def BL.ok (l : List Act) (q : BL) : Prop := q.i ≤ l.length ∧ q.i ≤ 60 ∧ q.g.length ≤ q.i ∧ q.t.length ≤ q.i * 1008 ∧ q.t = q.g.flatMap Act.enc ∧ ∀ x ∈ q.g, x.good ∧ x.ok

theorem back_c (W : World) (a0 : Option Addr) (c0 : Nat) (l : List Act) (hrow : Row (old W) a0 4 (ActE (old W)) l) : LawC Try.prog 5 [.c (.rs a0 l.length c0)] W := by
  refine Con.of' tt_ok Try.func5 rfl (by decide) [.c (.rs a0 l.length c0)] [] [] rfl rfl trivial (by repeat' (first | exact trivial | rfl | apply And.intro)) rfl ?_
  conv => whnf
  refine CallOb.pu (alive7_c _) rfl ?_
  conv => whnf
  refine Cond.mk (fun h => by cases h) (fun _ => ?_)
  conv => whnf
  refine CallOb.by' [] [] (newWriter_c _ 65536 (by decide)) rfl ⟨rfl, rfl, rfl, fun g _ => ⟨rfl, ?_⟩⟩
  conv => whnf
  refine LoopOb.mk' (σ := BL) (fun s => [(0, .c (.rs a0 l.length c0)), (3, .c (.rp g 0)), (4, .c (.rs s.a s.g.length s.c)), (5, .c (.int .i64 s.i))])
    (fun s => ⟨[], [], [Wr g ⟨0, s.t, 65536⟩, Own s.a s.c 31 4 s.xs, old W]⟩) (fun s => s.ok l ∧ OwnRow s.xs 4 (ActE (old W)) s.g) (fun s => l.length - s.i)
    ⟨0, [], [], none, 0, []⟩ ⟨⟨Nat.zero_le _, by decide, Nat.le_refl _, Nat.le_refl _, rfl, by simp⟩, .nil⟩ ?_ ?_
  · refine Wk.own0 31 4 ?_
    exact Wk.mk' [] [1, 0, 0] ⟨⟨rfl, trivial⟩, ⟨rfl, trivial⟩, ⟨rfl, trivial⟩, ⟨rfl, trivial⟩, trivial⟩ (by repeat' (first | exact trivial | rfl | apply And.intro)) ⟨rfl, rfl⟩
  rintro ⟨i, t, gs, a, c, xs⟩ ⟨⟨hi, hi60, hgi, htl, ht, hg⟩, hxs⟩
  dsimp only at hi hi60 hgi htl ht hg hxs ⊢
  have hout : (gs.length + 1 + (gs.length + 1) / 4 + 192) * 48 ≤ 281474976710656 := by omega
  conv => whnf
  refine Cond.dec (fun h => ?_) (fun h => ?_)
  case refine_2 =>
    conv => whnf
    refine CallOb.by' [] [0] (wall_c _ g ⟨0, t, 65536⟩) rfl ⟨rfl, rfl, rfl, fun x1 hx1 => ⟨rfl, ?_⟩⟩
    rw [show (⟨0, t, 65536⟩ : WS).all = (t, 0) from rfl] at hx1 ⊢
    conv => whnf
    refine CallOb.by' [] [] (newReader_c _ (Own x1.1 x1.2 5 1 (u8s t)) (Ent.all (by first | (simp; done) | (simp [M.props]; done) | (simp [M.props]; first | (left; rfl) | (right; left; rfl) | (right; right; left; rfl) | (right; right; right; left; rfl) | (right; right; right; right; left; rfl)))) x1.1 x1.2 t ⟨Own.rd, hx1⟩ (by omega)) rfl ⟨rfl, rfl, rfl, fun g2 _ => ⟨rfl, ?_⟩⟩
    conv => whnf
    refine Cond.neI (fun h => absurd rfl h) (fun _ => ?_)
    conv => whnf
    have hrow2 := hxs.row (R := Own a c 31 4 xs) Own.rd
    refine LoopOb.mk' (σ := Nat) (fun j => [(10, .c (.rp g2 0)), (87, .c (.rs a gs.length c)), (88, .c (.int .i64 gs.length)), (89, .c (.int .i64 j))])
      (fun j => ⟨[], [], [Rr g2 ⟨0, (gs.drop j).flatMap Act.enc⟩, Own a c 31 4 xs, old W]⟩) (fun j => j ≤ gs.length) (fun j => gs.length - j) 0 (Nat.zero_le _)
      (Wk.mk' [] [0, 2, 2] ⟨⟨rfl, trivial⟩, ⟨rfl, trivial⟩, ⟨rfl, trivial⟩, ⟨rfl, trivial⟩, trivial⟩ (by repeat' (first | exact trivial | rfl | apply And.intro)) ⟨rfl, by rw [ht]; rfl⟩) ?_
    intro j hj
    conv => whnf
    refine Cond.dec (fun h => ?_) (fun h => ?_)
    · have hj' : j < gs.length := by omega
      conv => whnf
      refine ⟨by omega, ?_⟩
      refine row_ptr (A := Own a c 31 4 xs) (by simp) (Ent.refl _) hrow2 (by omega) fun p hp => ?_
      subst hp
      conv => whnf
      refine ldact (A := Own (some (radr p)) c 31 4 xs) j (by simp) (Ent.refl _) hrow2 hj' rfl rfl rfl (by simp) fun ta tc hta hx => ?_
      have hgd := (hg _ (List.getElem_mem hj')).1
      have edrop : (gs.drop j).flatMap Act.enc = (gs[j]).enc ++ (gs.drop (j + 1)).flatMap Act.enc := by
        rw [List.drop_eq_getElem_cons hj', List.flatMap_cons]
      rw [edrop]
      generalize gs[j] = x at hta hx hgd ⊢
      generalize hrest : (gs.drop (j + 1)).flatMap Act.enc = rest
      obtain ⟨xk, xn, xz, xb⟩ := x
      obtain ⟨hxk, hxn, hxz⟩ := hx
      dsimp only at hta hxk hxn hxz ⊢
      conv => whnf
      intro b12
      conv => whnf
      have e5 : (⟨0, Act.enc ⟨xk, xn, xz, xb⟩ ++ rest⟩ : RS).bytes (xb.length : Int) = (⟨0, (if Act.even ⟨xk, xn, xz, xb⟩ then beb xn xz.toNat else []) ++ rest⟩, xb, 0) := by
        unfold RS.bytes RS.take
        rw [if_neg (by omega), if_pos rfl, if_neg (by simp [Act.enc] <;> omega)]
        simp [Act.enc, List.append_assoc]
      refine CallOb.by' [] [0] (rbytes_c _ g2 ⟨0, Act.enc ⟨xk, xn, xz, xb⟩ ++ rest⟩ (xb.length : Int)) rfl ⟨rfl, rfl, rfl, fun x3 hx3 => ⟨rfl, ?_⟩⟩
      rw [e5] at hx3 ⊢
      conv => whnf
      refine Cond.neI (fun h => absurd rfl h) (fun _ => ?_)
      conv => whnf
      refine conv_str (x := .c (.rs x3.1 xb.length x3.2)) Try.underlying26 Try.underlying5 Try.underlying9 (Src.rs (A := Own x3.1 x3.2 5 1 (u8s xb)) (by simp) Own.rd) rfl (fun s h => by cases h) ?_
      conv => whnf
      refine conv_str (x := .c (.rs ta xb.length tc)) Try.underlying26 Try.underlying5 Try.underlying9 (Src.rs (A := old W) (by simp) hta.1) rfl (fun s h => by cases h) ?_
      conv => whnf
      refine Cond.mk (fun h => by simp at h) (fun _ => ?_)
      conv => whnf
      refine ⟨by decide, ?_⟩
      refine Cond.neI (fun h2 => ?_) (fun h2 => ?_)
      · dsimp only at h2
        have hev : Act.even ⟨xk, xn, xz, xb⟩ = false := decide_eq_false h2
        rw [hev]
        conv => whnf
        refine Ar.i64 (by omega) ?_
        conv => whnf
        subst hrest
        exact ⟨j + 1, hj', by omega, Wk.mk' [] [0, 1, 1] ⟨⟨rfl, trivial⟩, ⟨rfl, trivial⟩, ⟨rfl, trivial⟩, ⟨rfl, trivial⟩, trivial⟩ (by repeat' (first | exact trivial | rfl | apply And.intro)) ⟨rfl, rfl⟩⟩
      · dsimp only at h2
        have hev : Act.even ⟨xk, xn, xz, xb⟩ = true := decide_eq_true h2
        have hf := hgd.2 hev
        dsimp only at hf
        have hfl := fitsN_le hf
        rw [hev]
        obtain ⟨z, rfl⟩ : ∃ k : Nat, xz = k := ⟨xz.toNat, by omega⟩
        have e6 : (⟨0, beb xn z ++ rest⟩ : RS).num (z : Int) = (⟨0, rest⟩, xn, 0) := by
          unfold RS.num RS.take
          rw [if_neg (by omega), Int.toNat_natCast, if_pos rfl, if_neg (by simp [beb_len])]
          have e7 : (beb xn z ++ rest).take z = beb xn z := by
            have := List.take_left (l₁ := beb xn z) (l₂ := rest); rwa [beb_len] at this
          have e8 : (beb xn z ++ rest).drop z = rest := by
            have := List.drop_left (l₁ := beb xn z) (l₂ := rest); rwa [beb_len] at this
          dsimp only
          rw [e7, e8, big_fits hxn.1 hf]
        conv => whnf
        refine CallOb.by' [] [0] (rnum_c _ g2 ⟨0, beb xn z ++ rest⟩ (z : Int)) rfl ⟨rfl, rfl, rfl, fun _ _ => ⟨rfl, ?_⟩⟩
        rw [e6]
        conv => whnf
        refine Cond.neI (fun h => absurd rfl h) (fun _ => ?_)
        conv => whnf
        refine Cond.neI (fun h => absurd rfl h) (fun _ => ?_)
        conv => whnf
        refine Ar.i64 (by omega) ?_
        conv => whnf
        subst hrest
        exact ⟨j + 1, hj', by omega, Wk.mk' [] [0, 1, 1] ⟨⟨rfl, trivial⟩, ⟨rfl, trivial⟩, ⟨rfl, trivial⟩, ⟨rfl, trivial⟩, trivial⟩ (by repeat' (first | exact trivial | rfl | apply And.intro)) ⟨rfl, rfl⟩⟩
    · have hj' : j = gs.length := by omega
      subst hj'
      rw [List.drop_length]
      conv => whnf
      refine CallOb.by' [] [0] (rleft_c _ g2 ⟨0, []⟩) rfl ⟨rfl, rfl, rfl, fun _ _ => ⟨rfl, ?_⟩⟩
      conv => whnf
      refine Cond.eqI (fun _ => ?_) (fun h => absurd rfl h)
      conv => whnf
      refine CallOb.by' [] [0] (rdone_c _ g2 ⟨0, []⟩) rfl ⟨rfl, rfl, rfl, fun _ _ => ⟨rfl, ?_⟩⟩
      conv => whnf
      exact Ret.mk' () [] [2] trivial rfl (by repeat' (first | exact trivial | rfl | apply And.intro)) (by repeat' (first | exact trivial | rfl | apply And.intro)) ⟨rfl, rfl⟩
  conv => whnf
  refine Cond.dec (fun h60 => ?_) (fun h60 => ?_)
  case refine_2 =>
    conv => whnf
    refine CallOb.by' [] [0] (wall_c _ g ⟨0, t, 65536⟩) rfl ⟨rfl, rfl, rfl, fun x1 hx1 => ⟨rfl, ?_⟩⟩
    rw [show (⟨0, t, 65536⟩ : WS).all = (t, 0) from rfl] at hx1 ⊢
    conv => whnf
    refine CallOb.by' [] [] (newReader_c _ (Own x1.1 x1.2 5 1 (u8s t)) (Ent.all (by first | (simp; done) | (simp [M.props]; done) | (simp [M.props]; first | (left; rfl) | (right; left; rfl) | (right; right; left; rfl) | (right; right; right; left; rfl) | (right; right; right; right; left; rfl)))) x1.1 x1.2 t ⟨Own.rd, hx1⟩ (by omega)) rfl ⟨rfl, rfl, rfl, fun g2 _ => ⟨rfl, ?_⟩⟩
    conv => whnf
    refine Cond.neI (fun h => absurd rfl h) (fun _ => ?_)
    conv => whnf
    have hrow2 := hxs.row (R := Own a c 31 4 xs) Own.rd
    refine LoopOb.mk' (σ := Nat) (fun j => [(10, .c (.rp g2 0)), (87, .c (.rs a gs.length c)), (88, .c (.int .i64 gs.length)), (89, .c (.int .i64 j))])
      (fun j => ⟨[], [], [Rr g2 ⟨0, (gs.drop j).flatMap Act.enc⟩, Own a c 31 4 xs, old W]⟩) (fun j => j ≤ gs.length) (fun j => gs.length - j) 0 (Nat.zero_le _)
      (Wk.mk' [] [0, 2, 2] ⟨⟨rfl, trivial⟩, ⟨rfl, trivial⟩, ⟨rfl, trivial⟩, ⟨rfl, trivial⟩, trivial⟩ (by repeat' (first | exact trivial | rfl | apply And.intro)) ⟨rfl, by rw [ht]; rfl⟩) ?_
    intro j hj
    conv => whnf
    refine Cond.dec (fun h => ?_) (fun h => ?_)
    · have hj' : j < gs.length := by omega
      conv => whnf
      refine ⟨by omega, ?_⟩
      refine row_ptr (A := Own a c 31 4 xs) (by simp) (Ent.refl _) hrow2 (by omega) fun p hp => ?_
      subst hp
      conv => whnf
      refine ldact (A := Own (some (radr p)) c 31 4 xs) j (by simp) (Ent.refl _) hrow2 hj' rfl rfl rfl (by simp) fun ta tc hta hx => ?_
      have hgd := (hg _ (List.getElem_mem hj')).1
      have edrop : (gs.drop j).flatMap Act.enc = (gs[j]).enc ++ (gs.drop (j + 1)).flatMap Act.enc := by
        rw [List.drop_eq_getElem_cons hj', List.flatMap_cons]
      rw [edrop]
      generalize gs[j] = x at hta hx hgd ⊢
      generalize hrest : (gs.drop (j + 1)).flatMap Act.enc = rest
      obtain ⟨xk, xn, xz, xb⟩ := x
      obtain ⟨hxk, hxn, hxz⟩ := hx
      dsimp only at hta hxk hxn hxz ⊢
      conv => whnf
      intro b12
      conv => whnf
      have e5 : (⟨0, Act.enc ⟨xk, xn, xz, xb⟩ ++ rest⟩ : RS).bytes (xb.length : Int) = (⟨0, (if Act.even ⟨xk, xn, xz, xb⟩ then beb xn xz.toNat else []) ++ rest⟩, xb, 0) := by
        unfold RS.bytes RS.take
        rw [if_neg (by omega), if_pos rfl, if_neg (by simp [Act.enc] <;> omega)]
        simp [Act.enc, List.append_assoc]
      refine CallOb.by' [] [0] (rbytes_c _ g2 ⟨0, Act.enc ⟨xk, xn, xz, xb⟩ ++ rest⟩ (xb.length : Int)) rfl ⟨rfl, rfl, rfl, fun x3 hx3 => ⟨rfl, ?_⟩⟩
      rw [e5] at hx3 ⊢
      conv => whnf
      refine Cond.neI (fun h => absurd rfl h) (fun _ => ?_)
      conv => whnf
      refine conv_str (x := .c (.rs x3.1 xb.length x3.2)) Try.underlying26 Try.underlying5 Try.underlying9 (Src.rs (A := Own x3.1 x3.2 5 1 (u8s xb)) (by simp) Own.rd) rfl (fun s h => by cases h) ?_
      conv => whnf
      refine conv_str (x := .c (.rs ta xb.length tc)) Try.underlying26 Try.underlying5 Try.underlying9 (Src.rs (A := old W) (by simp) hta.1) rfl (fun s h => by cases h) ?_
      conv => whnf
      refine Cond.mk (fun h => by simp at h) (fun _ => ?_)
      conv => whnf
      refine ⟨by decide, ?_⟩
      refine Cond.neI (fun h2 => ?_) (fun h2 => ?_)
      · dsimp only at h2
        have hev : Act.even ⟨xk, xn, xz, xb⟩ = false := decide_eq_false h2
        rw [hev]
        conv => whnf
        refine Ar.i64 (by omega) ?_
        conv => whnf
        subst hrest
        exact ⟨j + 1, hj', by omega, Wk.mk' [] [0, 1, 1] ⟨⟨rfl, trivial⟩, ⟨rfl, trivial⟩, ⟨rfl, trivial⟩, ⟨rfl, trivial⟩, trivial⟩ (by repeat' (first | exact trivial | rfl | apply And.intro)) ⟨rfl, rfl⟩⟩
      · dsimp only at h2
        have hev : Act.even ⟨xk, xn, xz, xb⟩ = true := decide_eq_true h2
        have hf := hgd.2 hev
        dsimp only at hf
        have hfl := fitsN_le hf
        rw [hev]
        obtain ⟨z, rfl⟩ : ∃ k : Nat, xz = k := ⟨xz.toNat, by omega⟩
        have e6 : (⟨0, beb xn z ++ rest⟩ : RS).num (z : Int) = (⟨0, rest⟩, xn, 0) := by
          unfold RS.num RS.take
          rw [if_neg (by omega), Int.toNat_natCast, if_pos rfl, if_neg (by simp [beb_len])]
          have e7 : (beb xn z ++ rest).take z = beb xn z := by
            have := List.take_left (l₁ := beb xn z) (l₂ := rest); rwa [beb_len] at this
          have e8 : (beb xn z ++ rest).drop z = rest := by
            have := List.drop_left (l₁ := beb xn z) (l₂ := rest); rwa [beb_len] at this
          dsimp only
          rw [e7, e8, big_fits hxn.1 hf]
        conv => whnf
        refine CallOb.by' [] [0] (rnum_c _ g2 ⟨0, beb xn z ++ rest⟩ (z : Int)) rfl ⟨rfl, rfl, rfl, fun _ _ => ⟨rfl, ?_⟩⟩
        rw [e6]
        conv => whnf
        refine Cond.neI (fun h => absurd rfl h) (fun _ => ?_)
        conv => whnf
        refine Cond.neI (fun h => absurd rfl h) (fun _ => ?_)
        conv => whnf
        refine Ar.i64 (by omega) ?_
        conv => whnf
        subst hrest
        exact ⟨j + 1, hj', by omega, Wk.mk' [] [0, 1, 1] ⟨⟨rfl, trivial⟩, ⟨rfl, trivial⟩, ⟨rfl, trivial⟩, ⟨rfl, trivial⟩, trivial⟩ (by repeat' (first | exact trivial | rfl | apply And.intro)) ⟨rfl, rfl⟩⟩
    · have hj' : j = gs.length := by omega
      subst hj'
      rw [List.drop_length]
      conv => whnf
      refine CallOb.by' [] [0] (rleft_c _ g2 ⟨0, []⟩) rfl ⟨rfl, rfl, rfl, fun _ _ => ⟨rfl, ?_⟩⟩
      conv => whnf
      refine Cond.eqI (fun _ => ?_) (fun h => absurd rfl h)
      conv => whnf
      refine CallOb.by' [] [0] (rdone_c _ g2 ⟨0, []⟩) rfl ⟨rfl, rfl, rfl, fun _ _ => ⟨rfl, ?_⟩⟩
      conv => whnf
      exact Ret.mk' () [] [2] trivial rfl (by repeat' (first | exact trivial | rfl | apply And.intro)) (by repeat' (first | exact trivial | rfl | apply And.intro)) ⟨rfl, rfl⟩
  have hi' : i < l.length := by omega
  conv => whnf
  refine ⟨by omega, ?_⟩
  refine row_ptr (A := old W) (by simp) (Ent.refl _) hrow (by omega) fun p hp => ?_
  subst hp
  conv => whnf
  refine ldact (A := old W) i (by simp) (Ent.refl _) hrow hi' rfl rfl rfl (by simp) fun ta tc hta hx => ?_
  generalize l[i] = x at hta hx ⊢
  obtain ⟨xk, xn, xz, xb⟩ := x
  obtain ⟨hxk, hxn, hxz⟩ := hx
  dsimp only at hta hxk hxn hxz ⊢
  conv => whnf
  intro b6
  conv => whnf
  refine Cond.dec (fun hb => ?_) (fun hb => ?_)
  · conv => whnf
    refine Ar.i64 (by omega) ?_
    conv => whnf
    exact ⟨⟨i + 1, t, gs, a, c, _⟩, ⟨⟨by dsimp only; omega, by dsimp only; omega, by dsimp only; omega, by dsimp only; omega, ht, hg⟩, hxs⟩, by dsimp only; omega, Wk.mk' [] [0, 0, 0] ⟨⟨rfl, trivial⟩, ⟨rfl, trivial⟩, ⟨rfl, trivial⟩, ⟨rfl, trivial⟩, trivial⟩ (by repeat' (first | exact trivial | rfl | apply And.intro)) ⟨rfl, rfl⟩⟩
  dsimp only at hb
  conv => whnf
  refine ⟨by decide, ?_⟩
  have e2 : (⟨0, t, 65536⟩ : WS).lay xb = (⟨0, t ++ xb, 65536⟩, 0) := lay_ok rfl (by dsimp only; omega)
  refine Cond.eqI (fun h2 => ?_) (fun h2 => ?_)
  · dsimp only at h2
    have hev : Act.even ⟨xk, xn, xz, xb⟩ = true := decide_eq_true h2
    conv => whnf
    refine CallOb.pu (rfits_c _ xn xz hxn) rfl ?_
    conv => whnf
    refine Cond.not (Cond.mk (fun hf => ?_) (fun hf => ?_))
    · have hgood : Act.good ⟨xk, xn, xz, xb⟩ := ⟨by dsimp only; omega, fun _ => hf⟩
      have hfl := fitsN_le hf
      conv => whnf
      refine CallOb.by' [] [0] (wbytes_c _ (old W) (Ent.all (by first | (simp; done) | (simp [M.props]; done) | (simp [M.props]; first | (left; rfl) | (right; left; rfl) | (right; right; left; rfl) | (right; right; right; left; rfl) | (right; right; right; right; left; rfl)))) g ⟨0, t, 65536⟩ ta tc xb hta.1 (by omega)) rfl ⟨rfl, rfl, rfl, fun _ _ => ⟨rfl, ?_⟩⟩
      rw [e2]
      conv => whnf
      refine ⟨by decide, ?_⟩
      refine Cond.eqI (fun _ => ?_) (fun h => absurd h2 h)
      conv => whnf
      have e3 : (⟨0, t ++ xb, 65536⟩ : WS).num xn xz = (⟨0, t ++ Act.enc ⟨xk, xn, xz, xb⟩, 65536⟩, 0) := by
        unfold WS.num; rw [hf, if_pos rfl, lay_ok rfl (by rw [beb_len]; dsimp only; rw [List.length_append]; omega)]
        simp [Act.enc, hev]
      refine CallOb.by' [] [0] (wnum_c _ g ⟨0, t ++ xb, 65536⟩ xn xz hxn) rfl ⟨rfl, rfl, rfl, fun _ _ => ⟨rfl, ?_⟩⟩
      rw [e3]
      conv => whnf
      refine Cond.neI (fun h => absurd rfl h) (fun _ => ?_)
      conv => whnf
      intro b72
      conv => whnf
      refine append_own (a := a) (n := gs.length) (cap := c) (xs := xs) (k := 1) (ys := [.int .u8 xk, .int .u64 xn, .int .i64 xz, .slice ta xb.length tc]) (src := .c (.slc 72 0 1 1)) (.swap _ _ _) hxs.len rfl (by exact Src.slc (Exists.intro [] rfl)) (by simp [Value.oneCell']) hout (by omega) (by decide) 22 (.inr rfl) ?_
      intro a2 c2 _ _
      conv => whnf
      refine Ar.i64 (by omega) ?_
      conv => whnf
      exact ⟨⟨i + 1, t ++ Act.enc ⟨xk, xn, xz, xb⟩, gs ++ [⟨xk, xn, xz, xb⟩], a2, c2, _⟩, ⟨⟨by dsimp only; omega, by dsimp only; omega, by simp; omega, by have := Act.enc_len hgood; dsimp only; rw [List.length_append]; omega, by rw [ht]; simp, fun y hy => by rcases List.mem_append.1 hy with hy | hy; exact hg y hy; simp at hy; subst hy; exact ⟨hgood, hxk, hxn, hxz⟩⟩, hxs.snoc (fun x c h => h) rfl ⟨ta, tc, rfl, hta, hxk, hxn, hxz⟩⟩, by dsimp only; omega, Wk.mk' [] [1, 0, 0] ⟨⟨rfl, trivial⟩, ⟨rfl, trivial⟩, ⟨by show Value.slice a2 (gs.length + 1) c2 = Value.slice a2 (gs ++ [_]).length c2; rw [List.length_append]; rfl, trivial⟩, ⟨rfl, trivial⟩, trivial⟩ (by repeat' (first | exact trivial | rfl | apply And.intro)) ⟨rfl, rfl⟩⟩
    · conv => whnf
      refine Ar.i64 (by omega) ?_
      conv => whnf
      exact ⟨⟨i + 1, t, gs, a, c, _⟩, ⟨⟨by dsimp only; omega, by dsimp only; omega, by dsimp only; omega, by dsimp only; omega, ht, hg⟩, hxs⟩, by dsimp only; omega, Wk.mk' [] [0, 0, 0] ⟨⟨rfl, trivial⟩, ⟨rfl, trivial⟩, ⟨rfl, trivial⟩, ⟨rfl, trivial⟩, trivial⟩ (by repeat' (first | exact trivial | rfl | apply And.intro)) ⟨rfl, rfl⟩⟩
  · dsimp only at h2
    have hev : Act.even ⟨xk, xn, xz, xb⟩ = false := decide_eq_false h2
    have hgood : Act.good ⟨xk, xn, xz, xb⟩ := ⟨by dsimp only; omega, fun h => by rw [hev] at h; cases h⟩
    have e4 : t ++ xb = t ++ Act.enc ⟨xk, xn, xz, xb⟩ := by simp [Act.enc, hev]
    conv => whnf
    refine CallOb.by' [] [0] (wbytes_c _ (old W) (Ent.all (by first | (simp; done) | (simp [M.props]; done) | (simp [M.props]; first | (left; rfl) | (right; left; rfl) | (right; right; left; rfl) | (right; right; right; left; rfl) | (right; right; right; right; left; rfl)))) g ⟨0, t, 65536⟩ ta tc xb hta.1 (by omega)) rfl ⟨rfl, rfl, rfl, fun _ _ => ⟨rfl, ?_⟩⟩
    rw [e2, e4]
    conv => whnf
    refine ⟨by decide, ?_⟩
    refine Cond.eqI (fun h => absurd h h2) (fun _ => ?_)
    conv => whnf
    refine Cond.neI (fun h => absurd rfl h) (fun _ => ?_)
    conv => whnf
    intro b72
    conv => whnf
    refine append_own (a := a) (n := gs.length) (cap := c) (xs := xs) (k := 1) (ys := [.int .u8 xk, .int .u64 xn, .int .i64 xz, .slice ta xb.length tc]) (src := .c (.slc 72 0 1 1)) (.swap _ _ _) hxs.len rfl (by exact Src.slc (Exists.intro [] rfl)) (by simp [Value.oneCell']) hout (by omega) (by decide) 22 (.inr rfl) ?_
    intro a2 c2 _ _
    conv => whnf
    refine Ar.i64 (by omega) ?_
    conv => whnf
    exact ⟨⟨i + 1, t ++ Act.enc ⟨xk, xn, xz, xb⟩, gs ++ [⟨xk, xn, xz, xb⟩], a2, c2, _⟩, ⟨⟨by dsimp only; omega, by dsimp only; omega, by simp; omega, by have := Act.enc_len hgood; dsimp only; rw [List.length_append]; omega, by rw [ht]; simp, fun y hy => by rcases List.mem_append.1 hy with hy | hy; exact hg y hy; simp at hy; subst hy; exact ⟨hgood, hxk, hxn, hxz⟩⟩, hxs.snoc (fun x c h => h) rfl ⟨ta, tc, rfl, hta, hxk, hxn, hxz⟩⟩, by dsimp only; omega, Wk.mk' [] [1, 0, 0] ⟨⟨rfl, trivial⟩, ⟨rfl, trivial⟩, ⟨by show Value.slice a2 (gs.length + 1) c2 = Value.slice a2 (gs ++ [_]).length c2; rw [List.length_append]; rfl, trivial⟩, ⟨rfl, trivial⟩, trivial⟩ (by repeat' (first | exact trivial | rfl | apply And.intro)) ⟨rfl, rfl⟩⟩
end Go.Proofs.Ythmopeddbpoakaa
