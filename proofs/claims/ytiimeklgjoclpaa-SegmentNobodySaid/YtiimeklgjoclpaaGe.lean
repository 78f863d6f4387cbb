/- Pieces and rooms: plain facts. -/
import Derived.Test.YtiimeklgjoclpaaGd
namespace Go.Proofs.Ytiimeklgjoclpaa
open Go.Sx
set_option maxRecDepth 100000
set_option pp.deepTerms false
set_option pp.maxSteps 300
set_option linter.unusedSimpArgs false
set_option linter.unusedVariables false

theorem bg_foldl (l : List UInt8) : ∀ a : Int, l.foldl (fun n c => n * 256 + (c.toNat : Int)) a = a * 256 ^ l.length + big l := by
  induction l with
  | nil => intro a; simp [big]
  | cons c r ih =>
    intro a
    have h0 := ih (0 * 256 + (c.toNat : Int))
    have h1 := ih (a * 256 + (c.toNat : Int))
    have hb : big (c :: r) = (0 * 256 + (c.toNat : Int)) * 256 ^ r.length + big r := h0
    rw [List.foldl_cons, h1, hb, List.length_cons, Int.pow_succ, Int.add_mul, Int.mul_assoc, Int.mul_comm 256]
    simp [Int.add_assoc]
theorem bg_cons (c : UInt8) (r : List UInt8) : big (c :: r) = (c.toNat : Int) * 256 ^ r.length + big r := by
  have this : big (c :: r) = (0 * 256 + (c.toNat : Int)) * 256 ^ r.length + big r := bg_foldl r (0 * 256 + (c.toNat : Int))
  rw [Int.zero_mul, Int.zero_add] at this
  exact this
theorem bg_beb (n k : Nat) : big (beb n k) = ((n % 256 ^ k : Nat) : Int) := by
  induction k with
  | zero => simp [beb, big, Nat.mod_one]
  | succ k ih =>
    rw [beb, bg_cons, ih, beb_len]
    have e1 : ((n : Int).fdiv (2 ^ (8 * k))) = ((n / 256 ^ k : Nat) : Int) := by
      rw [Int.pow_mul, Int.fdiv_eq_ediv_of_nonneg _ (Int.le_of_lt (Int.pow_pos (by decide)))]
      norm_cast
    have e2 : ((by8 ((n / 256 ^ k : Nat) : Int)).toNat : Int) = ((n / 256 ^ k % 256 : Nat) : Int) := by
      have e3 : by8 ((n / 256 ^ k : Nat) : Int) = by8 ((n / 256 ^ k % 256 : Nat) : Int) := by
        unfold by8; congr 2; omega
      rw [e3]; exact by8_toNat _ (by omega)
    rw [e1, e2]
    have e4 := Nat.mod_mul (x := n) (a := 256 ^ k) (b := 256)
    rw [← Nat.pow_succ] at e4
    rw [e4]; push_cast; rw [Int.mul_comm, Int.add_comm]
theorem big_inj : ∀ {l m : List UInt8}, l.length = m.length → big l = big m → l = m
  | [], [], _, _ => rfl
  | c :: r, d :: s, hl, h => by
    have hl : r.length = s.length := by simpa using hl
    rw [bg_cons, bg_cons, hl] at h
    have h1 := big_range r
    have h2 := big_range s
    rw [hl] at h1
    have hp : (0 : Int) < 256 ^ s.length := Int.pow_pos (by decide)
    have hc : (c.toNat : Int) = d.toNat := by
      have e1 : ((c.toNat : Int) * 256 ^ s.length + big r) / 256 ^ s.length = c.toNat := by
        rw [Int.add_comm, Int.add_mul_ediv_right _ _ (Int.ne_of_gt hp), Int.ediv_eq_zero_of_lt h1.1 h1.2, Int.zero_add]
      have e2 : ((d.toNat : Int) * 256 ^ s.length + big s) / 256 ^ s.length = d.toNat := by
        rw [Int.add_comm, Int.add_mul_ediv_right _ _ (Int.ne_of_gt hp), Int.ediv_eq_zero_of_lt h2.1 h2.2, Int.zero_add]
      rw [← e1, ← e2, h]
    rw [hc] at h
    have hr : big r = big s := by omega
    have hcd : c = d := UInt8.toNat.inj (by omega)
    rw [hcd, big_inj hl hr]
  | [], _ :: _, h, _ => by cases h
  | _ :: _, [], h, _ => by cases h
theorem beb_big (l : List UInt8) : beb (big l) l.length = l := by
  refine big_inj (beb_len _ _) ?_
  have h := big_range l
  obtain ⟨n, hn⟩ := Int.eq_ofNat_of_zero_le h.1
  rw [hn, bg_beb]
  congr 1
  refine Nat.mod_eq_of_lt ?_
  have := h.2
  rw [hn] at this
  exact_mod_cast this
theorem zeros_any (l : List UInt8) : l.any (· != 0) = false ↔ l = List.replicate l.length 0 := by
  induction l with
  | nil => simp
  | cons c r ih =>
    simp only [List.any_cons, Bool.or_eq_false_iff, List.length_cons, List.replicate_succ, List.cons.injEq, ih]
    constructor
    · rintro ⟨h, h'⟩; exact ⟨by simpa using h, h'⟩
    · rintro ⟨h, h'⟩; exact ⟨by simpa using h, h'⟩
theorem split10 {b : List UInt8} (h : b.length = 512) : ∃ x0 x1 x2 x3 x4 x5 x6 x7 x8 x9 r, b = x0 :: x1 :: x2 :: x3 :: x4 :: x5 :: x6 :: x7 :: x8 :: x9 :: r ∧ r.length = 502 := by
  match b, h with
  | x0 :: x1 :: x2 :: x3 :: x4 :: x5 :: x6 :: x7 :: x8 :: x9 :: r, h => exact ⟨x0, x1, x2, x3, x4, x5, x6, x7, x8, x9, r, rfl, by simpa using h⟩
theorem big_one (x : UInt8) : big [x] = (x.toNat : Int) := by simp [big]
theorem beb_one (x : UInt8) : beb (x.toNat : Int) 1 = [x] := by
  have := beb_big [x]
  rw [big_one] at this
  exact this

theorem dec_room {b : List UInt8} (h : b.length = 512) (hm : (pcOf b).may = true) : (pcOf b).room = b ↔ nb b 9 1 ≤ 1 ∧ (restOf b).any (· != 0) = false := by
  obtain ⟨x0, x1, x2, x3, x4, x5, x6, x7, x8, x9, r, rfl, hr⟩ := split10 h
  have n0 : nb (x0 :: x1 :: x2 :: x3 :: x4 :: x5 :: x6 :: x7 :: x8 :: x9 :: r) 0 1 = x0.toNat := big_one x0
  have n1 : nb (x0 :: x1 :: x2 :: x3 :: x4 :: x5 :: x6 :: x7 :: x8 :: x9 :: r) 1 1 = x1.toNat := big_one x1
  have n2 : nb (x0 :: x1 :: x2 :: x3 :: x4 :: x5 :: x6 :: x7 :: x8 :: x9 :: r) 2 1 = x2.toNat := big_one x2
  have n3 : nb (x0 :: x1 :: x2 :: x3 :: x4 :: x5 :: x6 :: x7 :: x8 :: x9 :: r) 3 1 = x3.toNat := big_one x3
  have n4 : nb (x0 :: x1 :: x2 :: x3 :: x4 :: x5 :: x6 :: x7 :: x8 :: x9 :: r) 4 4 = big [x4, x5, x6, x7] := rfl
  have n8 : nb (x0 :: x1 :: x2 :: x3 :: x4 :: x5 :: x6 :: x7 :: x8 :: x9 :: r) 8 1 = x8.toNat := big_one x8
  have n9 : nb (x0 :: x1 :: x2 :: x3 :: x4 :: x5 :: x6 :: x7 :: x8 :: x9 :: r) 9 1 = x9.toNat := big_one x9
  have q8 := x8.toNat_lt
  clear hm
  unfold restOf pcOf
  rw [n0, n1, n2, n3, n4, n8, n9, Int.toNat_natCast]
  have ed : ∀ j, List.drop (10 + j) (x0 :: x1 :: x2 :: x3 :: x4 :: x5 :: x6 :: x7 :: x8 :: x9 :: r) = r.drop j := fun j => by
    rw [show 10 + j = j + 10 by omega]; rfl
  rw [show List.drop 10 (x0 :: x1 :: x2 :: x3 :: x4 :: x5 :: x6 :: x7 :: x8 :: x9 :: r) = r from rfl, ed]
  have hbl : (r.take x8.toNat).length = x8.toNat := by rw [List.length_take]; omega
  have ebody : ∀ s : List UInt8, (⟨x0.toNat, x1.toNat, big [x4, x5, x6, x7], x2.toNat, x3.toNat, r.take x8.toNat, s⟩ : Pc).body = x0 :: x1 :: x2 :: x3 :: x4 :: x5 :: x6 :: x7 :: x8 :: (beb (min (s.length : Int) 1) 1 ++ (r.take x8.toNat ++ s)) := by
    intro s
    unfold Pc.body Pc.ks bebs
    simp only [List.flatMap_cons, List.flatMap_nil, beb_one, hbl]
    have := beb_big [x4, x5, x6, x7]
    rw [show [x4, x5, x6, x7].length = 4 from rfl] at this
    rw [this]
    simp
  by_cases h9 : x9 = 1
  · subst h9
    rw [if_pos (by decide), if_pos (by decide)]
    have hsl : ((r.drop x8.toNat).take 241).length = 241 := by rw [List.length_take, List.length_drop]; omega
    have hb := ebody ((r.drop x8.toNat).take 241)
    have el := Pc.body_len (⟨x0.toNat, x1.toNat, big [x4, x5, x6, x7], x2.toNat, x3.toNat, r.take x8.toNat, (r.drop x8.toNat).take 241⟩ : Pc)
    unfold Pc.room
    rw [el, hb]
    dsimp only at *
    rw [hbl, hsl, show beb (min ((241 : Nat) : Int) 1) 1 = [1] by decide, show 10 + x8.toNat + 241 = 10 + (x8.toNat + 241) by omega, ed, zeros_any]
    have e1 : r = r.take x8.toNat ++ ((r.drop x8.toNat).take 241 ++ r.drop (x8.toNat + 241)) := by
      rw [← List.drop_drop, List.take_append_drop, List.take_append_drop]
    constructor
    · intro e
      refine ⟨by decide, ?_⟩
      simp only [List.cons_append, List.cons.injEq, true_and, List.nil_append, List.append_assoc] at e
      conv at e => rhs; rw [e1]
      have e := List.append_cancel_left (List.append_cancel_left e)
      rw [← e, List.length_replicate]
    · rintro ⟨_, e⟩
      simp only [List.cons_append, List.cons.injEq, true_and, List.nil_append, List.append_assoc]
      conv => rhs; rw [e1]
      rw [e, List.length_drop, hr, show 502 - (x8.toNat + 241) = 512 - (10 + (x8.toNat + 241)) by omega]
  · have h9' : ¬ ((x9.toNat : Int) = 1) := fun e => h9 (UInt8.toNat.inj (by show x9.toNat = 1; omega))
    rw [if_neg h9', if_neg h9']
    have hb := ebody []
    have el := Pc.body_len (⟨x0.toNat, x1.toNat, big [x4, x5, x6, x7], x2.toNat, x3.toNat, r.take x8.toNat, []⟩ : Pc)
    unfold Pc.room
    rw [el, hb]
    dsimp only at *
    rw [hbl, show beb (min (([] : List UInt8).length : Int) 1) 1 = [0] by decide, show 10 + x8.toNat + [].length = 10 + x8.toNat from rfl, show 10 + x8.toNat + 0 = 10 + x8.toNat from rfl, ed, zeros_any]
    have e1 : r = r.take x8.toNat ++ r.drop x8.toNat := (List.take_append_drop _ _).symm
    constructor
    · intro e
      simp only [List.cons_append, List.cons.injEq, true_and, List.nil_append, List.append_nil, List.append_assoc] at e
      obtain ⟨e0, e⟩ := e
      refine ⟨by rw [← e0]; decide, ?_⟩
      conv at e => rhs; rw [e1]
      have e := List.append_cancel_left e
      rw [← e, List.length_replicate]
    · rintro ⟨h1, e⟩
      have h0 : x9 = 0 := UInt8.toNat.inj (by
        have : x9.toNat ≤ 1 := by omega
        have : x9.toNat ≠ 1 := fun e => h9' (by omega)
        show x9.toNat = 0; omega)
      simp only [List.cons_append, List.cons.injEq, true_and, List.nil_append, List.append_nil, List.append_assoc]
      refine ⟨h0.symm, ?_⟩
      conv => rhs; rw [e1]
      rw [e, List.length_drop, hr, show 502 - x8.toNat = 512 - (10 + x8.toNat) by omega]
/-- The document's way: the piece's room is what was told. -/
theorem decP_enc {b : List UInt8} : decP b = if b.length = 512 ∧ (pcOf b).enc = (b, 0) then (pcOf b, 0) else (pc0, 5) := by
  unfold decP
  by_cases h : b.length = 512
  · by_cases hm : (pcOf b).may = true
    · have hr := dec_room h hm
      unfold Pc.enc
      rw [if_pos hm]
      by_cases hx : nb b 9 1 ≤ 1 ∧ (restOf b).any (· != 0) = false
      · rw [if_pos ⟨h, hx.1, hx.2, hm⟩, if_pos ⟨h, by rw [hr.2 hx]⟩]
      · rw [if_neg (fun y => hx ⟨y.2.1, y.2.2.1⟩), if_neg (fun y => hx (hr.1 (by injection y.2)))]
    · rw [if_neg (fun y => hm y.2.2.2), if_neg (fun y => by have := y.2; unfold Pc.enc at this; rw [if_neg hm] at this; injection this with _ h2; cases h2)]
  · rw [if_neg (fun y => h y.1), if_neg (fun y => h y.1)]
end Go.Proofs.Ytiimeklgjoclpaa
