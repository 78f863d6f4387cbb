/- Pieces: back from their rooms; the pieces of a message. -/
import Derived.Test.YtiimeklgjoclpaaGp
import Derived.Test.YtiimeklgjoclpaaGj
import Derived.Test.YtiimeklgjoclpaaGf
namespace Go.Proofs.Ytiimeklgjoclpaa
open Go.Sx
set_option maxRecDepth 100000
set_option linter.unusedSimpArgs false
set_option linter.unusedVariables false

theorem nb_at {l1 l2 l3 : List UInt8} {i k : Nat} (hi : l1.length = i) (hk : l2.length = k) : nb (l1 ++ (l2 ++ l3)) i k = big l2 := by
  subst hi hk
  unfold nb
  rw [List.drop_left, List.take_left]
theorem bg_ok {n : Int} {k : Nat} (h : 0 ≤ n) (h2 : n < (256 ^ k : Nat)) : big (beb n k) = n := by
  obtain ⟨m, rfl⟩ : ∃ m : Nat, n = m := ⟨n.toNat, by omega⟩
  rw [bg_beb, Nat.mod_eq_of_lt (by omega)]
theorem pcOf_room {c : Pc} (hw : c.wf) (h : c.may = true) : pcOf c.room = c := by
  obtain ⟨hk, hu, hi, ht, hb, hs⟩ := Pc.may_le h
  have e8 : ∀ z r, c.room = z ++ r → True := fun _ _ _ => trivial
  have er : c.room = beb c.k 1 ++ (beb c.u 1 ++ (beb c.i 1 ++ (beb c.t 1 ++ (beb c.n 4 ++ (beb c.b.length 1 ++ (beb (min (c.s.length : Int) 1) 1 ++ (c.b ++ (c.s ++ List.replicate (512 - c.body.length) 0)))))))) := by
    show (bebs [c.k, c.u, c.i, c.t] ++ beb c.n 4 ++ beb c.b.length 1 ++ beb (min (c.s.length : Int) 1) 1 ++ c.b ++ c.s) ++ _ = _
    simp only [bebs, List.flatMap_cons, List.flatMap_nil, List.append_nil, List.append_assoc]
  have ln : ∀ (n : Int) (k : Nat), (beb n k).length = k := fun n k => beb_len n k
  have h0 : nb c.room 0 1 = c.k := by rw [er]; exact (nb_at (l1 := []) rfl (ln _ _)).trans (bg_ok (by omega) (by omega))
  have h1 : nb c.room 1 1 = c.u := by rw [er]; exact (nb_at (ln _ _) (ln _ _)).trans (bg_ok (by omega) (by omega))
  have h2 : nb c.room 2 1 = c.i := by
    rw [er, ← List.append_assoc]; exact (nb_at (by simp [ln]) (ln _ _)).trans (bg_ok (by omega) (by omega))
  have h3 : nb c.room 3 1 = c.t := by
    rw [er, ← List.append_assoc, ← List.append_assoc]; exact (nb_at (by simp [ln]) (ln _ _)).trans (bg_ok (by omega) (by omega))
  have h4 : nb c.room 4 4 = c.n := by
    have := hw.n
    rw [er, ← List.append_assoc, ← List.append_assoc, ← List.append_assoc]; exact (nb_at (by simp [ln]) (ln _ _)).trans (bg_ok (by omega) (by omega))
  have h8 : nb c.room 8 1 = c.b.length := by
    rw [er, ← List.append_assoc, ← List.append_assoc, ← List.append_assoc, ← List.append_assoc]; exact (nb_at (by simp [ln]) (ln _ _)).trans (bg_ok (by omega) (by omega))
  have h9 : nb c.room 9 1 = min (c.s.length : Int) 1 := by
    rw [er, ← List.append_assoc, ← List.append_assoc, ← List.append_assoc, ← List.append_assoc, ← List.append_assoc]; exact (nb_at (by simp [ln]) (ln _ _)).trans (bg_ok (by omega) (by omega))
  have hd : c.room.drop 10 = c.b ++ (c.s ++ List.replicate (512 - c.body.length) 0) := by
    rw [er, ← List.append_assoc, ← List.append_assoc, ← List.append_assoc, ← List.append_assoc, ← List.append_assoc, ← List.append_assoc]
    exact List.drop_left' (by simp [ln])
  unfold pcOf
  rw [h0, h1, h2, h3, h4, h8, h9, show ((c.b.length : Int)).toNat = c.b.length from rfl, ← List.drop_drop, hd, List.take_left, List.drop_left]
  rcases hs with hs | hs
  · have : c.s = [] := List.eq_nil_of_length_eq_zero hs
    rw [if_neg (by rw [hs]; decide), ← this]
  · rw [if_pos (by rw [hs]; decide), ← hs, List.take_left]
theorem decP_room {c : Pc} (hw : c.wf) (h : c.may = true) : decP c.room = (c, 0) := by
  rw [decP_enc, pcOf_room hw h, if_pos ⟨Pc.room_len h, by unfold Pc.enc; rw [if_pos h]⟩]
theorem decP_back {b : List UInt8} (h : (decP b).2 = 0) : (decP b).1.enc = (b, 0) := by
  rw [decP_enc] at h ⊢
  split at h
  · rename_i hh; rw [if_pos hh]; exact hh.2
  · cases h
theorem pieceAt_wf {u n : Int} {b : List UInt8} {t : Int} {j : Nat} (hu : -9223372036854775808 ≤ u ∧ u ≤ 9223372036854775807) (hn : 0 ≤ n ∧ n ≤ 4294967295) (ht : 0 ≤ t ∧ t ≤ 8) (hj : (j : Int) < t) : (pieceAt u n b t j).wf :=
  ⟨by show _ ≤ (1 : Int) ∧ (1 : Int) ≤ _; omega, hu, hn, by show _ ≤ (j : Int) ∧ (j : Int) ≤ _; omega, by show _ ≤ t ∧ t ≤ _; omega⟩
theorem piecesN_le {b : List UInt8} (h : b.length ≤ 1920) : 1 ≤ piecesN b ∧ piecesN b ≤ 8 := by
  unfold piecesN chunkN
  omega
theorem pieceAt_may {u n : Int} {b : List UInt8} {j : Nat} (hu : 0 ≤ u ∧ u < 8) (h : b.length ≤ 1920) (hj : j < piecesN b) : (pieceAt u n b (piecesN b) j).may = true := by
  have h8 := piecesN_le h
  have hl : (pieceAt u n b (piecesN b) j).b.length = min 240 (b.length - j * 240) := by simp [pieceAt]
  have hc : j * 240 + 240 ≤ b.length ∨ (j + 1 = piecesN b) := by unfold piecesN chunkN at *; omega
  have hlt : b.length - j * 240 ≤ 240 ∨ 240 ≤ b.length - j * 240 := by omega
  unfold Pc.may
  rw [if_pos (show (pieceAt u n b (piecesN b) j).k = 1 from rfl), hl]
  simp only [Pc.user, Pc.placed, pieceAt, List.length_nil]
  simp
  refine ⟨⟨hu.1, decide_eq_true hu.2⟩, ⟨⟨by omega, decide_eq_true (by omega)⟩, hj⟩, ?_⟩
  by_cases hx : min 240 (b.length - j * 240) = 240
  · exact .inl hx
  · exact .inr ⟨by omega, decide_eq_true (by omega)⟩
def z500 : List UInt8 := List.replicate 500 0
def pz (j : Nat) : Pc := pieceAt 3 9 z500 3 j
theorem cut500 : cutP 3 9 z500 = ([pz 0, pz 1, pz 2], 0) := by kernel_rfl
theorem pz_may (j : Nat) (h : j < 3) : (pz j).may = true := pieceAt_may (by decide) (by decide) h
theorem pz_wf (j : Nat) (h : j < 3) : (pz j).wf := pieceAt_wf (by decide) (by decide) (by decide) (by omega)
abbrev za (l : Int) (ps : List (Option (List UInt8))) : Ab := ⟨3, 9, 5, l, ps⟩
theorem za1 : tkA 2 5 (pz 2) [] = ([za 2 [none, none, some (pz 2).b]], [], false, 0) := by kernel_rfl
theorem za2 : tkA 2 5 (pz 0) [za 2 [none, none, some (pz 2).b]] = ([za 1 [some (pz 0).b, none, some (pz 2).b]], [], false, 0) := by kernel_rfl
theorem za3 : tkA 2 6 (pz 1) [za 1 [some (pz 0).b, none, some (pz 2).b]] = ([], z500, true, 0) := by kernel_rfl
theorem pz_enc (j : Nat) (h : j < 3) : (pz j).enc = ((pz j).room, 0) := by unfold Pc.enc; rw [if_pos (pz_may j h)]
theorem pz_dec (j : Nat) (h : j < 3) : decP (pz j).room = (pz j, 0) := decP_room (pz_wf j h) (pz_may j h)
theorem z500_len : z500.length = 500 := List.length_replicate
theorem pz_s (j : Nat) : (pz j).s = [] := rfl
theorem pz_i (j : Nat) : (pz j).i = j := rfl
theorem pz_rl (j : Nat) (h : j < 3) : (pz j).room.length = 512 := Pc.room_len (pz_may j h)
attribute [irreducible] z500 pz
end Go.Proofs.Ytiimeklgjoclpaa
