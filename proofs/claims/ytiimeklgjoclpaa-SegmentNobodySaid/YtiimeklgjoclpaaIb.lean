/- Segment: pieces that come in any order (plain); SegmentWhole walked. -/
import Derived.Test.YtiimeklgjoclpaaIa
namespace Go.Proofs.Ytiimeklgjoclpaa
open Go.Sx
set_option maxRecDepth 100000
set_option pp.deepTerms false
set_option pp.maxSteps 300
set_option linter.unusedSimpArgs false
set_option linter.unusedVariables false

abbrev pw (b : List UInt8) (k : Nat) : Pc := pieceAt 2 77 b (piecesN b) k
def cnt (had : List Bool) : Nat := had.count true
def hs (b : List UInt8) (had : List Bool) : List (Option (List UInt8)) := (List.range (piecesN b)).map fun j => if had[j]? = some true then some (pw b j).b else none
def stA (b : List UInt8) (had : List Bool) (s : Int) : Ab := ⟨2, 77, s, (piecesN b : Int) - cnt had, hs b had⟩
theorem cnt_set : ∀ {had : List Bool} {k : Nat}, had[k]? = some false → cnt (had.set k true) = cnt had + 1
  | [], _, h => by simp at h
  | a :: r, 0, h => by
    simp at h; subst h
    simp [cnt]
  | a :: r, k + 1, h => by
    have ih := cnt_set (had := r) (k := k) (by simpa using h)
    unfold cnt at *
    rw [List.set_cons_succ, List.count_cons, List.count_cons, ih]; omega
theorem hs_set {b : List UInt8} {had : List Bool} {k : Nat} (hk : k < had.length) : hs b (had.set k true) = (hs b had).set k (some (pw b k).b) := by
  unfold hs
  apply List.ext_getElem
  · simp
  intro j h1 h2
  rw [List.getElem_map, List.getElem_range, List.getElem_set, List.getElem_map, List.getElem_range]
  by_cases h : k = j
  · subst h
    rw [if_pos rfl, List.getElem?_set_self hk, if_pos rfl]
  · rw [if_neg h, List.getElem?_set_ne h]
theorem hs_none {b : List UInt8} {had : List Bool} (h : cnt had = 0) : hs b had = List.replicate (piecesN b) none := by
  unfold hs
  refine List.eq_replicate_iff.2 ⟨by simp, fun x hx => ?_⟩
  obtain ⟨j, _, rfl⟩ := List.mem_map.1 hx
  rw [if_neg]
  intro e
  have : true ∈ had := List.mem_of_getElem? e
  have := List.count_pos_iff.2 this
  unfold cnt at h; omega
theorem hs_all {b : List UInt8} {had : List Bool} (hl : had.length = piecesN b) (h : cnt had = piecesN b) (hb : b.length ≤ 1920) : ((hs b had).map (·.getD [])).flatten = b := by
  have hall : ∀ j, j < piecesN b → had[j]? = some true := by
    intro j hj
    have h2 : had = List.replicate had.length true := by
      have := List.count_eq_length.1 (show had.count true = had.length by rw [hl]; exact h)
      exact List.eq_replicate_iff.2 ⟨rfl, fun x hx => (this x hx).symm⟩
    rw [h2, List.getElem?_replicate, if_pos (by omega)]
  have e1 : hs b had = (List.range (piecesN b)).map fun j => some (pw b j).b := by
    unfold hs
    refine List.map_congr_left fun j hj => ?_
    rw [if_pos (hall j (List.mem_range.1 hj))]
  rw [e1, List.map_map]
  have := join_cut (u := 2) (n := 77) (b := b) (by unfold cutP; rw [if_pos (by decide), if_neg (by omega)])
  unfold cutP at this
  rw [if_pos (by decide), if_neg (by omega), List.map_map] at this
  exact this
/-- The table, with what has come. -/
def stL (b : List UInt8) (had : List Bool) (s : Int) : List Ab := if cnt had = 0 then [] else [stA b had s]
theorem whole_step {b : List UInt8} {had : List Bool} {s now : Int} {k : Nat} (hb : b.length ≤ 1920) (hl : had.length = piecesN b) (hk : k < piecesN b) (hn : 0 ≤ now ∧ now ≤ 1099511627776) :
    tkA 1 now (pw b k) (stL b had s) = (if had[k]? = some true then (stL b had s, [], false, 10)
      else if cnt had + 1 < piecesN b then (stL b (had.set k true) (if cnt had = 0 then now else s), [], false, 0) else ([], b, true, 0)) := by
  have hmay : (pw b k).may = true := pieceAt_may (by decide) hb hk
  have hfalse : had[k]? ≠ some true → had[k]? = some false := by
    intro h
    rw [List.getElem?_eq_getElem (by omega)] at h ⊢
    cases hx : had[k] <;> simp_all
  have hfin : ∀ (L : List Ab) (i : Nat) (s : Int), had[k]? = some false → finA L i (stA b had s) (pw b k) = if cnt had + 1 < piecesN b then (L.set i (stA b (had.set k true) s), [], false, 0) else (L.eraseIdx i, b, true, 0) := by
    intro L i s h0
    have hc := cnt_set h0
    have hset := hs_set (b := b) (had := had) (k := k) (by omega)
    have hki : (pw b k).i.toNat = k := rfl
    unfold finA
    rw [hki]
    show (if (piecesN b : Int) - cnt had - 1 > 0 then _ else _) = _
    by_cases h1 : cnt had + 1 < piecesN b
    · rw [if_pos h1, if_pos (by omega)]
      have : ({ stA b had s with ps := (stA b had s).ps.set k (some (pw b k).b), left := (stA b had s).left - 1 } : Ab) = stA b (had.set k true) s := by
        unfold stA
        dsimp only
        rw [hset, hc]
        congr 1
        omega
      rw [this]
    · rw [if_neg h1, if_neg (by omega)]
      have hcl : cnt (had.set k true) = piecesN b := by
        have := List.count_le_length (a := true) (l := had.set k true)
        rw [List.length_set, hl] at this
        unfold cnt at *
        omega
      have := hs_all (b := b) (had := had.set k true) (by rw [List.length_set, hl]) hcl hb
      rw [hset] at this
      show (L.eraseIdx i, (((hs b had).set k (some (pw b k).b)).map (·.getD [])).flatten, true, 0) = _
      rw [this]
  unfold tkA
  rw [if_pos ⟨hmay, rfl, hn⟩]
  by_cases h0 : cnt had = 0
  · have hL : stL b had s = [] := if_pos h0
    have hno : had[k]? ≠ some true := by
      intro e
      have := List.count_pos_iff.2 (List.mem_of_getElem? e)
      unfold cnt at h0; omega
    rw [hL, if_neg hno]
    show (if ((0 : Nat) : Int) ≥ 1 then _ else finA [_] 0 (⟨2, 77, now, piecesN b, List.replicate ((piecesN b : Int)).toNat none⟩ : Ab) (pw b k)) = _
    rw [if_neg (by decide)]
    have e : (⟨2, 77, now, piecesN b, List.replicate ((piecesN b : Int)).toNat none⟩ : Ab) = stA b had now := by
      unfold stA
      rw [hs_none h0, h0]
      simp
    rw [e, hfin _ _ _ (hfalse hno)]
    by_cases h1 : cnt had + 1 < piecesN b
    · rw [if_pos h1, if_pos h1, if_pos h0]
      unfold stL
      rw [if_neg (by rw [cnt_set (hfalse hno)]; omega)]
      rfl
    · rw [if_neg h1, if_neg h1]; rfl
  · have hL : stL b had s = [stA b had s] := if_neg h0
    rw [hL]
    have hf : [stA b had s].findIdx? (fun a => decide (a.u = (pw b k).u ∧ a.n = (pw b k).n)) = some 0 := rfl
    rw [hf]
    dsimp only
    rw [show [stA b had s][0]? = some (stA b had s) from rfl]
    dsimp only
    have hpl : ((stA b had s).ps.length : Int) = (pw b k).t := by
      show (((List.range (piecesN b)).map _).length : Int) = (piecesN b : Int)
      rw [List.length_map, List.length_range]
    rw [if_neg (by rw [hpl]; simp)]
    have hgot : (stA b had s).ps[(pw b k).i.toNat]?.getD none = if had[k]? = some true then some (pw b k).b else none := by
      show ((List.range (piecesN b)).map _)[k]?.getD none = _
      rw [List.getElem?_map, List.getElem?_range hk]
      rfl
    rw [hgot]
    by_cases hk1 : had[k]? = some true
    · rw [if_pos hk1, if_pos hk1, if_pos (by rfl)]
    · rw [if_neg hk1, if_neg hk1, if_neg (by decide), hfin _ _ _ (hfalse hk1), if_neg h0]
      by_cases h1 : cnt had + 1 < piecesN b
      · rw [if_pos h1, if_pos h1]
        unfold stL
        rw [if_neg (by rw [cnt_set (hfalse hk1)]; omega)]
        rfl
      · rw [if_neg h1, if_neg h1]; rfl
end Go.Proofs.Ytiimeklgjoclpaa
