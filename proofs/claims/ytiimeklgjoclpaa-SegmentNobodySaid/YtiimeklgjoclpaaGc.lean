/- Pieces: the document's room of one. -/
import Derived.Test.YtiimeklgjoclpaaGb
import Derived.Test.YtiimeklgjoclpaaOd
namespace Go.Proofs.Ytiimeklgjoclpaa
open Go.Sx
set_option maxRecDepth 100000
set_option pp.deepTerms false
set_option pp.maxSteps 300
set_option linter.unusedSimpArgs false
set_option linter.unusedVariables false

theorem u8s_bebs {l : List Int} (h : ∀ z ∈ l, 0 ≤ z ∧ z < 256) : u8s (bebs l) = l.map (Value.int .u8) := by
  induction l with
  | nil => rfl
  | cons x r ih =>
    have h1 := h x (by simp)
    have h2 := ih fun z hz => h z (by simp [hz])
    simp only [bebs, List.flatMap_cons, List.map_cons] at h2 ⊢
    rw [u8s_append, u8s_beb1 h1, h2]; rfl
theorem srencode_c (A R R' : HProp) (hE : Ent A R) (hE' : Ent A R') (c : Pc) (x y : AC) (hw : c.wf) (hb : Bts R x.1 x.2 c.b) (hs : Bts R' y.1 y.2 c.s) :
    Con Try.prog 13 [.agg (c.sg x y)] [] [] A (fun t : AC => Fc t.1 t.2 c.enc.1) (fun t => .tup [.c (.rs t.1 c.enc.1.length t.2), .c (.int .i64 c.enc.2)]) (fun _ => []) (fun t => [Own t.1 t.2 5 1 (u8s c.enc.1)]) := by
  refine Con.of' tt_ok Try.func13 rfl (by decide) [.agg (c.sg x y)] [] [] rfl rfl trivial (by repeat' (first | exact trivial | rfl | exact hk _ | apply And.intro)) rfl ?_
  conv => whnf
  intro b1
  conv => whnf
  refine CallOb.pu (srmay_c _ c x y) rfl ?_
  conv => whnf
  refine Cond.not (Cond.mk (fun hm => ?_) (fun hm => ?_))
  case refine_2 =>
    have e : c.enc = ([], 2) := by unfold Pc.enc; rw [hm]; rfl
    rw [e]
    conv => whnf
    refine Ret.own0 5 1 ?_
    exact Ret.mk' (none, 0) [] [0, 0] .nil rfl (by repeat' (first | exact trivial | rfl | apply And.intro)) trivial ⟨rfl, rfl⟩
  have e : c.enc = (c.room, 0) := by unfold Pc.enc; rw [hm]; rfl
  have hle := Pc.may_le hm
  have hn := hw.n
  have hrl := Pc.room_len hm
  rw [e]
  conv => whnf
  refine Ar.u8 (by omega) ?_
  conv => whnf
  refine Ar.u8 (by omega) ?_
  conv => whnf
  refine Ar.u8 (by omega) ?_
  conv => whnf
  refine Ar.u8 (by omega) ?_
  conv => whnf
  intro b2
  conv => whnf
  refine Ar.u64 (by omega) ?_
  conv => whnf
  refine CallOb.by' [] [] (digits_c _ c.n 4 (by decide)) rfl ⟨rfl, rfl, rfl, fun x1 hx1 => ⟨rfl, ?_⟩⟩
  conv => whnf
  have hks : ∀ z ∈ c.ks, 0 ≤ z ∧ z < 256 := by
    intro z hz
    simp only [Pc.ks, List.mem_cons, List.not_mem_nil, or_false] at hz
    rcases hz with rfl | rfl | rfl | rfl <;> omega
  refine With.own (i := 21) (n := 4) (cap := 4) (size := 1) ⟨_, _, rfl, ⟨rfl, Nat.le_refl _⟩, ?_⟩
  refine appb (l := bebs c.ks) (m := beb c.n 4) (by rw [u8s_bebs hks]; exact List.Perm.refl _) (Src.rs (A := Own x1.1 x1.2 5 1 (u8s (beb c.n 4))) (by simp) Own.rd) rfl (by rw [beb_len]) (by decide) (by rw [bebs_len, beb_len]; show 4 + 4 ≤ 10000000000; decide) 23 (.inr rfl) fun a1 c1 hc1 => ?_
  conv => whnf
  have l1 : (bebs c.ks ++ beb c.n 4).length = 8 := by rw [List.length_append, bebs_len, beb_len]; rfl
  have go : ∀ (z : Int), z = min (c.s.length : Int) 1 → 0 ≤ z ∧ z ≤ 1 := by intro z hz; omega
  refine Cond.dec (fun h0 => ?_) (fun h0 => ?_)
  · conv => whnf
    have hz : (1 : Int) = min (c.s.length : Int) 1 := by omega
    have e38 : u8s (beb c.b.length 1 ++ beb 1 1) = [Value.int .u8 c.b.length, .int .u8 1] := by rw [u8s_append, u8s_beb1 (by omega), u8s_beb1 (by omega)]; rfl
    conv => whnf
    refine Ar.u8 (by omega) ?_
    conv => whnf
    intro b3
    conv => whnf
    refine appb (l := bebs c.ks ++ beb c.n 4) (m := beb c.b.length 1 ++ beb 1 1) (.refl _) (Src.slc (by rw [e38]; exact ⟨[], rfl⟩)) rfl (by rw [List.length_append, beb_len, beb_len]) (by decide) (by rw [l1, List.length_append, beb_len, beb_len]; decide) 23 (.inr rfl) fun a2 c2 hc2 => ?_
    conv => whnf
    have l2 : (bebs c.ks ++ beb c.n 4 ++ (beb c.b.length 1 ++ beb 1 1)).length = 10 := by rw [List.length_append, l1, List.length_append, beb_len, beb_len]
    refine appb (l := bebs c.ks ++ beb c.n 4 ++ (beb c.b.length 1 ++ beb 1 1)) (m := c.b) (.refl _) (Src.rs (A := A) (by simp) (hb.1.ent hE)) rfl rfl (by decide) (by omega) 23 (.inr rfl) fun a3 c3 hc3 => ?_
    conv => whnf
    have l3 : (bebs c.ks ++ beb c.n 4 ++ (beb c.b.length 1 ++ beb 1 1) ++ c.b).length = 10 + c.b.length := by rw [List.length_append, l2]
    refine appb (l := bebs c.ks ++ beb c.n 4 ++ (beb c.b.length 1 ++ beb 1 1) ++ c.b) (m := c.s) (.refl _) (Src.rs (A := A) (by simp) (hs.1.ent hE')) rfl rfl (by decide) (by omega) 23 (.inr rfl) fun a4 c4 hc4 => ?_
    have e4 : bebs c.ks ++ beb c.n 4 ++ (beb c.b.length 1 ++ beb 1 1) ++ c.b ++ c.s = c.body := by
      unfold Pc.body; rw [← hz]; simp only [List.append_assoc]
    have hbl := c.body_len
    rw [e4] at hc4 ⊢
    conv => whnf
    refine Ar.i64 (by omega) ?_
    obtain ⟨z, hz'⟩ : ∃ z : Nat, (512 : Int) - (c.body.length : Int) = z := ⟨512 - c.body.length, by omega⟩
    rw [hz']
    conv => whnf
    refine app0 (l := c.body) (k := z) (.refl _) rfl (by decide) rfl (by omega) (kk := .i64) rfl fun a5 c5 hc5 => ?_
    have e5 : c.body ++ List.replicate z 0 = c.room := by unfold Pc.room; rw [show 512 - c.body.length = z by omega]
    rw [e5] at hc5 ⊢
    conv => whnf
    exact Ret.mk' (a5, c5) [] [0, 1] hc5 rfl (by repeat' (first | exact trivial | rfl | apply And.intro)) trivial ⟨rfl, rfl⟩
  · conv => whnf
    have hz : (0 : Int) = min (c.s.length : Int) 1 := by omega
    have e38 : u8s (beb c.b.length 1 ++ beb 0 1) = [Value.int .u8 c.b.length, .int .u8 0] := by rw [u8s_append, u8s_beb1 (by omega), u8s_beb1 (by omega)]; rfl
    conv => whnf
    refine Ar.u8 (by omega) ?_
    conv => whnf
    intro b3
    conv => whnf
    refine appb (l := bebs c.ks ++ beb c.n 4) (m := beb c.b.length 1 ++ beb 0 1) (.refl _) (Src.slc (by rw [e38]; exact ⟨[], rfl⟩)) rfl (by rw [List.length_append, beb_len, beb_len]) (by decide) (by rw [l1, List.length_append, beb_len, beb_len]; decide) 23 (.inr rfl) fun a2 c2 hc2 => ?_
    conv => whnf
    have l2 : (bebs c.ks ++ beb c.n 4 ++ (beb c.b.length 1 ++ beb 0 1)).length = 10 := by rw [List.length_append, l1, List.length_append, beb_len, beb_len]
    refine appb (l := bebs c.ks ++ beb c.n 4 ++ (beb c.b.length 1 ++ beb 0 1)) (m := c.b) (.refl _) (Src.rs (A := A) (by simp) (hb.1.ent hE)) rfl rfl (by decide) (by omega) 23 (.inr rfl) fun a3 c3 hc3 => ?_
    conv => whnf
    have l3 : (bebs c.ks ++ beb c.n 4 ++ (beb c.b.length 1 ++ beb 0 1) ++ c.b).length = 10 + c.b.length := by rw [List.length_append, l2]
    refine appb (l := bebs c.ks ++ beb c.n 4 ++ (beb c.b.length 1 ++ beb 0 1) ++ c.b) (m := c.s) (.refl _) (Src.rs (A := A) (by simp) (hs.1.ent hE')) rfl rfl (by decide) (by omega) 23 (.inr rfl) fun a4 c4 hc4 => ?_
    have e4 : bebs c.ks ++ beb c.n 4 ++ (beb c.b.length 1 ++ beb 0 1) ++ c.b ++ c.s = c.body := by
      unfold Pc.body; rw [← hz]; simp only [List.append_assoc]
    have hbl := c.body_len
    rw [e4] at hc4 ⊢
    conv => whnf
    refine Ar.i64 (by omega) ?_
    obtain ⟨z, hz'⟩ : ∃ z : Nat, (512 : Int) - (c.body.length : Int) = z := ⟨512 - c.body.length, by omega⟩
    rw [hz']
    conv => whnf
    refine app0 (l := c.body) (k := z) (.refl _) rfl (by decide) rfl (by omega) (kk := .i64) rfl fun a5 c5 hc5 => ?_
    have e5 : c.body ++ List.replicate z 0 = c.room := by unfold Pc.room; rw [show 512 - c.body.length = z by omega]
    rw [e5] at hc5 ⊢
    conv => whnf
    exact Ret.mk' (a5, c5) [] [0, 1] hc5 rfl (by repeat' (first | exact trivial | rfl | apply And.intro)) trivial ⟨rfl, rfl⟩
end Go.Proofs.Ytiimeklgjoclpaa
