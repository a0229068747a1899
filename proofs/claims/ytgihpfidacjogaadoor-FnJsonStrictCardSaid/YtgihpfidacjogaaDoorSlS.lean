/- S-logic: parts of slices; bytes as a text. -/
import Derived.Test.YtgihpfidacjogaaDoorSlR
import Derived.Laws.BytesString
set_option linter.unusedVariables false
set_option linter.unusedSimpArgs false
namespace Go.SL
open Go.RowKit

theorem run_slice_sl {P : Program} {w : World} {t e sz : Nat} (ht : ef P t = some (e, sz)) {A : Option Addr} {n c i j : Nat} {lo hi : Option Value} (hl : (lo = none ∧ i = 0) ∨ ∃ k, lo = some (.int k (i : Int))) (hh : (hi = none ∧ j = n) ∨ ∃ k, hi = some (.int k (j : Int))) (hij : i ≤ j) (hj : j ≤ n) (hn : n ≤ c) :
    (Instr.sliceAt t (.slice A n c) lo hi none).run P w = .ok (.slice (if c = i then A else A.map (·.add (i * sz))) (j - i) (c - i)) w := by
  obtain ⟨hu, _⟩ := ef_spec ht
  have hs := run_sizeE ht w
  rcases hl with ⟨rfl, rfl⟩ | ⟨kl, rfl⟩ <;> rcases hh with ⟨rfl, rfl⟩ | ⟨kh, rfl⟩
  · simp [Instr.sliceAt, Instr.slice, Instr.sliceBounds, run_underlying hu, hs]
  · simp [Instr.sliceAt, Instr.slice, Instr.sliceBounds, run_underlying hu, hs, run_sliceBound (k := kh) (i := (j : Int)) rfl (by omega) (show (j : Int) ≤ (c : Nat) by omega)]
  · simp [Instr.sliceAt, Instr.slice, Instr.sliceBounds, run_underlying hu, hs, run_sliceBound (k := kl) (i := (i : Int)) rfl (by omega) (show (i : Int) ≤ (j : Nat) by omega)]
  · simp [Instr.sliceAt, Instr.slice, Instr.sliceBounds, run_underlying hu, hs, run_sliceBound (k := kh) (i := (j : Int)) rfl (by omega) (show (j : Int) ≤ (c : Nat) by omega), run_sliceBound (k := kl) (i := (i : Int)) rfl (by omega) (show (i : Int) ≤ (j : Nat) by omega)]

section
variable {P : Program} {C : Ctx P} {dst : Option Nat} {ty : Nat} {pos : String} {af : Array Edge} {gd : Option (Nat × Bool)} {s : Sto} {ρA : Operand → AV} {t e sz : Nat} {p : Operand} {α : Type} {enc : α → List FV} {l r : List α} {lo hi : Option Operand} {i j : Int}
theorem D.cutL (ht : ef P t = some (e, sz)) (hp : ρA p = .fz (.ls sz (l.map enc))) (hl : (lo = none ∧ i = 0) ∨ ∃ q k, lo = some q ∧ ρA q = .fz (.sc (.int k i))) (hh : (hi = none ∧ j = l.length) ∨ ∃ q k, hi = some q ∧ ρA q = .fz (.sc (.int k j))) (hc : cut l i j = some r) :
    Dz C ⟨dst, .slice t p lo hi none, ty, pos, af, gd⟩ s ρA (.fz (.ls sz (r.map enc))) [] [] :=
  .of fun s => Does.same fun ρ w h bk H hr => by
    have rp := hr p (by simp [Op.operands])
    rw [hp] at rp
    obtain ⟨c1, c2, c3, rfl⟩ := cut_some hc
    have e1 : ((l.drop i.toNat).take (j - i).toNat).map enc = ((l.map enc).drop i.toNat).take (j.toNat - i.toNat) := by
      rw [List.map_take, List.map_drop]
      congr 1
      omega
    have hl' : (lo.map ρ = none ∧ i.toNat = 0) ∨ ∃ k, lo.map ρ = some (.int k (i.toNat : Int)) := by
      rcases hl with ⟨rfl, rfl⟩ | ⟨q, k, rfl, hq⟩
      · exact .inl ⟨rfl, rfl⟩
      · have rq := hr q (by simp [Op.operands])
        rw [hq] at rq
        exact .inr ⟨k, by rw [Option.map_some, rq.sc]; congr 2; omega⟩
    have hh' : (hi.map ρ = none ∧ j.toNat = l.length) ∨ ∃ k, hi.map ρ = some (.int k (j.toNat : Int)) := by
      rcases hh with ⟨rfl, rfl⟩ | ⟨q, k, rfl, hq⟩
      · exact .inl ⟨rfl, by omega⟩
      · have rq := hr q (by simp [Op.operands])
        rw [hq] at rq
        exact .inr ⟨k, by rw [Option.map_some, rq.sc]; congr 2; omega⟩
    rw [e1]
    generalize hes : l.map enc = es at rp
    have hlen : l.length = es.length := by rw [← hes]; simp
    generalize hv : ρ p = v at rp
    cases rp with
    | fz hx =>
      have key : ∀ A n c, v = .slice A n c → n = es.length → n ≤ c → RelF w (C.Mut bk) (.slice (if c = i.toNat then A else A.map (·.add (i.toNat * sz))) (j.toNat - i.toNat) (c - i.toNat)) (.ls sz ((es.drop i.toNat).take (j.toNat - i.toNat))) →
          ∃ v', (execOp ρ ⟨dst, .slice t p lo hi none, ty, pos, af, gd⟩).run P w = .ok (.value v') w ∧ Rel C s w h bk v' (.fz (.ls sz ((es.drop i.toNat).take (j.toNat - i.toNat)))) := by
        intro A n c hvv hn hnc hrel
        have hrun := run_slice_sl (P := P) (w := w) ht (A := A) (n := n) (c := c) (i := i.toNat) (j := j.toNat) hl' (by rw [hn, ← hlen]; exact hh') (by omega) (by omega) hnc
        exact ⟨_, by simp only [execOp, hv, hvv, Sem.run_bind, Option.map_none, hrun, Result.andThen_ok, Sem.run_pure], .fz hrel⟩
      cases hx with
      | emp A c sz hA =>
        refine key A 0 c rfl rfl (Nat.zero_le _) ?_
        simp only [List.length_nil] at hlen
        have h1 : j.toNat - i.toNat = 0 := by omega
        have h2 : i.toNat = 0 := by omega
        rw [h1, h2]
        simp only [List.drop_nil, List.take_nil, Nat.zero_mul, Nat.sub_zero]
        refine .emp _ _ _ (fun h => ?_)
        split at h
        · exact hA h
        · cases A with
          | none => exact hA rfl
          | some a => cases h
      | ls b o c sz n es f hn hne hsz hc' hm hM hll hcell hrel =>
        refine key _ n c rfl hn hc' ?_
        have := RelF.cut (i := i.toNat) (j := j.toNat) (RelF.ls b o c sz n es f hn hne hsz hc' hm hM hll hcell hrel) hn (by omega) (by omega) hc' hm
        by_cases h0 : c = i.toNat
        · rw [if_pos h0]; rw [if_pos (by omega)] at this; exact this
        · rw [if_neg h0]; rw [if_neg (by omega)] at this
          simpa [add_mid] using this
end
/-- Bytes as a text. -/
theorem bytes_fold (l : List UInt8) : ∀ s : ByteArray, ((l.map fun x => (x.toNat : Int)).foldl (fun r n => r.push (UInt8.ofNat n.toNat)) s) = s ++ bs l := by
  induction l with
  | nil => intro s; apply ByteArray.ext; simp [bs]
  | cons a l ih =>
    intro s
    simp only [List.map_cons, List.foldl_cons, ih]
    apply ByteArray.ext
    simp [bs, ByteArray.push, UInt8.ofNat_toNat]

end Go.SL
