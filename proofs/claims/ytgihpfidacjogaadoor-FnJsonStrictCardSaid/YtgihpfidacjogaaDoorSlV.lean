/- S-logic: from a contract to a call. -/
import Derived.Test.YtgihpfidacjogaaDoorSlU
set_option linter.unusedVariables false
set_option linter.unusedSimpArgs false
namespace Go.SL
open Go.RowKit
def Ctx.top (P : Program) (W : World) (g : Nat → Nat) : Ctx P := ⟨W, fun _ => False, fun _ => False, fun _ h => h.elim, fun _ h => h.elim, stoF g [], fun _ => undef, fun _ => none⟩
theorem HeapOk.top (P : Program) (W : World) (g : Nat → Nat) : HeapOk (Ctx.top P W g) (stoF g []) W (fun _ => undef) (fun _ => none) :=
  ⟨Below.refl _ _, fun _ _ _ => rfl, fun k => rfl, fun k => ⟨Nat.le_refl _, fun _ => ⟨rfl, rfl⟩⟩, (fun _ _ _ h => by cases h), (fun _ _ h => by cases h)⟩
theorem Fn.calls {P : Program} {n : FuncId} {args : List AV} {g : Nat → Nat} {y : Value} (hF : Fn P n (stoF g []) args (stoF g []) (.fz (.sc y))) (W : World) (vals : List Value) (hl : vals.length = args.length)
    (hv : ∀ i x, args[i]? = some x → Rel (Ctx.top P W g) (stoF g []) W (fun _ => undef) (fun _ => none) (vals.getD i undef) x) : Calls P n vals.toArray W fun e w' => e = .returned y ∧ Below W.heap.size W w' := by
  refine (hF (Ctx.top P W g) rfl (HeapOk.top P W g) vals hl hv).mono ?_
  rintro e w' ⟨v, h', bk', he, H, r⟩
  have := sc_inv r rfl
  subst this
  exact ⟨he, H.below.os, H.below.tape, H.below.output, H.below.size, fun k hk => H.old k hk (fun h => h)⟩
/-- A list of bytes, frozen for the whole call. -/
theorem rel_bytes {P : Program} {W : World} {g : Nat → Nat} (b o c : Nat) (l : List UInt8) (hlc : l.length ≤ c) (hc : c ≤ maxLen) (hcell : ∀ j (h : j < l.length), W.cell? ⟨b, o + j, none⟩ = some (.int .u8 (l[j].toNat : Int))) :
    Rel (Ctx.top P W g) (stoF g []) W (fun _ => undef) (fun _ => none) (.slice (some ⟨b, o, none⟩) l.length c) (aL 1 eU l) := by
  cases hl : l with
  | nil => exact .fz (.emp _ _ _ (fun h => by cases h))
  | cons x r =>
    rw [← hl]
    refine .fz (.ls b o c 1 l.length (l.map eU) (fun i j => .int .u8 ((l.getD i 0).toNat : Int)) (by simp) (by rw [hl]; simp) (by omega) hlc hc ?_ (fun y hy => ?_) (fun i j hi hj => ?_) (fun i j y hy => ?_))
    · rintro (h | ⟨k, h⟩)
      · exact h
      · cases h
    · obtain ⟨z, _, rfl⟩ := List.mem_map.1 hy; rfl
    · have hi' : i < l.length := by simpa using hi
      have : j = 0 := by omega
      subst this
      refine ⟨?_, rfl⟩
      rw [Nat.mul_one, Nat.add_zero, hcell i hi']
      simp [List.getD_eq_getElem?_getD, hi']
    · rw [List.getElem?_map] at hy
      cases h : l[i]? with
      | none => rw [h] at hy; simp at hy
      | some z =>
        rw [h] at hy
        have : y = fU z := by
          cases j with
          | zero => simpa using hy.symm
          | succ j => simp at hy
        subst this
        have : l.getD i 0 = z := by simp [List.getD_eq_getElem?_getD, h]
        rw [this]
        exact .sc _ rfl
theorem rel_nobytes {P : Program} {W : World} {g : Nat → Nat} (A : Option Addr) (c : Nat) (hA : A = none → c = 0) :
    Rel (Ctx.top P W g) (stoF g []) W (fun _ => undef) (fun _ => none) (.slice A 0 c) (aL 1 eU []) := .fz (.emp A c 1 hA)
end Go.SL
