/- FnJsonStrict of the given program returns true for every slice of bytes and leaves it as it was. Conditions: none. -/
import Derived.Test.YtgihpfidacjogaaDoorRows
import Derived.Test.YtgihpfidacjogaaDoorTie
import Derived.Test.YtgihpfidacjogaaDoorCards
import Derived.Test.YtgihpfidacjogaaDoorSlV
import Derived.Test.YtgihpfidacjogaaDoorM16
import Derived.ProofKit
import Derived.OpenShut
import Derived.LaidMore
import Derived.Lay
import Derived.SevenTiedAt
import Derived.Stop.Joined
set_option linter.unusedVariables false
set_option linter.unusedSimpArgs false
namespace Go.Proofs.YtgihpfidacjogaaDoor
open Go.ChangeShapes Go.WideShapes Go.ChangeAt Go.RowKit Go.SL
theorem own : ownKnob Tryd.prog.godebug = none := by kernel_rfl
theorem laidOut : laidOutB Tryd.prog = true := by kernel_rfl
theorem byte_wf {n : Int} (h : (Lit.int .u8 n).wf = true) : 0 ≤ n ∧ n < 256 := by
  simp [Lit.wf, IntKind.min, IntKind.max, IntKind.bits, IntKind.signed] at h
  omega
theorem a_none {W : World} {a : Addr} {v : Value} (h : W.cell? a = some v) : a.spot = none := by
  unfold World.cell? at h
  cases hs : a.spot with
  | none => rfl
  | some x => rw [hs] at h; split at h <;> simp at h
/-- The function's contract, told by the world. -/
def Told : Prop := ∀ (code : List UInt8) (g : Nat → Nat), SL.Fn Tryd.prog 3 (stoF g []) [aL 1 eU code] (stoF g []) (aB true)
set_option maxRecDepth 100000 in
theorem lifted (told : Told) (os : Os) (started : os.Started) (H : Type) (enc : TypeId × Value → H) :
    ReturnsInHanded {} Tryd.checked os 3 .any (fun w args => (Rows.fnJsonStrictSpec.pre enc Tryd.prog Tryd.f3 Rows.fnJsonStrictRow.domain false w args ∧ laidMetH Tryd.prog Rows.fnJsonStrictRow.laid w) ∧ sizedMet enc Tryd.prog Tryd.f3 (OpenSpec.ofChange Rows.fnJsonStrictSpec) false w args)
      (Rows.fnJsonStrictSpec.post enc Tryd.prog Tryd.f3 false true false false) := by
  refine returnsInHanded_of_change_and (C := Tryd.checked) (X := fun w _ => laidMetH Tryd.prog Rows.fnJsonStrictRow.laid w) (fun _ _ _ hh h => h.of_heap hh) own started (by kernel_rfl) Tryd.func3
    (ChangeSpec.witness_shaped (enc := enc) (C := Tryd.checked) (os := os) (X := fun w _ => laidMetH Tryd.prog Rows.fnJsonStrictRow.laid w) false (World.laidAll Tryd.prog os Rows.fnJsonStrictRow.laid) #[.slice none 0 0] 8 (World.laidAll_os _ _ _)
      (World.shaped_of_ZipB (by kernel_rfl) (by kernel_rfl)) (by kernel_rfl) (by kernel_rfl) (by kernel_rfl)
      (by rw [MakeChecks.laidMetH_plain _ _ _ (by kernel_rfl)]; exact laidMet_laidAll _ (by kernel_rfl) (by kernel_rfl))) ?_
  intro W base args ds gs before hval0 hW hc _ hL _
  have hval : ∀ (j : Nat) t v, Tryd.f3.params[j]? = some t → args[j]? = some v → Value.okWide Tryd.prog W .any base t v := hval0
  have hW' := hW
  obtain ⟨p, q, hA0, hV, rfl, _, _⟩ := hW
  have hA : DataW.TrodAll enc Tryd.prog W 0 (fun _ => true) true Tryd.f3.params.toList args.toList ds p := hA0
  rw [Tryd.params3] at hA hval
  obtain ⟨v0, vs0, d0, ds0, p0, q0, hargs, rfl, rfl, h0, r0⟩ := trodAll_cons hA
  obtain ⟨rfl, rfl, rfl⟩ := trodAll_nil r0
  obtain rfl : args = #[v0] := by cases args; simp_all
  obtain ⟨rfl, rfl⟩ := trodVars_none hV
  have k0 := h0
  have lt0 : ∀ x ∈ p0, x.block < W.heap.size := by obtain ⟨m, hm⟩ := k0; exact DataW.trod_lt m _ _ _ hm
  obtain ⟨a0, len0, cap0, rfl⟩ := okWide_slice Tryd.underlying22 (hval 0 22 v0 rfl rfl)
  have hrel : ∃ code : List UInt8, Rel (Ctx.top Tryd.prog W (fun _ => 0)) (stoF (fun _ => 0) []) W (fun _ => undef) (fun _ => none) (.slice a0 len0 cap0) (aL 1 eU code) := by
    obtain ⟨fuel, hf⟩ := h0
    rcases open_ints Tryd.underlying22 Tryd.underlying5 (by kernel_rfl) hf with ⟨hcs, _⟩ | ⟨a, len, cap, zs, hcs, _, hlc, hm, hz, _, hcell, hwf⟩
    · simp [Value.cells] at hcs
      obtain ⟨rfl, rfl, rfl⟩ := hcs
      exact ⟨[], rel_nobytes none 0 (fun _ => rfl)⟩
    · simp [Value.cells] at hcs
      obtain ⟨rfl, rfl, rfl⟩ := hcs
      have hz' : zs.length = cap0 := hz
      by_cases h00 : len0 = 0
      · subst h00; exact ⟨[], rel_nobytes (some a) cap0 (fun h => by cases h)⟩
      · have hs : a.spot = none := by
          have := hcell 0 (by omega)
          have := a_none this
          exact this
        obtain ⟨ab, ao, as_⟩ := a
        simp only at hs
        subst hs
        refine ⟨(zs.take len0).map fun n => UInt8.ofNat n.toNat, ?_⟩
        have hll : ((zs.take len0).map fun n => UInt8.ofNat n.toNat).length = len0 := by simp; omega
        have := rel_bytes (P := Tryd.prog) (W := W) (g := fun _ => 0) ab ao cap0 ((zs.take len0).map fun n => UInt8.ofNat n.toNat) (by omega) hm (fun j hj => by
          have hj' : j < len0 := by omega
          have h1 := hcell j (by omega)
          have h2 : zs.getD j 0 = zs[j]'(by omega) := by simp [List.getD_eq_getElem?_getD, (by omega : j < zs.length)]
          have h3 := byte_wf (hwf _ (List.getElem_mem (by omega : j < zs.length)))
          rw [h2] at h1
          have h4 : ((zs.take len0).map fun n => UInt8.ofNat n.toNat)[j] = UInt8.ofNat (zs[j]'(by omega)).toNat := by simp
          rw [h4, UInt8.toNat_ofNat', Nat.mod_eq_of_lt (by omega), Int.toNat_of_nonneg h3.1]
          have e : (Addr.mk ab ao none).add j = Addr.mk ab (ao + j) none := by unfold Addr.add; split <;> simp_all
          rw [e] at h1
          exact h1)
        rw [hll] at this
        exact this
  obtain ⟨code, hrel⟩ := hrel
  clear hA0 hval0
  simp only [List.append_nil] at hW'
  have fin : Calls Tryd.prog 3 #[.slice a0 len0 cap0] W fun e w' => e = .returned (.bool true) ∧ Below W.heap.size W w' :=
    (told code (fun _ => 0)).calls W [.slice a0 len0 cap0] rfl (fun i x hx => by
      cases i with
      | zero => simp at hx; subst hx; exact hrel
      | succ i => simp at hx)
  refine fin.mono fun e W' ⟨he, bel⟩ => ?_
  subst he
  exact ⟨_, rfl, _, _, _, [], _, [], hW', trodAll_mk1 (shut_bool Tryd.underlying4 _), (trodAll_cons_mk (Below.trod laidOut (by kernel_rfl) (of_decide_eq_true (by kernel_rfl)) k0 bel lt0) trodAll_mk0), rfl, bel.frame _, fun h => by cases h⟩
theorem row_holds (told : Told) : Rows.FnJsonStrictSaid :=
  OpenClaim.holds_of_wide 3 Tryd.f3 rfl rfl rfl rfl rfl rfl rfl ⟨rfl, rfl, rfl, rfl, rfl⟩ rfl rfl rfl rfl rfl (by kernel_rfl) Tryd.func3 (by kernel_rfl)
    (of_decide_eq_true (by kernel_rfl)) (by unfold Func.isWrapper; first | (rw [if_pos (by decide +kernel)]; kernel_rfl) | (rw [if_neg (by decide +kernel)]; exact ⟨rfl, rfl⟩))
    (fun os started H enc _ => lifted told os started H enc)
theorem card_of (told : Told) : Rows.FnJsonStrictCardSaid :=
  Claim7.holds_tied_plain_at .later [] [.data, .pinned] true (true, "b1c4328919ea8b6de3f7cd2267af679feb3ee447ba334ce795b6329c88993b1f") false (row_holds told) (fun _ h => by cases h) (by kernel_rfl) (fun _ h => by cases h) fnJsonStrict_row_tie rfl ⟨rfl, rfl⟩ (by kernel_rfl) rfl
    (fun f fn hf hfn => by
      obtain rfl : f = 3 := Option.some.inj ((show Tryd.prog.funcNamed "loop.example/fretwork/laws.FnJsonStrict" = some 3 by kernel_rfl).symm.trans hf) |>.symm
      obtain rfl : fn = Tryd.f3 := (Option.some.inj (Tryd.func3.symm.trans hfn)).symm
      exact ⟨by kernel_rfl, fun j t ht => by
        rw [Tryd.params3] at ht
        have hm : t ∈ [22] := by simpa using Array.mem_of_getElem? ht
        have hall : ([22].all fun u => !Tryd.prog.wantsStandIn u) = true := by kernel_rfl
        exact (show Tryd.prog.wantsStandIn t = false by simpa using List.all_eq_true.1 hall t hm)⟩)
    (by kernel_rfl)
end Go.Proofs.YtgihpfidacjogaaDoor
