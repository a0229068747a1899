/- FnExactScriptShow of the given program returns true for every slice of bools and leaves it as it was. Conditions: none. -/
import Derived.Test.YtgihpfidacjogaaRows
import Derived.Test.YtgihpfidacjogaaPFnExactScriptShowx1
import Derived.Deep.Grids
import Derived.ProofKit
import Derived.OpenShut
import Derived.ShutString
import Derived.ChangeOld
import Derived.SizedLaws
namespace Go.Proofs.Ytgihpfidacjogaa.exactShow
open Go.RowKit Go.Proofs.Ytgihpfidacjogaa.PFnExactScriptShow Go.Proofs.YtgihpfidacjogaaW.PrintWords Go.Proofs.YtgihpfidacjogaaW.PrintLast
open Go.ChangeShapes Go.WideShapes Go.ChangeAt

def sh (b : Bool) : UInt8 := if b then 49 else 48
def shl_ (l : List Bool) : ByteArray := ⟨(l.map sh).toArray⟩

theorem ba_append (a : ByteArray) (xs : List UInt8) (x : UInt8) : a ++ (⟨#[x]⟩ : ByteArray) ++ (⟨xs.toArray⟩ : ByteArray) = a ++ (⟨(x :: xs).toArray⟩ : ByteArray) := by
  apply ByteArray.ext
  simp [ByteArray.data_append]
theorem ba_nil (a : ByteArray) : a ++ (⟨([] : List UInt8).toArray⟩ : ByteArray) = a := by
  apply ByteArray.ext
  simp [ByteArray.data_append]

theorem wrap_in (i : Int) (h0 : -9223372036854775808 ≤ i) (h1 : i ≤ 9223372036854775807) : wrap64 i = i := by unfold wrap64; omega

theorem spec_show (l : List Bool) (hl : l.length ≤ 2000000) : ∀ (d : Nat) (i : Nat) (acc : ByteArray), i + d = l.length → acc.size + d ≤ 4000000 →
    Ev (fun k => spec_ScriptShow.l0 k l acc (i : Int)) (acc ++ shl_ (l.drop i)) := by
  intro d
  induction d with
  | zero =>
    intro i acc hi ha
    refine Ev.step (f := fun _ => some (acc ++ shl_ (l.drop i))) (fun k => ?_) (Ev.now _)
    simp only [spec_ScriptShow.l0]
    rw [if_neg (by omega), List.drop_eq_nil_of_le (by omega)]
    unfold shl_
    rw [List.map_nil, ba_nil]
  | succ d ih =>
    intro i acc hi ha
    have hlt : i < l.length := by omega
    have hd : l.drop i = l[i] :: l.drop (i + 1) := List.drop_eq_getElem_cons hlt
    have hr : rdOf false l (i : Int) = l[i] := by simp [rdOf, hlt]
    have hw : wrap64 ((i : Int) + 1) = ((i + 1 : Nat) : Int) := by rw [wrap_in] <;> omega
    have key : ∀ c : UInt8, c = sh l[i] → Ev (fun k => spec_ScriptShow.l0 k l (acc ++ (⟨#[c]⟩ : ByteArray)) ((i + 1 : Nat) : Int)) (acc ++ shl_ (l.drop i)) := by
      intro c hc
      have := ih (i + 1) (acc ++ (⟨#[c]⟩ : ByteArray)) (by omega) (by simp [ByteArray.size_append]; have : (⟨#[c]⟩ : ByteArray).size = 1 := rfl; omega)
      rw [hd]
      unfold shl_ at this ⊢
      rw [List.map_cons, ← hc]
      have e := ba_append acc (List.map sh (l.drop (i + 1))) c
      rw [e] at this
      exact this
    cases hb : l[i] with
    | true =>
      refine Ev.step (fun k => ?_) (key 49 (by rw [hb]; rfl))
      simp only [spec_ScriptShow.l0]
      rw [if_pos (by omega), if_pos (by omega), hr, hb, if_pos rfl, if_pos (by omega), hw]
    | false =>
      refine Ev.step (fun k => ?_) (key 48 (by rw [hb]; rfl))
      simp only [spec_ScriptShow.l0]
      rw [if_pos (by omega), if_pos (by omega), hr, hb, if_neg (by decide), if_pos (by omega), hw]

def shi (b : Bool) : Int := if b then 49 else 48
theorem impl_show (l : List Bool) (hl : l.length ≤ 2000000) : ∀ (d : Nat) (i : Nat) (acc : List Int), i + d = l.length → acc.length + d ≤ 4000000 →
    Ev (fun k => impl_ScriptShow.l0 k acc l (l.length : Int) (i : Int)) (strOfNums (acc ++ (l.drop i).map shi)) := by
  intro d
  induction d with
  | zero =>
    intro i acc hi ha
    refine Ev.step (f := fun _ => some (strOfNums (acc ++ (l.drop i).map shi))) (fun k => ?_) (Ev.now _)
    simp only [impl_ScriptShow.l0]
    rw [if_neg (by omega), List.drop_eq_nil_of_le (by omega)]
    simp
  | succ d ih =>
    intro i acc hi ha
    have hlt : i < l.length := by omega
    have hd : l.drop i = l[i] :: l.drop (i + 1) := List.drop_eq_getElem_cons hlt
    have hr : rdOf false l (i : Int) = l[i] := by simp [rdOf, hlt]
    have hw : wrap64 ((i : Int) + 1) = ((i + 1 : Nat) : Int) := by rw [wrap_in] <;> omega
    have key : ∀ c : Int, c = shi l[i] → Ev (fun k => impl_ScriptShow.l0 k (acc ++ [c]) l (l.length : Int) ((i + 1 : Nat) : Int)) (strOfNums (acc ++ (l.drop i).map shi)) := by
      intro c hc
      have := ih (i + 1) (acc ++ [c]) (by omega) (by simp; omega)
      rw [hd, List.map_cons, ← hc]
      simpa using this
    cases hb : l[i] with
    | true =>
      refine Ev.step (fun k => ?_) (key 49 (by rw [hb]; rfl))
      simp only [impl_ScriptShow.l0]
      rw [if_pos (by omega), if_pos (by omega), if_pos (by omega), hr, hb, if_pos rfl, if_pos (by omega), hw]
    | false =>
      refine Ev.step (fun k => ?_) (key 48 (by rw [hb]; rfl))
      simp only [impl_ScriptShow.l0]
      rw [if_pos (by omega), if_pos (by omega), if_pos (by omega), hr, hb, if_neg (by decide), if_pos (by omega), hw]

theorem shows_one (l : List Bool) : strOfNums (([] : List Int) ++ (l.drop 0).map shi) = (⟨#[]⟩ : ByteArray) ++ shl_ (l.drop 0) := by
  apply ByteArray.ext
  simp [strOfNums, shl_, ByteArray.data_append]
  exact ⟨fun _ => rfl, fun _ => rfl⟩


theorem to_loop (l : List Bool) (hl : l.length ≤ 2000000) : ∀ (d i : Nat) (acc : List Bool), i + d = l.length → acc = l.take i ++ List.replicate d false → Ev (fun k => laws_toBoolS.l0 k l acc (i : Int)) l := by
  intro d
  induction d with
  | zero =>
    intro i acc hi ha
    refine Ev.step (f := fun _ => some l) (fun k => ?_) (Ev.now _)
    simp only [laws_toBoolS.l0]
    rw [if_neg (by omega), ha, List.take_of_length_le (by omega)]
    simp
  | succ d ih =>
    intro i acc hi ha
    have hlt : i < l.length := by omega
    have hr : rdOf false l (i : Int) = l[i] := by simp [rdOf, hlt]
    have hal : acc.length = l.length := by rw [ha]; simp; omega
    have hw : wrap64 ((i : Int) + 1) = ((i + 1 : Nat) : Int) := by rw [wrap_in] <;> omega
    refine Ev.step (fun k => ?_) (ih (i + 1) (acc.set i l[i]) (by omega) ?_)
    · simp only [laws_toBoolS.l0]
      rw [if_pos (by omega), if_pos (by omega), if_pos (by omega), hr, hw]
      rfl
    · rw [ha, List.set_append_right _ _ (by simp; omega)]
      have : i - (l.take i).length = 0 := by simp; omega
      rw [this, List.replicate_succ, List.set_cons_zero, List.take_succ_eq_append_getElem hlt, List.append_assoc]
      rfl
theorem to_ok (l : List Bool) (hl : l.length ≤ 2000000) : Ev (fun k => laws_toBoolS.f k l) l := by
  have h := to_loop l hl l.length 0 (List.replicate l.length false) (by omega) (by simp)
  refine Ev.congr (fun k => ?_) h
  unfold laws_toBoolS.f
  rw [if_pos (by omega), if_pos (by omega)]
  rfl
theorem eq_loop (l : List Bool) (hl : l.length ≤ 2000000) : ∀ (d i : Nat), i + d = l.length → Ev (fun k => laws_eqBoolS.l0 k l l (i : Int)) true := by
  intro d
  induction d with
  | zero =>
    intro i hi
    refine Ev.step (f := fun _ => some true) (fun k => ?_) (Ev.now _)
    simp only [laws_eqBoolS.l0]
    rw [if_neg (by omega)]
  | succ d ih =>
    intro i hi
    have hw : wrap64 ((i : Int) + 1) = ((i + 1 : Nat) : Int) := by rw [wrap_in] <;> omega
    refine Ev.step (fun k => ?_) (ih (i + 1) (by omega))
    simp only [laws_eqBoolS.l0]
    rw [if_pos (by omega), if_pos (by omega), if_pos (by omega), if_neg (by simp), hw]
theorem eq_ok (l : List Bool) (hl : l.length ≤ 2000000) : Ev (fun k => laws_eqBoolS.f k l l) true :=
  Ev.congr (fun k => by unfold laws_eqBoolS.f; rw [if_pos rfl]; rfl) (eq_loop l hl l.length 0 (by omega))
theorem law_ok (l : List Bool) : ∃ k, laws_FnExactScriptShow.f k l = some true := by
  by_cases hbig : (l.length : Int) > 1048576
  · exact ⟨0, by unfold laws_FnExactScriptShow.f; rw [if_pos hbig]⟩
  have hl : l.length ≤ 2000000 := by omega
  have hs := spec_show l hl l.length 0 (⟨#[]⟩ : ByteArray) (by omega) (by have : (⟨#[]⟩ : ByteArray).size = 0 := rfl; omega)
  have hi := impl_show l hl l.length 0 [] (by omega) (by simp; omega)
  rw [shows_one] at hi
  generalize (⟨#[]⟩ : ByteArray) ++ shl_ (l.drop 0) = r at hs hi
  have ht := to_ok l hl
  refine Ev.rounds (Ev.congr (f := fun k => (laws_toBoolS.f k l).bind fun t119 => ((spec_ScriptShow.f k t119).bind fun t122 => ((laws_toBoolS.f k l).bind fun t123 => ((impl_ScriptShow.f k t123).bind fun t126 => (if t126.toList = t122.toList then ((laws_toBoolS.f k l).bind fun t127 => ((laws_eqBoolS.f k t123 t127).bind fun t130 => (if t130 = true then (some true) else (some false)))) else (some false))))))
    (fun k => by unfold laws_FnExactScriptShow.f; rw [if_neg hbig]) (Ev.bind ht (Ev.bind (a := r) hs (Ev.bind ht (Ev.bind (a := r) hi ?_)))))
  refine Ev.congr (f := fun k => (laws_toBoolS.f k l).bind fun t127 => ((laws_eqBoolS.f k l t127).bind fun t130 => (if t130 = true then (some true) else (some false)))) (fun k => if_pos rfl) (Ev.bind ht (Ev.bind (eq_ok l hl) ?_))
  exact Ev.congr (f := fun _ => some true) (fun k => if_pos rfl) (Ev.now _)

theorem own : ownKnob Try.prog.godebug = none := by kernel_rfl
theorem laidOut : laidOutB Try.prog = true := by kernel_rfl
set_option maxRecDepth 100000 in
theorem lifted (os : Os) (started : os.Started) (H : Type) (enc : TypeId × Value → H) :
    ReturnsInHanded {} Try.checked os 3 .any (Rows.fnExactScriptShowSpec.pre6 enc Try.prog Try.f3 Rows.fnExactScriptShowRow.domain false) (Rows.fnExactScriptShowSpec.post enc Try.prog Try.f3 false true false false) := by
  refine returnsInHanded_of_change_sized (C := Try.checked) own started (by kernel_rfl) Try.func3
    (ChangeSpec.witness6 (enc := enc) (C := Try.checked) false ⟨#[], #[.slice none 0 0], []⟩ 8 (by kernel_rfl) (by kernel_rfl) (by kernel_rfl) (by kernel_rfl)) ?_
  intro W base args ds gs before hval0 hW hcnd hsz0 _
  have hval : ∀ (j : Nat) t v, Try.f3.params[j]? = some t → args[j]? = some v → Value.okWide Try.prog W .any base t v := hval0
  have hW' := hW
  obtain ⟨p, q, hA0, hV, rfl, hfz, hnd⟩ := hW
  have hA : DataW.TrodAll enc Try.prog W 0 (fun _ => true) true Try.f3.params.toList args.toList ds p := hA0
  rw [Try.params3] at hA hval
  obtain ⟨v0, vs0, d0, ds0, p0, q0, hargs, rfl, rfl, h0, r0⟩ := trodAll_cons hA
  obtain ⟨rfl, rfl, rfl⟩ := trodAll_nil r0
  obtain rfl : args = #[v0] := by cases args; simp_all
  obtain ⟨rfl, rfl⟩ := trodVars_none hV
  obtain ⟨a0, len0, cap0, rfl⟩ := okWide_slice Try.underlying22 (hval 0 22 v0 rfl rfl)
  have k0 := h0
  have lt0 : ∀ x ∈ p0, x.block < W.heap.size := by obtain ⟨m, hm⟩ := k0; exact DataW.trod_lt m _ _ _ hm
  obtain ⟨l, hll, hlc, hl⟩ : ∃ l : List Bool, l.length = len0 ∧ len0 ≤ cap0 ∧ Kd.C Kd.bool W a0 l.length l := by
    obtain ⟨fuel, hf⟩ := h0
    rcases Go.Deep.open_bools Try.underlying22 Try.underlying4 (by kernel_rfl) hf with ⟨hcs, _⟩ | ⟨x, len, cap, B, hcs, _, hlc, hm, _, hcell⟩
    · simp [Value.cells] at hcs
      obtain ⟨rfl, rfl, rfl⟩ := hcs
      exact ⟨[], rfl, Nat.le_refl _, rfl, by simp, fun h => absurd h (by simp)⟩
    · simp [Value.cells] at hcs
      obtain ⟨rfl, rfl, rfl⟩ := hcs
      refine ⟨(List.range len0).map B, by simp, hlc, Kd.C_of_reads (d := false) (h1 := fun _ => rfl) ⟨rfl, ?_, fun hn => ⟨x, rfl, fun j hj => ?_⟩⟩⟩
      · simp only [List.length_map, List.length_range]; simp only [maxLen] at hm; omega
      · simp only [List.length_map, List.length_range] at hj
        rw [hcell j (by omega)]
        simp [hj]
  subst hll
  clear hA0 hval0 hsz0
  obtain ⟨k, hk⟩ := law_ok l
  refine (laws_FnExactScriptShow.calls k a0 cap0 l true W hl hlc hk).mono fun e W' ⟨he, bel⟩ => ?_
  subst he
  exact ⟨_, rfl, _, _, _, [], _, [], hW', trodAll_mk1 (shut_bool Try.underlying4 _), (trodAll_cons_mk (Below.trod laidOut (by kernel_rfl) (of_decide_eq_true (by kernel_rfl)) k0 bel lt0) trodAll_mk0), rfl, bel.frame _, fun h => by cases h⟩
theorem over : Rows.fnExactScriptShowRow.holds Try.pinned (OpenSpec.ofChange Rows.fnExactScriptShowSpec) :=
  OpenClaim.holds_of_wide 3 Try.f3 rfl rfl rfl rfl rfl rfl rfl ⟨rfl, rfl, rfl, rfl, rfl⟩ rfl rfl rfl rfl rfl (by kernel_rfl) Try.func3 (by kernel_rfl)
    (of_decide_eq_true (by kernel_rfl)) (by unfold Func.isWrapper; first | (rw [if_pos (by decide +kernel)]; kernel_rfl) | (rw [if_neg (by decide +kernel)]; exact ⟨rfl, rfl⟩))
    (fun os started H enc _ => lifted os started H enc)
end Go.Proofs.Ytgihpfidacjogaa.exactShow
namespace Go.Proofs.Ytgihpfidacjogaa
/-- The row, under a short name, for the claim. -/
theorem fnExactScriptShow_holds : Rows.FnExactScriptShowSaid := exactShow.over
#print axioms fnExactScriptShow_holds
end Go.Proofs.Ytgihpfidacjogaa
