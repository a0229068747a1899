/- A text of the proof of FnJsonStrict: DPa. -/
import Derived.Test.YtgihpfidacjogaaDoorDF
import Derived.Test.YtgihpfidacjogaaDoorDL
import Derived.Test.YtgihpfidacjogaaDoorProg
import Derived.KernelRfl
set_option linter.unusedVariables false
set_option linter.unusedSimpArgs false
namespace Fw
open Go Go.SL Go.RowKit Go.Proofs
theorem MX : Tryd.prog.follows .mixedOrders = true := by kernel_rfl
theorem C10 : callable Tryd.prog 10 = true := by kernel_rfl
theorem C11 : callable Tryd.prog 11 = true := by kernel_rfl
theorem C12 : callable Tryd.prog 12 = true := by kernel_rfl
theorem C13 : callable Tryd.prog 13 = true := by kernel_rfl
theorem C14 : callable Tryd.prog 14 = true := by kernel_rfl
theorem C15 : callable Tryd.prog 15 = true := by kernel_rfl
theorem C16 : callable Tryd.prog 16 = true := by kernel_rfl
theorem C17 : callable Tryd.prog 17 = true := by kernel_rfl
theorem C18 : callable Tryd.prog 18 = true := by kernel_rfl
theorem C19 : callable Tryd.prog 19 = true := by kernel_rfl
theorem C20 : callable Tryd.prog 20 = true := by kernel_rfl
theorem C21 : callable Tryd.prog 21 = true := by kernel_rfl
theorem C22 : callable Tryd.prog 22 = true := by kernel_rfl
theorem C23 : callable Tryd.prog 23 = true := by kernel_rfl
theorem C24 : callable Tryd.prog 24 = true := by kernel_rfl
theorem C25 : callable Tryd.prog 25 = true := by kernel_rfl
theorem C26 : callable Tryd.prog 26 = true := by kernel_rfl
theorem C27 : callable Tryd.prog 27 = true := by kernel_rfl
theorem C28 : callable Tryd.prog 28 = true := by kernel_rfl
theorem C29 : callable Tryd.prog 29 = true := by kernel_rfl
theorem C30 : callable Tryd.prog 30 = true := by kernel_rfl
theorem C31 : callable Tryd.prog 31 = true := by kernel_rfl
theorem C32 : callable Tryd.prog 32 = true := by kernel_rfl
theorem C33 : callable Tryd.prog 33 = true := by kernel_rfl
theorem C34 : callable Tryd.prog 34 = true := by kernel_rfl
theorem C35 : callable Tryd.prog 35 = true := by kernel_rfl
theorem C36 : callable Tryd.prog 36 = true := by kernel_rfl
theorem C37 : callable Tryd.prog 37 = true := by kernel_rfl
theorem C38 : callable Tryd.prog 38 = true := by kernel_rfl
theorem C39 : callable Tryd.prog 39 = true := by kernel_rfl
theorem C4 : callable Tryd.prog 4 = true := by kernel_rfl
theorem C40 : callable Tryd.prog 40 = true := by kernel_rfl
theorem C41 : callable Tryd.prog 41 = true := by kernel_rfl
theorem C42 : callable Tryd.prog 42 = true := by kernel_rfl
theorem C43 : callable Tryd.prog 43 = true := by kernel_rfl
theorem C44 : callable Tryd.prog 44 = true := by kernel_rfl
theorem C45 : callable Tryd.prog 45 = true := by kernel_rfl
theorem C49 : callable Tryd.prog 49 = true := by kernel_rfl
theorem C5 : callable Tryd.prog 5 = true := by kernel_rfl
theorem C50 : callable Tryd.prog 50 = true := by kernel_rfl
theorem C51 : callable Tryd.prog 51 = true := by kernel_rfl
theorem C52 : callable Tryd.prog 52 = true := by kernel_rfl
theorem C54 : callable Tryd.prog 54 = true := by kernel_rfl
theorem C6 : callable Tryd.prog 6 = true := by kernel_rfl
theorem C62 : callable Tryd.prog 62 = true := by kernel_rfl
theorem C65 : callable Tryd.prog 65 = true := by kernel_rfl
theorem C7 : callable Tryd.prog 7 = true := by kernel_rfl
theorem C8 : callable Tryd.prog 8 = true := by kernel_rfl
theorem C9 : callable Tryd.prog 9 = true := by kernel_rfl
theorem E22 : ef Tryd.prog 22 = some (5, 1) := by kernel_rfl
theorem E24 : ef Tryd.prog 24 = some (9, 1) := by kernel_rfl
theorem E25 : ef Tryd.prog 25 = some (27, 5) := by kernel_rfl
theorem E53 : ef Tryd.prog 53 = some (4, 1) := by kernel_rfl
theorem E54 : ef Tryd.prog 54 = some (56, 6) := by kernel_rfl
theorem E67 : ef Tryd.prog 67 = some (24, 1) := by kernel_rfl
theorem FS27 : fs Tryd.prog 27 = some [(0, 1), (1, 1), (2, 1), (3, 1), (4, 1)] := by kernel_rfl
theorem FS41 : fs Tryd.prog 41 = some [(0, 1), (1, 1), (2, 1)] := by kernel_rfl
theorem FS45 : fs Tryd.prog 45 = some [(0, 1), (1, 1)] := by kernel_rfl
theorem FS51 : fs Tryd.prog 51 = some [(0, 1), (1, 1)] := by kernel_rfl
theorem FS56 : fs Tryd.prog 56 = some [(0, 1), (1, 1), (2, 1), (3, 1), (4, 1), (5, 1)] := by kernel_rfl
theorem K3 : ki Tryd.prog 3 .i64 = true := by kernel_rfl
theorem K5 : ki Tryd.prog 5 .u8 = true := by kernel_rfl
theorem O27_0 : fo Tryd.prog 27 0 = some (0, 1, false) := by kernel_rfl
theorem O27_1 : fo Tryd.prog 27 1 = some (1, 1, false) := by kernel_rfl
theorem O27_2 : fo Tryd.prog 27 2 = some (2, 1, false) := by kernel_rfl
theorem O27_3 : fo Tryd.prog 27 3 = some (3, 1, false) := by kernel_rfl
theorem O27_4 : fo Tryd.prog 27 4 = some (4, 1, false) := by kernel_rfl
theorem O41_0 : fo Tryd.prog 41 0 = some (0, 1, false) := by kernel_rfl
theorem O41_1 : fo Tryd.prog 41 1 = some (1, 1, false) := by kernel_rfl
theorem O41_2 : fo Tryd.prog 41 2 = some (2, 1, false) := by kernel_rfl
theorem O45_0 : fo Tryd.prog 45 0 = some (0, 1, false) := by kernel_rfl
theorem O45_1 : fo Tryd.prog 45 1 = some (1, 1, false) := by kernel_rfl
theorem O51_0 : fo Tryd.prog 51 0 = some (0, 1, false) := by kernel_rfl
theorem O51_1 : fo Tryd.prog 51 1 = some (1, 1, false) := by kernel_rfl
theorem O56_0 : fo Tryd.prog 56 0 = some (0, 1, false) := by kernel_rfl
theorem O56_1 : fo Tryd.prog 56 1 = some (1, 1, false) := by kernel_rfl
theorem O56_2 : fo Tryd.prog 56 2 = some (2, 1, false) := by kernel_rfl
theorem O56_3 : fo Tryd.prog 56 3 = some (3, 1, false) := by kernel_rfl
theorem O56_4 : fo Tryd.prog 56 4 = some (4, 1, false) := by kernel_rfl
theorem O56_5 : fo Tryd.prog 56 5 = some (5, 1, false) := by kernel_rfl
theorem S9 : isStr Tryd.prog 9 = true := by kernel_rfl
theorem T22 : tf Tryd.prog 22 = some (1, false) := by kernel_rfl
theorem T24 : tf Tryd.prog 24 = some (1, false) := by kernel_rfl
theorem T25 : tf Tryd.prog 25 = some (1, false) := by kernel_rfl
theorem T27 : tf Tryd.prog 27 = some (5, true) := by kernel_rfl
theorem T3 : tf Tryd.prog 3 = some (1, false) := by kernel_rfl
theorem T4 : tf Tryd.prog 4 = some (1, false) := by kernel_rfl
theorem T5 : tf Tryd.prog 5 = some (1, false) := by kernel_rfl
theorem T53 : tf Tryd.prog 53 = some (1, false) := by kernel_rfl
theorem T54 : tf Tryd.prog 54 = some (1, false) := by kernel_rfl
theorem T56 : tf Tryd.prog 56 = some (6, true) := by kernel_rfl
theorem T9 : tf Tryd.prog 9 = some (1, false) := by kernel_rfl
theorem Z27 : zel Tryd.prog 27 5 80 = true := by kernel_rfl
theorem Z4 : zel Tryd.prog 4 1 1 = true := by kernel_rfl
theorem Z56 : zel Tryd.prog 56 6 96 = true := by kernel_rfl
theorem Z9 : zel Tryd.prog 9 1 16 = true := by kernel_rfl
theorem ZB24 : zb Tryd.prog 24 = some ([.slice none 0 0], 1, 24) := by kernel_rfl
theorem ZB27 : zb Tryd.prog 27 = some ([.int .i64 0, .bool false, .string ⟨#[]⟩, .slice none 0 0, .slice none 0 0], 5, 80) := by kernel_rfl
theorem ZB4 : zb Tryd.prog 4 = some ([.bool false], 1, 1) := by kernel_rfl
theorem ZB56 : zb Tryd.prog 56 = some ([.int .i64 0, .int .i64 0, .int .i64 0, .slice none 0 0, .slice none 0 0, .slice none 0 0], 6, 96) := by kernel_rfl
theorem ZB9 : zb Tryd.prog 9 = some ([.string ⟨#[]⟩], 1, 16) := by kernel_rfl
theorem ZF27 : zf Tryd.prog 27 = some [.int .i64 0, .bool false, .string ⟨#[]⟩, .slice none 0 0, .slice none 0 0] := by kernel_rfl
theorem ZF3 : zf Tryd.prog 3 = some [.int .i64 0] := by kernel_rfl
theorem ZF41 : zf Tryd.prog 41 = some [.string ⟨#[]⟩, .int .i64 0, .bool false] := by kernel_rfl
theorem ZF45 : zf Tryd.prog 45 = some [.string ⟨#[]⟩, .int .i64 0] := by kernel_rfl
theorem ZF51 : zf Tryd.prog 51 = some [.slice none 0 0, .int .i64 0] := by kernel_rfl
theorem ZF56 : zf Tryd.prog 56 = some [.int .i64 0, .int .i64 0, .int .i64 0, .slice none 0 0, .slice none 0 0, .slice none 0 0] := by kernel_rfl
set_option maxRecDepth 4000
theorem spec_l6Open_ok {code : (List UInt8)} {y : L6Rd} (hh0 : spec_l6Open code = some y) (g : Nat → Nat) : Fn Tryd.prog 10 (stoF g []) [aL 1 eU code] (stoF (bumpF g [0]) [(0, .box 51 [aL 1 eU y.b, aI y.p])]) (.pt 0 ((bumpF g [0]) 0) 0) := by
  refine Fn.of (bs := [0]) (hs := []) (kl := [0]) (L := (fun f => [(2, .pt 0 (f 0) 0)])) (O := (fun f => [(0, .box 51 [aL 1 eU y.b, aI y.p])])) Tryd.func10 rfl Tryd.ntmps10 rfl (fun f hf => ⟨(.more rfl (.box (.all rfl)) .nil), .one (Nat.le_of_ble_eq_true rfl) (.tmp rfl) (.c (.pt rfl rfl rfl))⟩) rfl rfl rfl (fun C => ?_)
  have hf : agree g [] g := agree_refl g _
  refine EW.seq ?_
  refine EW.region ?_
  refine .p rfl (D.as rfl) ?_
  refine .nil ?_
  refine EW.seq ?_
  refine EW.seq ?_
  refine EW.region ?_
  refine .p rfl (D.mv (x := aL 1 eU code) rfl) ?_
  refine .klen 3 rfl rfl fun hl => ?_
  refine .p rfl (D.len E22 rfl) ?_
  refine .p rfl (D.gt rfl rfl) ?_
  refine .nil ?_
  obtain ⟨o_, hh1, hh0⟩ := bs_ hh0
  refine EW.bj (At g [] (fun f => [(0, aL 1 eU o_)]) (fun f => [])) ?_ ?_
  · rcases it hh1 with ⟨hb, hh1⟩ | ⟨hb, hh1⟩
    · refine EW.condT rfl rfl hb ?_
      refine EW.region ?_
      refine .p rfl (D.mv (x := aL 1 eU code) rfl) ?_
      obtain ⟨l, h_l, hh1⟩ := bs_ hh1
      refine .p rfl (D.cutL E22 rfl (.inl ⟨rfl, rfl⟩) (.inr ⟨_, _, rfl, rfl⟩) h_l) ?_
      refine .p rfl (D.as (x := aL 1 eU l) rfl) ?_
      obtain rfl := sj_ hh1
      exact .nilA [] (fun _ h => h) hf ⟨.c .fz, trivial⟩ rfl
    · refine EW.condF rfl rfl hb ?_
      obtain rfl := sj_ hh1
      exact EW.skipA [] (fun _ h => h) hf ⟨.c .fz, trivial⟩ rfl
  · rintro _ ⟨f, hf, rfl⟩
    refine EW.seq ?_
    refine EW.region ?_
    refine .p rfl (D.mv (x := aL 1 eU o_) rfl) ?_
    refine .p rfl (D.build FS51 ZF51 rfl (.cons rfl .nil) rfl) ?_
    refine .w rfl (D.box 0 rfl rfl) ?_
    refine .p rfl (D.as rfl) ?_
    refine .nil ?_
    obtain rfl := sj_ hh0
    exact EW.retA [0] (fun _ h => ⟨.inr rfl, h⟩) hf ⟨.c (.pt rfl rfl rfl), trivial⟩ ⟨rfl, .box (.all rfl), rfl⟩

theorem spec_l31Write_all : (∀ (j : Json) (y : Str), spec_l31Write j = some y → ∀ g : Nat → Nat, Fn Tryd.prog 21 (stoF g []) [.ag [aI j.Kind, aB j.Flag, aS j.Text, aL 1 eS j.Names, aL 5 Json.c j.Kids]] (stoF g []) (aS y))
   ∧ (∀ (j : Json) (out : Str) (i : Int) (o : Str), spec_l31Write_l1 j out i = some o → ∀ (g : Nat → Nat) (C : Ctx Tryd.prog) (Q : Exit → St → Prop), (∀ σ', At g [] (fun f => [(1, .pt 0 (f 0) 0), (3, aS o)]) (fun f => [(0, .box 27 [aI j.Kind, aB j.Flag, aS j.Text, aL 1 eS j.Names, aL 5 Json.c j.Kids])]) σ' → Q (.exit 1) σ') → ∀ σ, At g [] (fun f => [(1, .pt 0 (f 0) 0), (3, aS out), (4, aI i)]) (fun f => [(0, .box 27 [aI j.Kind, aB j.Flag, aS j.Text, aL 1 eS j.Names, aL 5 Json.c j.Kids])]) σ → EWL C 63 (bAt Tryd.f21 [1, 1, 1, 0, 1, 0, 0]) σ Q) := by
  refine spec_l31Write.mpc (fun j y => ∀ g : Nat → Nat, Fn Tryd.prog 21 (stoF g []) [.ag [aI j.Kind, aB j.Flag, aS j.Text, aL 1 eS j.Names, aL 5 Json.c j.Kids]] (stoF g []) (aS y))
    (fun j out i o => ∀ (g : Nat → Nat) (C : Ctx Tryd.prog) (Q : Exit → St → Prop), (∀ σ', At g [] (fun f => [(1, .pt 0 (f 0) 0), (3, aS o)]) (fun f => [(0, .box 27 [aI j.Kind, aB j.Flag, aS j.Text, aL 1 eS j.Names, aL 5 Json.c j.Kids])]) σ' → Q (.exit 1) σ') → ∀ σ, At g [] (fun f => [(1, .pt 0 (f 0) 0), (3, aS out), (4, aI i)]) (fun f => [(0, .box 27 [aI j.Kind, aB j.Flag, aS j.Text, aL 1 eS j.Names, aL 5 Json.c j.Kids])]) σ → EWL C 63 (bAt Tryd.f21 [1, 1, 1, 0, 1, 0, 0]) σ Q) ?_ ?_
  · intro sf_spec_l31Write_l1 ih_spec_l31Write_l1 j y hh0
    intro g
    refine Fn.of0 (hs := []) (kl := []) (L := (fun f => [(2, aS y)])) (O := (fun f => [])) Tryd.func21 rfl Tryd.ntmps21 rfl (fun f hf => ⟨.nil, .one (Nat.le_of_ble_eq_true rfl) (.tmp rfl) (.c .fz)⟩) rfl rfl (fun C => ?_)
    have hf : agree g [] g := agree_refl g _
    refine EW.seq ?_
    refine EW.region ?_
    refine .w rfl (D.box 0 rfl rfl) ?_
    refine .p rfl (D.as (x := aS []) rfl) ?_
    refine .nil ?_
    refine EW.seq ?_
    refine EW.seq ?_
    refine EW.region ?_
    refine .p rfl (D.fld O27_0 rfl rfl rfl) ?_
    refine .p rfl (D.ld1 T3 rfl rfl rfl) ?_
    refine .nil ?_
    refine EW.block ?_
    refine EW.seq ?_
    refine EW.region ?_
    refine .p rfl (D.eqI rfl rfl) ?_
    refine .p rfl (D.as (x := aB (j.Kind == 1)) rfl) ?_
    refine .nil ?_
    rcases it hh0 with ⟨hb, hh0⟩ | ⟨hb, hh0⟩
    · refine EW.condT rfl rfl hb ?_
      refine EW.seq ?_
      refine EW.region ?_
      refine .p rfl (D.as (x := aS [110, 117, 108, 108]) rfl) ?_
      refine .nil ?_
      obtain rfl := sj_ hh0
      exact EW.retA [] (fun _ h => ⟨.inr rfl, h⟩) hf ⟨.c .fz, trivial⟩ rfl
    · refine EW.condF rfl rfl hb ?_
      refine EW.seq ?_
      refine EW.region ?_
      refine .p rfl (D.eqI rfl rfl) ?_
      refine .p rfl (D.as (x := aB (j.Kind == 2)) rfl) ?_
      refine .nil ?_
      rcases it hh0 with ⟨hb, hh0⟩ | ⟨hb, hh0⟩
      · refine EW.condT rfl rfl hb ?_
        refine EW.seq ?_
        refine EW.seq ?_
        refine EW.region ?_
        refine .p rfl (D.fld O27_1 rfl rfl rfl) ?_
        refine .p rfl (D.ld1 T4 rfl rfl rfl) ?_
        refine .nil ?_
        rcases it hh0 with ⟨hb, hh0⟩ | ⟨hb, hh0⟩
        · refine EW.condT rfl rfl hb ?_
          refine EW.seq ?_
          refine EW.region ?_
          refine .p rfl (D.as (x := aS [116, 114, 117, 101]) rfl) ?_
          refine .nil ?_
          obtain rfl := sj_ hh0
          exact EW.retA [] (fun _ h => ⟨.inr rfl, h⟩) hf ⟨.c .fz, trivial⟩ rfl
        · refine EW.condF rfl rfl hb ?_
          refine EW.skip ?_
          refine EW.seq ?_
          refine EW.region ?_
          refine .p rfl (D.as (x := aS [102, 97, 108, 115, 101]) rfl) ?_
          refine .nil ?_
          obtain rfl := sj_ hh0
          exact EW.retA [] (fun _ h => ⟨.inr rfl, h⟩) hf ⟨.c .fz, trivial⟩ rfl
      · refine EW.condF rfl rfl hb ?_
        refine EW.seq ?_
        refine EW.region ?_
        refine .p rfl (D.eqI rfl rfl) ?_
        refine .p rfl (D.as (x := aB (j.Kind == 3)) rfl) ?_
        refine .nil ?_
        rcases it hh0 with ⟨hb, hh0⟩ | ⟨hb, hh0⟩
        · refine EW.condT rfl rfl hb ?_
          refine EW.seq ?_
          refine EW.region ?_
          refine .p rfl (D.fld O27_2 rfl rfl rfl) ?_
          refine .p rfl (D.ld1 T9 rfl rfl rfl) ?_
          refine .p rfl (D.as (x := aS j.Text) rfl) ?_
          refine .nil ?_
          obtain rfl := sj_ hh0
          exact EW.retA [] (fun _ h => ⟨.inr rfl, h⟩) hf ⟨.c .fz, trivial⟩ rfl
        · refine EW.condF rfl rfl hb ?_
          refine EW.seq ?_
          refine EW.region ?_
          refine .p rfl (D.eqI rfl rfl) ?_
          refine .p rfl (D.as (x := aB (j.Kind == 4)) rfl) ?_
          refine .nil ?_
          rcases it hh0 with ⟨hb, hh0⟩ | ⟨hb, hh0⟩
          · refine EW.condT rfl rfl hb ?_
            refine EW.seq ?_
            refine EW.region ?_
            refine .p rfl (D.fld O27_2 rfl rfl rfl) ?_
            refine .p rfl (D.ld1 T9 rfl rfl rfl) ?_
            obtain ⟨s, h_s, hh0⟩ := bs_ hh0
            refine .p rfl (D.cat rfl rfl h_s) ?_
            obtain ⟨s1, h_s1, hh0⟩ := bs_ hh0
            refine .p rfl (D.cat rfl rfl h_s1) ?_
            refine .p rfl (D.as (x := aS s1) rfl) ?_
            refine .nil ?_
            obtain rfl := sj_ hh0
            exact EW.retA [] (fun _ h => ⟨.inr rfl, h⟩) hf ⟨.c .fz, trivial⟩ rfl
          · refine EW.condF rfl rfl hb ?_
            refine EW.skip ?_
            refine EW.seq ?_
            refine EW.region ?_
            refine .p rfl (D.as (x := aS []) rfl) ?_
            refine .nil ?_
            refine EW.seq ?_
            refine EW.seq ?_
            refine EW.region ?_
            refine .p rfl (D.as (x := aI 0) rfl) ?_
            refine .nil ?_
            obtain ⟨o_2, hl, hh0⟩ := bs_ hh0
            refine EW.bj (At g [] (fun f => [(1, .pt 0 (f 0) 0), (3, aS o_2)]) (fun f => [(0, .box 27 [aI j.Kind, aB j.Flag, aS j.Text, aL 1 eS j.Names, aL 5 Json.c j.Kids])])) (EW.block (EW.loop (EWL.less [0] (ih_spec_l31Write_l1 _ _ _ _ hl g C _ (fun _ h => h)) hf ⟨.c (.pt rfl rfl rfl), .c .fz, .c .fz, trivial⟩ ⟨rfl, .box (.all rfl), rfl⟩))) ?_
            rintro _ ⟨f, hf, rfl⟩
            refine EW.seq ?_
            refine EW.seq ?_
            refine EW.region ?_
            refine .p rfl (D.fld O27_0 rfl rfl rfl) ?_
            refine .p rfl (D.ld1 T3 rfl rfl rfl) ?_
            refine .p rfl (D.eqI rfl rfl) ?_
            refine .nil ?_
            rcases it hh0 with ⟨hb, hh0⟩ | ⟨hb, hh0⟩
            · refine EW.condT rfl rfl hb ?_
              refine EW.seq ?_
              refine EW.region ?_
              refine .p rfl (D.mv (x := aS o_2) rfl) ?_
              obtain ⟨s7, h_s7, hh0⟩ := bs_ hh0
              refine .p rfl (D.cat rfl rfl h_s7) ?_
              obtain ⟨s8, h_s8, hh0⟩ := bs_ hh0
              refine .p rfl (D.cat rfl rfl h_s8) ?_
              refine .p rfl (D.as (x := aS s8) rfl) ?_
              refine .nil ?_
              obtain rfl := sj_ hh0
              exact EW.retA [] (fun _ h => ⟨.inr rfl, h⟩) hf ⟨.c .fz, trivial⟩ rfl
            · refine EW.condF rfl rfl hb ?_
              refine EW.skip ?_
              refine EW.seq ?_
              refine EW.region ?_
              refine .p rfl (D.mv (x := aS o_2) rfl) ?_
              obtain ⟨s9, h_s9, hh0⟩ := bs_ hh0
              refine .p rfl (D.cat rfl rfl h_s9) ?_
              obtain ⟨s10, h_s10, hh0⟩ := bs_ hh0
              refine .p rfl (D.cat rfl rfl h_s10) ?_
              refine .p rfl (D.as (x := aS s10) rfl) ?_
              refine .nil ?_
              obtain rfl := sj_ hh0
              exact EW.retA [] (fun _ h => ⟨.inr rfl, h⟩) hf ⟨.c .fz, trivial⟩ rfl
  · intro sf_spec_l31Write sf_spec_l31Write_l1 ih_spec_l31Write ih_spec_l31Write_l1 j out i o hh0
    intro g C Q hx σ hσ
    obtain ⟨f, hf, rfl⟩ := hσ
    refine EWL.round ?_
    refine EW.seq ?_
    refine EW.seq ?_
    refine EW.region ?_
    refine .p rfl (D.mv (x := aI i) rfl) ?_
    refine .p rfl (D.fld O27_4 rfl rfl rfl) ?_
    refine .p rfl (D.ld1 T25 rfl rfl rfl) ?_
    refine .klen 25 rfl rfl fun hl => ?_
    refine .p rfl (D.len E25 rfl) ?_
    refine .p rfl (D.lt rfl rfl) ?_
    refine .nil ?_
    rcases it hh0 with ⟨hb, hh0⟩ | ⟨hb, hh0⟩
    · refine EW.condT rfl rfl hb ?_
      refine EW.skip ?_
      refine EW.seq ?_
      refine EW.block ?_
      refine EW.seq ?_
      refine EW.seq ?_
      refine EW.region ?_
      refine .p rfl (D.mv (x := aI i) rfl) ?_
      refine .p rfl (D.gt rfl rfl) ?_
      refine .nil ?_
      obtain ⟨o_, hh1, hh0⟩ := bs_ hh0
      refine EW.bj (At g [] (fun f => [(1, .pt 0 (f 0) 0), (3, aS o_), (4, aI i)]) (fun f => [(0, .box 27 [aI j.Kind, aB j.Flag, aS j.Text, aL 1 eS j.Names, aL 5 Json.c j.Kids])])) ?_ ?_
      · rcases it hh1 with ⟨hb, hh1⟩ | ⟨hb, hh1⟩
        · refine EW.condT rfl rfl hb ?_
          refine EW.region ?_
          refine .p rfl (D.mv (x := aS out) rfl) ?_
          obtain ⟨s2, h_s2, hh1⟩ := bs_ hh1
          refine .p rfl (D.cat rfl rfl h_s2) ?_
          refine .p rfl (D.as (x := aS s2) rfl) ?_
          obtain rfl := sj_ hh1
          exact .nilA [0] (fun _ h => h) hf ⟨.c (.pt rfl rfl rfl), .c .fz, .c .fz, trivial⟩ ⟨rfl, .box (.all rfl), rfl⟩
        · refine EW.condF rfl rfl hb ?_
          obtain rfl := sj_ hh1
          exact EW.skipA [0] (fun _ h => h) hf ⟨.c (.pt rfl rfl rfl), .c .fz, .c .fz, trivial⟩ ⟨rfl, .box (.all rfl), rfl⟩
      · rintro _ ⟨f, hf, rfl⟩
        refine EW.seq ?_
        refine EW.seq ?_
        refine EW.region ?_
        refine .p rfl (D.fld O27_0 rfl rfl rfl) ?_
        refine .p rfl (D.ld1 T3 rfl rfl rfl) ?_
        refine .p rfl (D.eqI rfl rfl) ?_
        refine .nil ?_
        obtain ⟨o_1, hh1, hh0⟩ := bs_ hh0
        refine EW.bj (At g [] (fun f => [(1, .pt 0 (f 0) 0), (3, aS o_1), (4, aI i)]) (fun f => [(0, .box 27 [aI j.Kind, aB j.Flag, aS j.Text, aL 1 eS j.Names, aL 5 Json.c j.Kids])])) ?_ ?_
        · rcases it hh1 with ⟨hb, hh1⟩ | ⟨hb, hh1⟩
          · refine EW.condT rfl rfl hb ?_
            refine EW.region ?_
            refine .p rfl (D.mv (x := aS o_) rfl) ?_
            obtain ⟨s3, h_s3, hh1⟩ := bs_ hh1
            refine .p rfl (D.cat rfl rfl h_s3) ?_
            refine .p rfl (D.fld O27_3 rfl rfl rfl) ?_
            refine .p rfl (D.ld1 T24 rfl rfl rfl) ?_
            refine .p rfl (D.mv (x := aI i) rfl) ?_
            obtain ⟨Name, h_Name, hh1⟩ := bs_ hh1
            refine .p rfl (D.idx E24 rfl rfl h_Name rfl) ?_
            refine .p rfl (D.ldp1 T9 rfl rfl) ?_
            obtain ⟨s4, h_s4, hh1⟩ := bs_ hh1
            refine .p rfl (D.cat rfl rfl h_s4) ?_
            obtain ⟨s5, h_s5, hh1⟩ := bs_ hh1
            refine .p rfl (D.cat rfl rfl h_s5) ?_
            refine .p rfl (D.as (x := aS s5) rfl) ?_
            obtain rfl := sj_ hh1
            exact .nilA [0] (fun _ h => h) hf ⟨.c (.pt rfl rfl rfl), .c .fz, .c .fz, trivial⟩ ⟨rfl, .box (.all rfl), rfl⟩
          · refine EW.condF rfl rfl hb ?_
            obtain rfl := sj_ hh1
            exact EW.skipA [0] (fun _ h => h) hf ⟨.c (.pt rfl rfl rfl), .c .fz, .c .fz, trivial⟩ ⟨rfl, .box (.all rfl), rfl⟩
        · rintro _ ⟨f, hf, rfl⟩
          refine EW.region ?_
          refine .p rfl (D.mv (x := aS o_1) rfl) ?_
          refine .p rfl (D.fld O27_4 rfl rfl rfl) ?_
          refine .p rfl (D.ld1 T25 rfl rfl rfl) ?_
          refine .p rfl (D.mv (x := aI i) rfl) ?_
          obtain ⟨Kid, h_Kid, hh0⟩ := bs_ hh0
          refine .p rfl (D.idx E25 rfl rfl h_Kid (Json.c_eq _)) ?_
          refine .p rfl (D.ldpN T27 rfl rfl rfl) ?_
          obtain ⟨r, h_r, hh0⟩ := bs_ hh0
          refine .p rfl (D.call0 (ih_spec_l31Write _ _ h_r g) C21 rfl [] (.cons (.ag (.all rfl)) .nil) (.v (.c .fz))) ?_
          obtain ⟨s6, h_s6, hh0⟩ := bs_ hh0
          refine .p rfl (D.cat rfl rfl h_s6) ?_
          refine .p rfl (D.as (x := aS s6) rfl) ?_
          refine .nil ?_
          refine EW.region ?_
          refine .p rfl (D.mv (x := aI i) rfl) ?_
          refine .p rfl (D.add rfl rfl) ?_
          obtain ⟨i1, h_i1, hh0⟩ := bs_ hh0
          refine .p rfl (D.as (x := aI i1) (congrArg aI (sj_ h_i1))) ?_
          refine .nil ?_
          exact EWL.less [0] (ih_spec_l31Write_l1 _ _ _ _ hh0 _ _ _ hx) hf ⟨.c (.pt rfl rfl rfl), .c .fz, .c .fz, trivial⟩ ⟨rfl, .box (.all rfl), rfl⟩
    · refine EW.condF rfl rfl hb ?_
      obtain rfl := sj_ hh0
      exact EW.exitA [0] (fun _ h => hx _ h) hf ⟨.c (.pt rfl rfl rfl), .c .fz, trivial⟩ ⟨rfl, .box (.all rfl), rfl⟩


theorem spec_l31Write_ok {j : Json} {y : Str} (hh0 : spec_l31Write j = some y) (g : Nat → Nat) : Fn Tryd.prog 21 (stoF g []) [.ag [aI j.Kind, aB j.Flag, aS j.Text, aL 1 eS j.Names, aL 5 Json.c j.Kids]] (stoF g []) (aS y) := spec_l31Write_all.1 _ _ hh0 g

theorem spec_l31Num_l0_ok (v : Str) : ∀ (i : Int) (o : (Unit) ⊕ (Bool)), spec_l31Num_l0 v i = some o →
    ∀ (g : Nat → Nat) (C : Ctx Tryd.prog) (Q : Exit → St → Prop), (∀ v, o = .inl v → ∀ σ', At g [] (fun f => []) (fun f => []) σ' → Q (.exit 0) σ') → (∀ r, o = .inr r → ∀ σ', At g [] (fun f => [(2, aB r)]) (fun f => []) σ' → Q .ret σ') → ∀ σ, At g [] (fun f => [(0, aS v), (3, aI i)]) (fun f => []) σ → EWL C 50 (bAt Tryd.f49 [1, 1, 1, 0, 1, 0, 0]) σ Q := by
  refine spec_l31Num_l0.partial_correctness v (fun i o => ∀ (g : Nat → Nat) (C : Ctx Tryd.prog) (Q : Exit → St → Prop), (∀ v, o = .inl v → ∀ σ', At g [] (fun f => []) (fun f => []) σ' → Q (.exit 0) σ') → (∀ r, o = .inr r → ∀ σ', At g [] (fun f => [(2, aB r)]) (fun f => []) σ' → Q .ret σ') → ∀ σ, At g [] (fun f => [(0, aS v), (3, aI i)]) (fun f => []) σ → EWL C 50 (bAt Tryd.f49 [1, 1, 1, 0, 1, 0, 0]) σ Q) ?_
  intro self ih i o hh0
  intro g C Q hx hr σ hσ
  obtain ⟨f, hf, rfl⟩ := hσ
  refine EWL.round ?_
  refine EW.seq ?_
  refine EW.seq ?_
  refine EW.region ?_
  refine .p rfl (D.mv (x := aI i) rfl) ?_
  refine .p rfl (D.mv (x := aS v) rfl) ?_
  refine .p rfl (D.lenS S9 rfl) ?_
  refine .p rfl (D.lt rfl rfl) ?_
  refine .nil ?_
  rcases it hh0 with ⟨hb, hh0⟩ | ⟨hb, hh0⟩
  · refine EW.condT rfl rfl hb ?_
    refine EW.skip ?_
    refine EW.seq ?_
    refine EW.block ?_
    refine EW.seq ?_
    refine EW.region ?_
    refine .p rfl (D.mv (x := aS v) rfl) ?_
    refine .p rfl (D.mv (x := aI i) rfl) ?_
    obtain ⟨c2, h_c2, hh0⟩ := bs_ hh0
    refine .p rfl (D.idxS S9 rfl rfl h_c2) ?_
    refine .p rfl (D.lt rfl rfl) ?_
    refine .p rfl (D.mv (x := aB (decide ((c2.toNat : Int) < 48))) rfl) ?_
    refine .fork2 [48, 47, 46, 45] 49 (aB ((decide ((c2.toNat : Int) < 48)) || (decide (57 < (c2.toNat : Int))))) 5 (decide ((c2.toNat : Int) < 48)) (fun hb4 K k4 => ?_) (fun hb4 K k4 => ?_) ?_
    ·
      refine .gn rfl rfl rfl (nF hb4) ?_
      refine .gn rfl rfl rfl (nF hb4) ?_
      refine .gn rfl rfl rfl (nF hb4) ?_
      refine .gn rfl rfl rfl (nF hb4) ?_
      refine .p rfl (D.orT (c := (decide (57 < (c2.toNat : Int)))) rfl hb4 rfl) ?_
      exact .drp (.same (.drop (.drop (.drop (.drop .nil))))) k4
    ·
      refine .gy rfl rfl rfl hb4 rfl (D.mv (x := aS v) rfl) ?_
      refine .gy rfl rfl rfl hb4 rfl (D.mv (x := aI i) rfl) ?_
      refine .gy rfl rfl rfl hb4 rfl (D.idxS S9 rfl rfl h_c2) ?_
      refine .gy rfl rfl rfl hb4 rfl (D.gt rfl rfl) ?_
      refine .p rfl (D.orF rfl hb4 rfl) ?_
      exact .drp (.same (.drop (.drop (.drop (.drop .nil))))) k4
    refine .nil ?_
    rcases it hh0 with ⟨hb, hh0⟩ | ⟨hb, hh0⟩
    · refine EW.condT rfl rfl hb ?_
      refine EW.seq ?_
      refine EW.region ?_
      refine .p rfl (D.as (x := aB false) rfl) ?_
      refine .nil ?_
      obtain rfl := sj_ hh0
      exact EW.retA [] (fun _ h => hr _ rfl _ h) hf ⟨.c .fz, trivial⟩ rfl
    · refine EW.condF rfl rfl hb ?_
      refine EW.skip ?_
      refine EW.region ?_
      refine .p rfl (D.mv (x := aI i) rfl) ?_
      refine .p rfl (D.add rfl rfl) ?_
      obtain ⟨i1, h_i1, hh0⟩ := bs_ hh0
      refine .p rfl (D.as (x := aI i1) (congrArg aI (sj_ h_i1))) ?_
      refine .nil ?_
      exact EWL.less [] (ih _ _ hh0 _ _ _ hx hr) hf ⟨.c .fz, .c .fz, trivial⟩ rfl
  · refine EW.condF rfl rfl hb ?_
    obtain rfl := sj_ hh0
    exact EW.exitA [] (fun _ h => hx _ rfl _ h) hf trivial rfl

theorem spec_l31Num_ok {s : Str} {y : Bool} (hh0 : spec_l31Num s = some y) (g : Nat → Nat) : Fn Tryd.prog 49 (stoF g []) [aS s] (stoF g []) (aB y) := by
  refine Fn.of0 (hs := []) (kl := []) (L := (fun f => [(2, aB y)])) (O := (fun f => [])) Tryd.func49 rfl Tryd.ntmps49 rfl (fun f hf => ⟨.nil, .one (Nat.le_of_ble_eq_true rfl) (.tmp rfl) (.c .fz)⟩) rfl rfl (fun C => ?_)
  have hf : agree g [] g := agree_refl g _
  refine EW.seq ?_
  refine EW.region ?_
  refine .p rfl (D.as (x := aB false) rfl) ?_
  refine .nil ?_
  refine EW.seq ?_
  refine EW.seq ?_
  refine EW.region ?_
  refine .p rfl (D.mv (x := aS s) rfl) ?_
  refine .p rfl (D.lenS S9 rfl) ?_
  refine .p rfl (D.gt rfl rfl) ?_
  refine .p rfl (D.mv (x := aB (decide (0 < (s.length : Int)))) rfl) ?_
  obtain ⟨b, hh1, hh0⟩ := bs_ hh0
  refine .fork2 [10, 9, 8] 11 (aB b) 4 (decide (0 < (s.length : Int))) (fun hb3 K k3 => ?_) (fun hb3 K k3 => ?_) ?_
  ·
    replace hh1 := itT hh1 hb3
    refine .gy rfl rfl rfl hb3 rfl (D.mv (x := aS s) rfl) ?_
    obtain ⟨c, h_c, hh1⟩ := bs_ hh1
    refine .gy rfl rfl rfl hb3 rfl (D.idxS S9 rfl rfl h_c) ?_
    refine .gy rfl rfl rfl hb3 rfl (D.eqI rfl rfl) ?_
    obtain rfl := sj_ hh1
    refine .p rfl (D.pickT rfl hb3 rfl) ?_
    exact .drp (.same (.drop (.drop (.drop .nil)))) k3
  ·
    replace hh1 := itF hh1 hb3
    refine .gn rfl rfl rfl (nT hb3) ?_
    refine .gn rfl rfl rfl (nT hb3) ?_
    refine .gn rfl rfl rfl (nT hb3) ?_
    obtain rfl := sj_ hh1
    refine .p rfl (D.pickF rfl hb3 rfl) ?_
    exact .drp (.same (.drop (.drop (.drop .nil)))) k3
  refine .nil ?_
  obtain ⟨o_, hh1, hh0⟩ := bs_ hh0
  refine EW.bj (fun σ' => ∃ v, o_ = .inl v ∧ At g [] (fun f => [(0, aS v)]) (fun f => []) σ') ?_ ?_
  · rcases it hh1 with ⟨hb, hh1⟩ | ⟨hb, hh1⟩
    · refine EW.condT rfl rfl hb ?_
      refine EW.seq ?_
      refine EW.region ?_
      refine .p rfl (D.mv (x := aS s) rfl) ?_
      obtain ⟨s2, h_s2, hh1⟩ := bs_ hh1
      refine .p rfl (D.cutS S9 rfl (.inr ⟨_, _, rfl, rfl⟩) (.inl ⟨rfl, rfl⟩) h_s2) ?_
      refine .p rfl (D.as (x := aS s2) rfl) ?_
      refine .nil ?_
      refine EW.seq ?_
      refine EW.region ?_
      refine .p rfl (D.mv (x := aS s2) rfl) ?_
      refine .p rfl (D.eqS rfl rfl) ?_
      refine .nil ?_
      rcases it hh1 with ⟨hb, hh1⟩ | ⟨hb, hh1⟩
      · refine EW.condT rfl rfl hb ?_
        refine EW.seq ?_
        refine EW.region ?_
        refine .p rfl (D.as (x := aB false) rfl) ?_
        refine .nil ?_
        obtain rfl := sj_ hh1
        obtain rfl := sj_ hh0
        exact EW.retA [] (fun _ h => ⟨.inr rfl, h⟩) hf ⟨.c .fz, trivial⟩ rfl
      · refine EW.condF rfl rfl hb ?_
        obtain rfl := sj_ hh1
        exact EW.skipA [] (fun _ h => ⟨_, rfl, h⟩) hf ⟨.c .fz, trivial⟩ rfl
    · refine EW.condF rfl rfl hb ?_
      obtain rfl := sj_ hh1
      exact EW.skipA [] (fun _ h => ⟨_, rfl, h⟩) hf ⟨.c .fz, trivial⟩ rfl
  · rintro _ ⟨v, rfl, f, hf, rfl⟩
    refine EW.seq ?_
    refine EW.seq ?_
    refine EW.region ?_
    refine .p rfl (D.mv (x := aS v) rfl) ?_
    refine .p rfl (D.lenS S9 rfl) ?_
    refine .p rfl (D.lt rfl rfl) ?_
    refine .p rfl (D.mv (x := aB (decide ((v.length : Int) < 1))) rfl) ?_
    refine .fork2 [22, 21, 20] 23 (aB ((decide ((v.length : Int) < 1)) || (decide (7 < (v.length : Int))))) 4 (decide ((v.length : Int) < 1)) (fun hb3 K k3 => ?_) (fun hb3 K k3 => ?_) ?_
    ·
      refine .gn rfl rfl rfl (nF hb3) ?_
      refine .gn rfl rfl rfl (nF hb3) ?_
      refine .gn rfl rfl rfl (nF hb3) ?_
      refine .p rfl (D.orT (c := (decide (7 < (v.length : Int)))) rfl hb3 rfl) ?_
      exact .drp (.same (.drop (.drop (.drop .nil)))) k3
    ·
      refine .gy rfl rfl rfl hb3 rfl (D.mv (x := aS v) rfl) ?_
      refine .gy rfl rfl rfl hb3 rfl (D.lenS S9 rfl) ?_
      refine .gy rfl rfl rfl hb3 rfl (D.gt rfl rfl) ?_
      refine .p rfl (D.orF rfl hb3 rfl) ?_
      exact .drp (.same (.drop (.drop (.drop .nil)))) k3
    refine .p rfl (D.mv (x := aB ((decide ((v.length : Int) < 1)) || (decide (7 < (v.length : Int))))) rfl) ?_
    obtain ⟨b1, hh1, hh0⟩ := bs_ hh0
    refine .fork2 [32, 31, 30, 29, 28, 27, 26, 25] 33 (aB b1) 9 ((decide ((v.length : Int) < 1)) || (decide (7 < (v.length : Int)))) (fun hb8 K k8 => ?_) (fun hb8 K k8 => ?_) ?_
    ·
      replace hh1 := itT hh1 hb8
      refine .gn rfl rfl rfl (nF hb8) ?_
      refine .gn rfl rfl rfl (nF hb8) ?_
      refine .gn rfl rfl rfl (nF hb8) ?_
      refine .gn rfl rfl rfl (nF hb8) ?_
      refine .gu rfl rfl rfl ?_
      refine .gu rfl rfl rfl ?_
      refine .gu rfl rfl rfl ?_
      refine .gn rfl rfl rfl (nF hb8) ?_
      obtain rfl := sj_ hh1
      refine .p rfl (D.pickT rfl hb8 rfl) ?_
      exact .drp (.same (.drop (.drop (.drop (.drop (.drop (.drop (.drop (.drop .nil))))))))) k8
    ·
      replace hh1 := itF hh1 hb8
      refine .gy rfl rfl rfl hb8 rfl (D.mv (x := aS v) rfl) ?_
      refine .gy rfl rfl rfl hb8 rfl (D.lenS S9 rfl) ?_
      refine .gy rfl rfl rfl hb8 rfl (D.gt rfl rfl) ?_
      refine .gy rfl rfl rfl hb8 rfl (D.mv (x := aB (decide (1 < (v.length : Int)))) rfl) ?_
      obtain ⟨b2, hh2, hh1⟩ := bs_ hh1
      refine .fork2 [31, 30, 29] 32 (aB b2) 4 (decide (1 < (v.length : Int))) (fun hb12 K k12 => ?_) (fun hb12 K k12 => ?_) ?_
      ·
        replace hh2 := itT hh2 hb12
        refine .gy rfl rfl rfl hb12 rfl (D.mv (x := aS v) rfl) ?_
        obtain ⟨c1, h_c1, hh2⟩ := bs_ hh2
        refine .gy rfl rfl rfl hb12 rfl (D.idxS S9 rfl rfl h_c1) ?_
        refine .gy rfl rfl rfl hb12 rfl (D.eqI rfl rfl) ?_
        obtain rfl := sj_ hh2
        refine .gy rfl rfl rfl hb8 rfl (D.pickT rfl hb12 rfl) ?_
        exact .drp (.same (.drop (.drop (.drop .nil)))) k12
      ·
        replace hh2 := itF hh2 hb12
        refine .gn rfl rfl rfl (nT hb12) ?_
        refine .gn rfl rfl rfl (nT hb12) ?_
        refine .gn rfl rfl rfl (nT hb12) ?_
        obtain rfl := sj_ hh2
        refine .gy rfl rfl rfl hb8 rfl (D.pickF rfl hb12 rfl) ?_
        exact .drp (.same (.drop (.drop (.drop .nil)))) k12
      obtain rfl := sj_ hh1
      refine .p rfl (D.pickF rfl hb8 rfl) ?_
      exact .drp (.same (.drop (.drop (.drop (.drop (.drop (.drop (.drop (.drop .nil))))))))) k8
    refine .nil ?_
    rcases it hh0 with ⟨hb, hh0⟩ | ⟨hb, hh0⟩
    · refine EW.condT rfl rfl hb ?_
      refine EW.seq ?_
      refine EW.region ?_
      refine .p rfl (D.as (x := aB false) rfl) ?_
      refine .nil ?_
      obtain rfl := sj_ hh0
      exact EW.retA [] (fun _ h => ⟨.inr rfl, h⟩) hf ⟨.c .fz, trivial⟩ rfl
    · refine EW.condF rfl rfl hb ?_
      refine EW.skip ?_
      refine EW.seq ?_
      refine EW.seq ?_
      refine EW.region ?_
      refine .p rfl (D.as (x := aI 0) rfl) ?_
      refine .nil ?_
      obtain ⟨o_1, hl, hh0⟩ := bs_ hh0
      refine EW.bj (fun σ' => ∃ v1, o_1 = .inl v1 ∧ At g [] (fun f => []) (fun f => []) σ') (EW.block (EW.loop (EWL.less [] (spec_l31Num_l0_ok _ _ _ hl g C _ (fun _ e _ h => ⟨_, e, h⟩) ?_) hf ⟨.c .fz, .c .fz, trivial⟩ rfl))) ?_
      · rintro r1 rfl σ' h
        obtain rfl := sj_ hh0
        exact ⟨.inr rfl, h⟩
      rintro _ ⟨v1, rfl, f, hf, rfl⟩
      refine EW.seq ?_
      refine EW.region ?_
      refine .p rfl (D.as (x := aB true) rfl) ?_
      refine .nil ?_
      obtain rfl := sj_ hh0
      exact EW.retA [] (fun _ h => ⟨.inr rfl, h⟩) hf ⟨.c .fz, trivial⟩ rfl

theorem spec_l31Text_l0_ok (s : Str) : ∀ (i : Int) (o : (Unit) ⊕ (Bool)), spec_l31Text_l0 s i = some o →
    ∀ (g : Nat → Nat) (C : Ctx Tryd.prog) (Q : Exit → St → Prop), (∀ v, o = .inl v → ∀ σ', At g [] (fun f => []) (fun f => []) σ' → Q (.exit 0) σ') → (∀ r, o = .inr r → ∀ σ', At g [] (fun f => [(2, aB r)]) (fun f => []) σ' → Q .ret σ') → ∀ σ, At g [] (fun f => [(0, aS s), (3, aI i)]) (fun f => []) σ → EWL C 32 (bAt Tryd.f50 [1, 0, 1, 0, 0]) σ Q := by
  refine spec_l31Text_l0.partial_correctness s (fun i o => ∀ (g : Nat → Nat) (C : Ctx Tryd.prog) (Q : Exit → St → Prop), (∀ v, o = .inl v → ∀ σ', At g [] (fun f => []) (fun f => []) σ' → Q (.exit 0) σ') → (∀ r, o = .inr r → ∀ σ', At g [] (fun f => [(2, aB r)]) (fun f => []) σ' → Q .ret σ') → ∀ σ, At g [] (fun f => [(0, aS s), (3, aI i)]) (fun f => []) σ → EWL C 32 (bAt Tryd.f50 [1, 0, 1, 0, 0]) σ Q) ?_
  intro self ih i o hh0
  intro g C Q hx hr σ hσ
  obtain ⟨f, hf, rfl⟩ := hσ
  refine EWL.round ?_
  refine EW.seq ?_
  refine EW.seq ?_
  refine EW.region ?_
  refine .p rfl (D.mv (x := aI i) rfl) ?_
  refine .p rfl (D.mv (x := aS s) rfl) ?_
  refine .p rfl (D.lenS S9 rfl) ?_
  refine .p rfl (D.lt rfl rfl) ?_
  refine .nil ?_
  rcases it hh0 with ⟨hb, hh0⟩ | ⟨hb, hh0⟩
  · refine EW.condT rfl rfl hb ?_
    refine EW.skip ?_
    refine EW.seq ?_
    refine EW.block ?_
    refine EW.seq ?_
    refine EW.region ?_
    refine .p rfl (D.mv (x := aS s) rfl) ?_
    refine .p rfl (D.mv (x := aI i) rfl) ?_
    obtain ⟨c, h_c, hh0⟩ := bs_ hh0
    refine .p rfl (D.idxS S9 rfl rfl h_c) ?_
    refine .p rfl (D.lt rfl rfl) ?_
    refine .p rfl (D.mv (x := aB (decide ((c.toNat : Int) < 32))) rfl) ?_
    refine .fork2 [18, 17, 16, 15] 19 (aB ((decide ((c.toNat : Int) < 32)) || (decide (126 < (c.toNat : Int))))) 5 (decide ((c.toNat : Int) < 32)) (fun hb4 K k4 => ?_) (fun hb4 K k4 => ?_) ?_
    ·
      refine .gn rfl rfl rfl (nF hb4) ?_
      refine .gn rfl rfl rfl (nF hb4) ?_
      refine .gn rfl rfl rfl (nF hb4) ?_
      refine .gn rfl rfl rfl (nF hb4) ?_
      refine .p rfl (D.orT (c := (decide (126 < (c.toNat : Int)))) rfl hb4 rfl) ?_
      exact .drp (.same (.drop (.drop (.drop (.drop .nil))))) k4
    ·
      refine .gy rfl rfl rfl hb4 rfl (D.mv (x := aS s) rfl) ?_
      refine .gy rfl rfl rfl hb4 rfl (D.mv (x := aI i) rfl) ?_
      refine .gy rfl rfl rfl hb4 rfl (D.idxS S9 rfl rfl h_c) ?_
      refine .gy rfl rfl rfl hb4 rfl (D.gt rfl rfl) ?_
      refine .p rfl (D.orF rfl hb4 rfl) ?_
      exact .drp (.same (.drop (.drop (.drop (.drop .nil))))) k4
    refine .p rfl (D.mv (x := aB ((decide ((c.toNat : Int) < 32)) || (decide (126 < (c.toNat : Int))))) rfl) ?_
    refine .fork2 [24, 23, 22, 21] 25 (aB (((decide ((c.toNat : Int) < 32)) || (decide (126 < (c.toNat : Int)))) || ((c.toNat : Int) == 34))) 5 ((decide ((c.toNat : Int) < 32)) || (decide (126 < (c.toNat : Int)))) (fun hb10 K k10 => ?_) (fun hb10 K k10 => ?_) ?_
    ·
      refine .gn rfl rfl rfl (nF hb10) ?_
      refine .gn rfl rfl rfl (nF hb10) ?_
      refine .gn rfl rfl rfl (nF hb10) ?_
      refine .gn rfl rfl rfl (nF hb10) ?_
      refine .p rfl (D.orT (c := ((c.toNat : Int) == 34)) rfl hb10 rfl) ?_
      exact .drp (.same (.drop (.drop (.drop (.drop .nil))))) k10
    ·
      refine .gy rfl rfl rfl hb10 rfl (D.mv (x := aS s) rfl) ?_
      refine .gy rfl rfl rfl hb10 rfl (D.mv (x := aI i) rfl) ?_
      refine .gy rfl rfl rfl hb10 rfl (D.idxS S9 rfl rfl h_c) ?_
      refine .gy rfl rfl rfl hb10 rfl (D.eqI rfl rfl) ?_
      refine .p rfl (D.orF rfl hb10 rfl) ?_
      exact .drp (.same (.drop (.drop (.drop (.drop .nil))))) k10
    refine .p rfl (D.mv (x := aB (((decide ((c.toNat : Int) < 32)) || (decide (126 < (c.toNat : Int)))) || ((c.toNat : Int) == 34))) rfl) ?_
    refine .fork2 [30, 29, 28, 27] 31 (aB ((((decide ((c.toNat : Int) < 32)) || (decide (126 < (c.toNat : Int)))) || ((c.toNat : Int) == 34)) || ((c.toNat : Int) == 92))) 5 (((decide ((c.toNat : Int) < 32)) || (decide (126 < (c.toNat : Int)))) || ((c.toNat : Int) == 34)) (fun hb16 K k16 => ?_) (fun hb16 K k16 => ?_) ?_
    ·
      refine .gn rfl rfl rfl (nF hb16) ?_
      refine .gn rfl rfl rfl (nF hb16) ?_
      refine .gn rfl rfl rfl (nF hb16) ?_
      refine .gn rfl rfl rfl (nF hb16) ?_
      refine .p rfl (D.orT (c := ((c.toNat : Int) == 92)) rfl hb16 rfl) ?_
      exact .drp (.same (.drop (.drop (.drop (.drop .nil))))) k16
    ·
      refine .gy rfl rfl rfl hb16 rfl (D.mv (x := aS s) rfl) ?_
      refine .gy rfl rfl rfl hb16 rfl (D.mv (x := aI i) rfl) ?_
      refine .gy rfl rfl rfl hb16 rfl (D.idxS S9 rfl rfl h_c) ?_
      refine .gy rfl rfl rfl hb16 rfl (D.eqI rfl rfl) ?_
      refine .p rfl (D.orF rfl hb16 rfl) ?_
      exact .drp (.same (.drop (.drop (.drop (.drop .nil))))) k16
    refine .nil ?_
    rcases it hh0 with ⟨hb, hh0⟩ | ⟨hb, hh0⟩
    · refine EW.condT rfl rfl hb ?_
      refine EW.seq ?_
      refine EW.region ?_
      refine .p rfl (D.as (x := aB false) rfl) ?_
      refine .nil ?_
      obtain rfl := sj_ hh0
      exact EW.retA [] (fun _ h => hr _ rfl _ h) hf ⟨.c .fz, trivial⟩ rfl
    · refine EW.condF rfl rfl hb ?_
      refine EW.skip ?_
      refine EW.region ?_
      refine .p rfl (D.mv (x := aI i) rfl) ?_
      refine .p rfl (D.add rfl rfl) ?_
      obtain ⟨i1, h_i1, hh0⟩ := bs_ hh0
      refine .p rfl (D.as (x := aI i1) (congrArg aI (sj_ h_i1))) ?_
      refine .nil ?_
      exact EWL.less [] (ih _ _ hh0 _ _ _ hx hr) hf ⟨.c .fz, .c .fz, trivial⟩ rfl
  · refine EW.condF rfl rfl hb ?_
    obtain rfl := sj_ hh0
    exact EW.exitA [] (fun _ h => hx _ rfl _ h) hf trivial rfl

theorem spec_l31Text_ok {s : Str} {y : Bool} (hh0 : spec_l31Text s = some y) (g : Nat → Nat) : Fn Tryd.prog 50 (stoF g []) [aS s] (stoF g []) (aB y) := by
  refine Fn.of0 (hs := []) (kl := []) (L := (fun f => [(2, aB y)])) (O := (fun f => [])) Tryd.func50 rfl Tryd.ntmps50 rfl (fun f hf => ⟨.nil, .one (Nat.le_of_ble_eq_true rfl) (.tmp rfl) (.c .fz)⟩) rfl rfl (fun C => ?_)
  have hf : agree g [] g := agree_refl g _
  refine EW.seq ?_
  refine EW.region ?_
  refine .p rfl (D.as (x := aB false) rfl) ?_
  refine .nil ?_
  refine EW.seq ?_
  refine EW.seq ?_
  refine EW.region ?_
  refine .p rfl (D.as (x := aI 0) rfl) ?_
  refine .nil ?_
  obtain ⟨o_, hl, hh0⟩ := bs_ hh0
  refine EW.bj (fun σ' => ∃ v, o_ = .inl v ∧ At g [] (fun f => []) (fun f => []) σ') (EW.block (EW.loop (EWL.less [] (spec_l31Text_l0_ok _ _ _ hl g C _ (fun _ e _ h => ⟨_, e, h⟩) ?_) hf ⟨.c .fz, .c .fz, trivial⟩ rfl))) ?_
  · rintro r rfl σ' h
    obtain rfl := sj_ hh0
    exact ⟨.inr rfl, h⟩
  rintro _ ⟨v, rfl, f, hf, rfl⟩
  refine EW.seq ?_
  refine EW.region ?_
  refine .p rfl (D.as (x := aB true) rfl) ?_
  refine .nil ?_
  obtain rfl := sj_ hh0
  exact EW.retA [] (fun _ h => ⟨.inr rfl, h⟩) hf ⟨.c .fz, trivial⟩ rfl

theorem spec_l2Name_l0_ok (s : Str) : ∀ (i : Int) (o : (Unit) ⊕ (Bool)), spec_l2Name_l0 s i = some o →
    ∀ (g : Nat → Nat) (C : Ctx Tryd.prog) (Q : Exit → St → Prop), (∀ v, o = .inl v → ∀ σ', At g [] (fun f => []) (fun f => []) σ' → Q (.exit 0) σ') → (∀ r, o = .inr r → ∀ σ', At g [] (fun f => [(2, aB r)]) (fun f => []) σ' → Q .ret σ') → ∀ σ, At g [] (fun f => [(0, aS s), (3, aI i)]) (fun f => []) σ → EWL C 28 (bAt Tryd.f65 [1, 1, 0, 1, 0, 0]) σ Q := by
  refine spec_l2Name_l0.partial_correctness s (fun i o => ∀ (g : Nat → Nat) (C : Ctx Tryd.prog) (Q : Exit → St → Prop), (∀ v, o = .inl v → ∀ σ', At g [] (fun f => []) (fun f => []) σ' → Q (.exit 0) σ') → (∀ r, o = .inr r → ∀ σ', At g [] (fun f => [(2, aB r)]) (fun f => []) σ' → Q .ret σ') → ∀ σ, At g [] (fun f => [(0, aS s), (3, aI i)]) (fun f => []) σ → EWL C 28 (bAt Tryd.f65 [1, 1, 0, 1, 0, 0]) σ Q) ?_
  intro self ih i o hh0
  intro g C Q hx hr σ hσ
  obtain ⟨f, hf, rfl⟩ := hσ
  refine EWL.round ?_
  refine EW.seq ?_
  refine EW.seq ?_
  refine EW.region ?_
  refine .p rfl (D.mv (x := aI i) rfl) ?_
  refine .p rfl (D.mv (x := aS s) rfl) ?_
  refine .p rfl (D.lenS S9 rfl) ?_
  refine .p rfl (D.lt rfl rfl) ?_
  refine .nil ?_
  rcases it hh0 with ⟨hb, hh0⟩ | ⟨hb, hh0⟩
  · refine EW.condT rfl rfl hb ?_
    refine EW.skip ?_
    refine EW.seq ?_
    refine EW.block ?_
    refine EW.seq ?_
    refine EW.region ?_
    refine .p rfl (D.mv (x := aS s) rfl) ?_
    refine .p rfl (D.mv (x := aI i) rfl) ?_
    obtain ⟨c, h_c, hh0⟩ := bs_ hh0
    refine .p rfl (D.idxS S9 rfl rfl h_c) ?_
    refine .p rfl (D.lt rfl rfl) ?_
    refine .p rfl (D.mv (x := aB (decide ((c.toNat : Int) < 97))) rfl) ?_
    refine .fork2 [26, 25, 24, 23] 27 (aB ((decide ((c.toNat : Int) < 97)) || (decide (122 < (c.toNat : Int))))) 5 (decide ((c.toNat : Int) < 97)) (fun hb4 K k4 => ?_) (fun hb4 K k4 => ?_) ?_
    ·
      refine .gn rfl rfl rfl (nF hb4) ?_
      refine .gn rfl rfl rfl (nF hb4) ?_
      refine .gn rfl rfl rfl (nF hb4) ?_
      refine .gn rfl rfl rfl (nF hb4) ?_
      refine .p rfl (D.orT (c := (decide (122 < (c.toNat : Int)))) rfl hb4 rfl) ?_
      exact .drp (.same (.drop (.drop (.drop (.drop .nil))))) k4
    ·
      refine .gy rfl rfl rfl hb4 rfl (D.mv (x := aS s) rfl) ?_
      refine .gy rfl rfl rfl hb4 rfl (D.mv (x := aI i) rfl) ?_
      refine .gy rfl rfl rfl hb4 rfl (D.idxS S9 rfl rfl h_c) ?_
      refine .gy rfl rfl rfl hb4 rfl (D.gt rfl rfl) ?_
      refine .p rfl (D.orF rfl hb4 rfl) ?_
      exact .drp (.same (.drop (.drop (.drop (.drop .nil))))) k4
    refine .nil ?_
    rcases it hh0 with ⟨hb, hh0⟩ | ⟨hb, hh0⟩
    · refine EW.condT rfl rfl hb ?_
      refine EW.seq ?_
      refine EW.region ?_
      refine .p rfl (D.as (x := aB false) rfl) ?_
      refine .nil ?_
      obtain rfl := sj_ hh0
      exact EW.retA [] (fun _ h => hr _ rfl _ h) hf ⟨.c .fz, trivial⟩ rfl
    · refine EW.condF rfl rfl hb ?_
      refine EW.skip ?_
      refine EW.region ?_
      refine .p rfl (D.mv (x := aI i) rfl) ?_
      refine .p rfl (D.add rfl rfl) ?_
      obtain ⟨i1, h_i1, hh0⟩ := bs_ hh0
      refine .p rfl (D.as (x := aI i1) (congrArg aI (sj_ h_i1))) ?_
      refine .nil ?_
      exact EWL.less [] (ih _ _ hh0 _ _ _ hx hr) hf ⟨.c .fz, .c .fz, trivial⟩ rfl
  · refine EW.condF rfl rfl hb ?_
    obtain rfl := sj_ hh0
    exact EW.exitA [] (fun _ h => hx _ rfl _ h) hf trivial rfl

theorem spec_l2Name_ok {s : Str} {y : Bool} (hh0 : spec_l2Name s = some y) (g : Nat → Nat) : Fn Tryd.prog 65 (stoF g []) [aS s] (stoF g []) (aB y) := by
  refine Fn.of0 (hs := []) (kl := []) (L := (fun f => [(2, aB y)])) (O := (fun f => [])) Tryd.func65 rfl Tryd.ntmps65 rfl (fun f hf => ⟨.nil, .one (Nat.le_of_ble_eq_true rfl) (.tmp rfl) (.c .fz)⟩) rfl rfl (fun C => ?_)
  have hf : agree g [] g := agree_refl g _
  refine EW.seq ?_
  refine EW.region ?_
  refine .p rfl (D.as (x := aB false) rfl) ?_
  refine .nil ?_
  refine EW.seq ?_
  refine EW.seq ?_
  refine EW.region ?_
  refine .p rfl (D.mv (x := aS s) rfl) ?_
  refine .p rfl (D.lenS S9 rfl) ?_
  refine .p rfl (D.lt rfl rfl) ?_
  refine .p rfl (D.mv (x := aB (decide ((s.length : Int) < 1))) rfl) ?_
  refine .fork2 [10, 9, 8] 11 (aB ((decide ((s.length : Int) < 1)) || (decide (8 < (s.length : Int))))) 4 (decide ((s.length : Int) < 1)) (fun hb3 K k3 => ?_) (fun hb3 K k3 => ?_) ?_
  ·
    refine .gn rfl rfl rfl (nF hb3) ?_
    refine .gn rfl rfl rfl (nF hb3) ?_
    refine .gn rfl rfl rfl (nF hb3) ?_
    refine .p rfl (D.orT (c := (decide (8 < (s.length : Int)))) rfl hb3 rfl) ?_
    exact .drp (.same (.drop (.drop (.drop .nil)))) k3
  ·
    refine .gy rfl rfl rfl hb3 rfl (D.mv (x := aS s) rfl) ?_
    refine .gy rfl rfl rfl hb3 rfl (D.lenS S9 rfl) ?_
    refine .gy rfl rfl rfl hb3 rfl (D.gt rfl rfl) ?_
    refine .p rfl (D.orF rfl hb3 rfl) ?_
    exact .drp (.same (.drop (.drop (.drop .nil)))) k3
  refine .nil ?_
  rcases it hh0 with ⟨hb, hh0⟩ | ⟨hb, hh0⟩
  · refine EW.condT rfl rfl hb ?_
    refine EW.seq ?_
    refine EW.region ?_
    refine .p rfl (D.as (x := aB false) rfl) ?_
    refine .nil ?_
    obtain rfl := sj_ hh0
    exact EW.retA [] (fun _ h => ⟨.inr rfl, h⟩) hf ⟨.c .fz, trivial⟩ rfl
  · refine EW.condF rfl rfl hb ?_
    refine EW.skip ?_
    refine EW.seq ?_
    refine EW.seq ?_
    refine EW.region ?_
    refine .p rfl (D.as (x := aI 0) rfl) ?_
    refine .nil ?_
    obtain ⟨o_, hl, hh0⟩ := bs_ hh0
    refine EW.bj (fun σ' => ∃ v, o_ = .inl v ∧ At g [] (fun f => []) (fun f => []) σ') (EW.block (EW.loop (EWL.less [] (spec_l2Name_l0_ok _ _ _ hl g C _ (fun _ e _ h => ⟨_, e, h⟩) ?_) hf ⟨.c .fz, .c .fz, trivial⟩ rfl))) ?_
    · rintro r rfl σ' h
      obtain rfl := sj_ hh0
      exact ⟨.inr rfl, h⟩
    rintro _ ⟨v, rfl, f, hf, rfl⟩
    refine EW.seq ?_
    refine EW.region ?_
    refine .p rfl (D.as (x := aB true) rfl) ?_
    refine .nil ?_
    obtain rfl := sj_ hh0
    exact EW.retA [] (fun _ h => ⟨.inr rfl, h⟩) hf ⟨.c .fz, trivial⟩ rfl

theorem spec_l31Names_l2_ok (list : (List Str)) (i : Int) : ∀ (k_ : Int) (o : (Unit) ⊕ (Bool)), spec_l31Names_l2 list i k_ = some o →
    ∀ (g : Nat → Nat) (C : Ctx Tryd.prog) (Q : Exit → St → Prop), (∀ v, o = .inl v → ∀ σ', At g [] (fun f => [(0, aL 1 eS list), (3, aI i)]) (fun f => []) σ' → Q (.exit 2) σ') → (∀ r, o = .inr r → ∀ σ', At g [] (fun f => [(2, aB r)]) (fun f => []) σ' → Q .ret σ') → ∀ σ, At g [] (fun f => [(0, aL 1 eS list), (3, aI i), (4, aI k_)]) (fun f => []) σ → EWL C 31 (bAt Tryd.f51 [1, 0, 1, 0, 0, 1, 0, 0, 1, 1, 0, 0]) σ Q := by
  refine spec_l31Names_l2.partial_correctness list i (fun k_ o => ∀ (g : Nat → Nat) (C : Ctx Tryd.prog) (Q : Exit → St → Prop), (∀ v, o = .inl v → ∀ σ', At g [] (fun f => [(0, aL 1 eS list), (3, aI i)]) (fun f => []) σ' → Q (.exit 2) σ') → (∀ r, o = .inr r → ∀ σ', At g [] (fun f => [(2, aB r)]) (fun f => []) σ' → Q .ret σ') → ∀ σ, At g [] (fun f => [(0, aL 1 eS list), (3, aI i), (4, aI k_)]) (fun f => []) σ → EWL C 31 (bAt Tryd.f51 [1, 0, 1, 0, 0, 1, 0, 0, 1, 1, 0, 0]) σ Q) ?_
  intro self ih k_ o hh0
  intro g C Q hx hr σ hσ
  obtain ⟨f, hf, rfl⟩ := hσ
  refine EWL.round ?_
  refine EW.seq ?_
  refine EW.seq ?_
  refine EW.region ?_
  refine .p rfl (D.mv (x := aI k_) rfl) ?_
  refine .p rfl (D.mv (x := aI i) rfl) ?_
  refine .p rfl (D.lt rfl rfl) ?_
  refine .nil ?_
  rcases it hh0 with ⟨hb, hh0⟩ | ⟨hb, hh0⟩
  · refine EW.condT rfl rfl hb ?_
    refine EW.skip ?_
    refine EW.seq ?_
    refine EW.block ?_
    refine EW.seq ?_
    refine EW.drawU MX ?_
    refine .p rfl (D.mv (x := aL 1 eS list) rfl) ?_
    refine .p rfl (D.mv (x := aI k_) rfl) ?_
    obtain ⟨e1, h_e1, hh0⟩ := bs_ hh0
    refine .p rfl (D.idx E24 rfl rfl h_e1 rfl) ?_
    refine .p rfl (D.ldp1 T9 rfl rfl) ?_
    refine .p rfl (D.mv (x := aL 1 eS list) rfl) ?_
    refine .p rfl (D.mv (x := aI i) rfl) ?_
    obtain ⟨e2, h_e2, hh0⟩ := bs_ hh0
    refine .p rfl (D.idx E24 rfl rfl h_e2 rfl) ?_
    refine .p rfl (D.ldp1 T9 rfl rfl) ?_
    refine .p rfl (D.eqS rfl rfl) ?_
    refine .nil (M := [0, 0, 3, 7, 0, 0, 48, 112, 255]) (by kernel_rfl) (Up.of ?_)
    rcases it hh0 with ⟨hb, hh0⟩ | ⟨hb, hh0⟩
    · refine EW.condT rfl rfl hb ?_
      refine EW.seq ?_
      refine EW.region ?_
      refine .p rfl (D.as (x := aB false) rfl) ?_
      refine .nil ?_
      obtain rfl := sj_ hh0
      exact EW.retA [] (fun _ h => hr _ rfl _ h) hf ⟨.c .fz, trivial⟩ rfl
    · refine EW.condF rfl rfl hb ?_
      refine EW.skip ?_
      refine EW.region ?_
      refine .p rfl (D.mv (x := aI k_) rfl) ?_
      refine .p rfl (D.add rfl rfl) ?_
      obtain ⟨k_1, h_k_1, hh0⟩ := bs_ hh0
      refine .p rfl (D.as (x := aI k_1) (congrArg aI (sj_ h_k_1))) ?_
      refine .nil ?_
      exact EWL.less [] (ih _ _ hh0 _ _ _ hx hr) hf ⟨.c .fz, .c .fz, .c .fz, trivial⟩ rfl
  · refine EW.condF rfl rfl hb ?_
    obtain rfl := sj_ hh0
    exact EW.exitA [] (fun _ h => hx _ rfl _ h) hf ⟨.c .fz, .c .fz, trivial⟩ rfl

theorem spec_l31Names_l0_ok (list : (List Str)) : ∀ (i : Int) (o : (Unit) ⊕ (Bool)), spec_l31Names_l0 list i = some o →
    ∀ (g : Nat → Nat) (C : Ctx Tryd.prog) (Q : Exit → St → Prop), (∀ v, o = .inl v → ∀ σ', At g [] (fun f => []) (fun f => []) σ' → Q (.exit 0) σ') → (∀ r, o = .inr r → ∀ σ', At g [] (fun f => [(2, aB r)]) (fun f => []) σ' → Q .ret σ') → ∀ σ, At g [] (fun f => [(0, aL 1 eS list), (3, aI i)]) (fun f => []) σ → EWL C 31 (bAt Tryd.f51 [1, 0, 1, 0, 0]) σ Q := by
  refine spec_l31Names_l0.partial_correctness list (fun i o => ∀ (g : Nat → Nat) (C : Ctx Tryd.prog) (Q : Exit → St → Prop), (∀ v, o = .inl v → ∀ σ', At g [] (fun f => []) (fun f => []) σ' → Q (.exit 0) σ') → (∀ r, o = .inr r → ∀ σ', At g [] (fun f => [(2, aB r)]) (fun f => []) σ' → Q .ret σ') → ∀ σ, At g [] (fun f => [(0, aL 1 eS list), (3, aI i)]) (fun f => []) σ → EWL C 31 (bAt Tryd.f51 [1, 0, 1, 0, 0]) σ Q) ?_
  intro self ih i o hh0
  intro g C Q hx hr σ hσ
  obtain ⟨f, hf, rfl⟩ := hσ
  refine EWL.round ?_
  refine EW.seq ?_
  refine EW.seq ?_
  refine EW.region ?_
  refine .p rfl (D.mv (x := aI i) rfl) ?_
  refine .p rfl (D.mv (x := aL 1 eS list) rfl) ?_
  refine .klen 6 rfl rfl fun hl => ?_
  refine .p rfl (D.len E24 rfl) ?_
  refine .p rfl (D.lt rfl rfl) ?_
  refine .nil ?_
  rcases it hh0 with ⟨hb, hh0⟩ | ⟨hb, hh0⟩
  · refine EW.condT rfl rfl hb ?_
    refine EW.skip ?_
    refine EW.seq ?_
    refine EW.block ?_
    refine EW.seq ?_
    refine EW.seq ?_
    refine EW.region ?_
    refine .p rfl (D.mv (x := aL 1 eS list) rfl) ?_
    refine .p rfl (D.mv (x := aI i) rfl) ?_
    obtain ⟨e, h_e, hh0⟩ := bs_ hh0
    refine .p rfl (D.idx E24 rfl rfl h_e rfl) ?_
    refine .p rfl (D.ldp1 T9 rfl rfl) ?_
    obtain ⟨r, h_r, hh0⟩ := bs_ hh0
    refine .p rfl (D.call0 (spec_l2Name_ok h_r g) C65 rfl [] (.cons (.c .fz) .nil) (.v (.c .fz))) ?_
    refine .p rfl (D.not rfl) ?_
    refine .nil ?_
    rcases it hh0 with ⟨hb, hh0⟩ | ⟨hb, hh0⟩
    · refine EW.condT rfl rfl hb ?_
      refine EW.seq ?_
      refine EW.region ?_
      refine .p rfl (D.as (x := aB false) rfl) ?_
      refine .nil ?_
      obtain rfl := sj_ hh0
      exact EW.retA [] (fun _ h => hr _ rfl _ h) hf ⟨.c .fz, trivial⟩ rfl
    · refine EW.condF rfl rfl hb ?_
      refine EW.skip ?_
      refine EW.seq ?_
      refine EW.region ?_
      refine .p rfl (D.as (x := aI 0) rfl) ?_
      refine .nil ?_
      obtain ⟨o_, hl, hh0⟩ := bs_ hh0
      refine EW.bj (fun σ' => ∃ v, o_ = .inl v ∧ At g [] (fun f => [(0, aL 1 eS list), (3, aI i)]) (fun f => []) σ') (EW.block (EW.loop (EWL.less [] (spec_l31Names_l2_ok _ _ _ _ hl g C _ (fun _ e _ h => ⟨_, e, h⟩) ?_) hf ⟨.c .fz, .c .fz, .c .fz, trivial⟩ rfl))) ?_
      · rintro r1 rfl σ' h
        obtain rfl := sj_ hh0
        exact hr _ rfl _ h
      rintro _ ⟨v, rfl, f, hf, rfl⟩
      refine EW.region ?_
      refine .p rfl (D.mv (x := aI i) rfl) ?_
      refine .p rfl (D.add rfl rfl) ?_
      obtain ⟨i1, h_i1, hh0⟩ := bs_ hh0
      refine .p rfl (D.as (x := aI i1) (congrArg aI (sj_ h_i1))) ?_
      refine .nil ?_
      exact EWL.less [] (ih _ _ hh0 _ _ _ hx hr) hf ⟨.c .fz, .c .fz, trivial⟩ rfl
  · refine EW.condF rfl rfl hb ?_
    obtain rfl := sj_ hh0
    exact EW.exitA [] (fun _ h => hx _ rfl _ h) hf trivial rfl

theorem spec_l31Names_ok {list : (List Str)} {y : Bool} (hh0 : spec_l31Names list = some y) (g : Nat → Nat) : Fn Tryd.prog 51 (stoF g []) [aL 1 eS list] (stoF g []) (aB y) := by
  refine Fn.of0 (hs := []) (kl := []) (L := (fun f => [(2, aB y)])) (O := (fun f => [])) Tryd.func51 rfl Tryd.ntmps51 rfl (fun f hf => ⟨.nil, .one (Nat.le_of_ble_eq_true rfl) (.tmp rfl) (.c .fz)⟩) rfl rfl (fun C => ?_)
  have hf : agree g [] g := agree_refl g _
  refine EW.seq ?_
  refine EW.region ?_
  refine .p rfl (D.as (x := aB false) rfl) ?_
  refine .nil ?_
  refine EW.seq ?_
  refine EW.seq ?_
  refine EW.region ?_
  refine .p rfl (D.as (x := aI 0) rfl) ?_
  refine .nil ?_
  obtain ⟨o_1, hl, hh0⟩ := bs_ hh0
  refine EW.bj (fun σ' => ∃ v1, o_1 = .inl v1 ∧ At g [] (fun f => []) (fun f => []) σ') (EW.block (EW.loop (EWL.less [] (spec_l31Names_l0_ok _ _ _ hl g C _ (fun _ e _ h => ⟨_, e, h⟩) ?_) hf ⟨.c .fz, .c .fz, trivial⟩ rfl))) ?_
  · rintro r2 rfl σ' h
    obtain rfl := sj_ hh0
    exact ⟨.inr rfl, h⟩
  rintro _ ⟨v1, rfl, f, hf, rfl⟩
  refine EW.seq ?_
  refine EW.region ?_
  refine .p rfl (D.as (x := aB true) rfl) ?_
  refine .nil ?_
  obtain rfl := sj_ hh0
  exact EW.retA [] (fun _ h => ⟨.inr rfl, h⟩) hf ⟨.c .fz, trivial⟩ rfl

theorem spec_l31Deep_all : (∀ (j : Json) (deep : Int) (y : Bool), spec_l31Deep j deep = some y → ∀ g : Nat → Nat, Fn Tryd.prog 36 (stoF g []) [.ag [aI j.Kind, aB j.Flag, aS j.Text, aL 1 eS j.Names, aL 5 Json.c j.Kids], aI deep] (stoF g []) (aB y))
   ∧ (∀ (j : Json) (deep : Int) (i : Int) (o : (Unit) ⊕ (Bool)), spec_l31Deep_l0 j deep i = some o → ∀ (g : Nat → Nat) (C : Ctx Tryd.prog) (Q : Exit → St → Prop), (∀ v, o = .inl v → ∀ σ', At g [] (fun f => [(2, .pt 0 (f 0) 0)]) (fun f => [(0, .box 27 [aI j.Kind, aB j.Flag, aS j.Text, aL 1 eS j.Names, aL 5 Json.c j.Kids])]) σ' → Q (.exit 0) σ') → (∀ r, o = .inr r → ∀ σ', At g [] (fun f => [(4, aB r)]) (fun f => []) σ' → Q .ret σ') → ∀ σ, At g [] (fun f => [(1, aI deep), (2, .pt 0 (f 0) 0), (5, aI i)]) (fun f => [(0, .box 27 [aI j.Kind, aB j.Flag, aS j.Text, aL 1 eS j.Names, aL 5 Json.c j.Kids])]) σ → EWL C 110 (bAt Tryd.f36 [1, 1, 1, 0, 1, 0, 0]) σ Q) := by
  refine spec_l31Deep.mpc (fun j deep y => ∀ g : Nat → Nat, Fn Tryd.prog 36 (stoF g []) [.ag [aI j.Kind, aB j.Flag, aS j.Text, aL 1 eS j.Names, aL 5 Json.c j.Kids], aI deep] (stoF g []) (aB y))
    (fun j deep i o => ∀ (g : Nat → Nat) (C : Ctx Tryd.prog) (Q : Exit → St → Prop), (∀ v, o = .inl v → ∀ σ', At g [] (fun f => [(2, .pt 0 (f 0) 0)]) (fun f => [(0, .box 27 [aI j.Kind, aB j.Flag, aS j.Text, aL 1 eS j.Names, aL 5 Json.c j.Kids])]) σ' → Q (.exit 0) σ') → (∀ r, o = .inr r → ∀ σ', At g [] (fun f => [(4, aB r)]) (fun f => []) σ' → Q .ret σ') → ∀ σ, At g [] (fun f => [(1, aI deep), (2, .pt 0 (f 0) 0), (5, aI i)]) (fun f => [(0, .box 27 [aI j.Kind, aB j.Flag, aS j.Text, aL 1 eS j.Names, aL 5 Json.c j.Kids])]) σ → EWL C 110 (bAt Tryd.f36 [1, 1, 1, 0, 1, 0, 0]) σ Q) ?_ ?_
  · intro sf_spec_l31Deep_l0 ih_spec_l31Deep_l0 j deep y hh0
    intro g
    refine Fn.of0 (hs := []) (kl := []) (L := (fun f => [(4, aB y)])) (O := (fun f => [])) Tryd.func36 rfl Tryd.ntmps36 rfl (fun f hf => ⟨.nil, .one (Nat.le_of_ble_eq_true rfl) (.tmp rfl) (.c .fz)⟩) rfl rfl (fun C => ?_)
    have hf : agree g [] g := agree_refl g _
    refine EW.seq ?_
    refine EW.region ?_
    refine .w rfl (D.box 0 rfl rfl) ?_
    refine .p rfl (D.as (x := aB false) rfl) ?_
    refine .nil ?_
    refine EW.seq ?_
    refine EW.seq ?_
    refine EW.region ?_
    refine .p rfl (D.mv (x := aI deep) rfl) ?_
    refine .p rfl (D.lt rfl rfl) ?_
    refine .p rfl (D.mv (x := aB (decide (deep < 1))) rfl) ?_
    refine .fork2 [15, 14, 13, 12, 11, 10, 9] 16 (aB ((decide (deep < 1)) || (j.Flag && (j.Kind != 2)))) 8 (decide (deep < 1)) (fun hb2 K k2 => ?_) (fun hb2 K k2 => ?_) ?_
    ·
      refine .gn rfl rfl rfl (nF hb2) ?_
      refine .gn rfl rfl rfl (nF hb2) ?_
      refine .gn rfl rfl rfl (nF hb2) ?_
      refine .gu rfl rfl rfl ?_
      refine .gu rfl rfl rfl ?_
      refine .gu rfl rfl rfl ?_
      refine .gn rfl rfl rfl (nF hb2) ?_
      refine .p rfl (D.orT (c := (j.Flag && (j.Kind != 2))) rfl hb2 rfl) ?_
      exact .drp (.same (.drop (.drop (.drop (.drop (.drop (.drop (.drop .nil)))))))) k2
    ·
      refine .gy rfl rfl rfl hb2 rfl (D.fld O27_1 rfl rfl rfl) ?_
      refine .gy rfl rfl rfl hb2 rfl (D.ld1 T4 rfl rfl rfl) ?_
      refine .gy rfl rfl rfl hb2 rfl (D.mv (x := aB j.Flag) rfl) ?_
      refine .fork2 [14, 13, 12] 15 (aB (j.Flag && (j.Kind != 2))) 4 j.Flag (fun hb5 K k5 => ?_) (fun hb5 K k5 => ?_) ?_
      ·
        refine .gy rfl rfl rfl hb5 rfl (D.fld O27_0 rfl rfl rfl) ?_
        refine .gy rfl rfl rfl hb5 rfl (D.ld1 T3 rfl rfl rfl) ?_
        refine .gy rfl rfl rfl hb5 rfl (D.neI rfl rfl) ?_
        refine .gy rfl rfl rfl hb2 rfl (D.andT rfl hb5 rfl) ?_
        exact .drp (.same (.drop (.drop (.drop .nil)))) k5
      ·
        refine .gn rfl rfl rfl (nT hb5) ?_
        refine .gn rfl rfl rfl (nT hb5) ?_
        refine .gn rfl rfl rfl (nT hb5) ?_
        refine .gy rfl rfl rfl hb2 rfl (D.andF (c := (j.Kind != 2)) rfl hb5 rfl) ?_
        exact .drp (.same (.drop (.drop (.drop .nil)))) k5
      refine .p rfl (D.orF rfl hb2 rfl) ?_
      exact .drp (.same (.drop (.drop (.drop (.drop (.drop (.drop (.drop .nil)))))))) k2
    refine .p rfl (D.mv (x := aB ((decide (deep < 1)) || (j.Flag && (j.Kind != 2)))) rfl) ?_
    refine .fork2 [30, 29, 28, 27, 26, 25, 24, 23, 22, 21, 20, 19, 18] 31 (aB (((decide (deep < 1)) || (j.Flag && (j.Kind != 2))) || (((!(j.Text == [])) && (j.Kind != 3)) && (j.Kind != 4)))) 14 ((decide (deep < 1)) || (j.Flag && (j.Kind != 2))) (fun hb11 K k11 => ?_) (fun hb11 K k11 => ?_) ?_
    ·
      refine .gn rfl rfl rfl (nF hb11) ?_
      refine .gn rfl rfl rfl (nF hb11) ?_
      refine .gn rfl rfl rfl (nF hb11) ?_
      refine .gn rfl rfl rfl (nF hb11) ?_
      refine .gu rfl rfl rfl ?_
      refine .gu rfl rfl rfl ?_
      refine .gu rfl rfl rfl ?_
      refine .gn rfl rfl rfl (nF hb11) ?_
      refine .gn rfl rfl rfl (nF hb11) ?_
      refine .gu rfl rfl rfl ?_
      refine .gu rfl rfl rfl ?_
      refine .gu rfl rfl rfl ?_
      refine .gn rfl rfl rfl (nF hb11) ?_
      refine .p rfl (D.orT (c := (((!(j.Text == [])) && (j.Kind != 3)) && (j.Kind != 4))) rfl hb11 rfl) ?_
      exact .drp (.same (.drop (.drop (.drop (.drop (.drop (.drop (.drop (.drop (.drop (.drop (.drop (.drop (.drop .nil)))))))))))))) k11
    ·
      refine .gy rfl rfl rfl hb11 rfl (D.fld O27_2 rfl rfl rfl) ?_
      refine .gy rfl rfl rfl hb11 rfl (D.ld1 T9 rfl rfl rfl) ?_
      refine .gy rfl rfl rfl hb11 rfl (D.neS rfl rfl) ?_
      refine .gy rfl rfl rfl hb11 rfl (D.mv (x := aB (!(j.Text == []))) rfl) ?_
      refine .fork2 [24, 23, 22] 25 (aB ((!(j.Text == [])) && (j.Kind != 3))) 4 (!(j.Text == [])) (fun hb15 K k15 => ?_) (fun hb15 K k15 => ?_) ?_
      ·
        refine .gy rfl rfl rfl hb15 rfl (D.fld O27_0 rfl rfl rfl) ?_
        refine .gy rfl rfl rfl hb15 rfl (D.ld1 T3 rfl rfl rfl) ?_
        refine .gy rfl rfl rfl hb15 rfl (D.neI rfl rfl) ?_
        refine .gy rfl rfl rfl hb11 rfl (D.andT rfl hb15 rfl) ?_
        exact .drp (.same (.drop (.drop (.drop .nil)))) k15
      ·
        refine .gn rfl rfl rfl (nT hb15) ?_
        refine .gn rfl rfl rfl (nT hb15) ?_
        refine .gn rfl rfl rfl (nT hb15) ?_
        refine .gy rfl rfl rfl hb11 rfl (D.andF (c := (j.Kind != 3)) rfl hb15 rfl) ?_
        exact .drp (.same (.drop (.drop (.drop .nil)))) k15
      refine .gy rfl rfl rfl hb11 rfl (D.mv (x := aB ((!(j.Text == [])) && (j.Kind != 3))) rfl) ?_
      refine .fork2 [29, 28, 27] 30 (aB (((!(j.Text == [])) && (j.Kind != 3)) && (j.Kind != 4))) 4 ((!(j.Text == [])) && (j.Kind != 3)) (fun hb20 K k20 => ?_) (fun hb20 K k20 => ?_) ?_
      ·
        refine .gy rfl rfl rfl hb20 rfl (D.fld O27_0 rfl rfl rfl) ?_
        refine .gy rfl rfl rfl hb20 rfl (D.ld1 T3 rfl rfl rfl) ?_
        refine .gy rfl rfl rfl hb20 rfl (D.neI rfl rfl) ?_
        refine .gy rfl rfl rfl hb11 rfl (D.andT rfl hb20 rfl) ?_
        exact .drp (.same (.drop (.drop (.drop .nil)))) k20
      ·
        refine .gn rfl rfl rfl (nT hb20) ?_
        refine .gn rfl rfl rfl (nT hb20) ?_
        refine .gn rfl rfl rfl (nT hb20) ?_
        refine .gy rfl rfl rfl hb11 rfl (D.andF (c := (j.Kind != 4)) rfl hb20 rfl) ?_
        exact .drp (.same (.drop (.drop (.drop .nil)))) k20
      refine .p rfl (D.orF rfl hb11 rfl) ?_
      exact .drp (.same (.drop (.drop (.drop (.drop (.drop (.drop (.drop (.drop (.drop (.drop (.drop (.drop (.drop .nil)))))))))))))) k11
    refine .p rfl (D.mv (x := aB (((decide (deep < 1)) || (j.Flag && (j.Kind != 2))) || (((!(j.Text == [])) && (j.Kind != 3)) && (j.Kind != 4)))) rfl) ?_
    refine .fork2 [41, 40, 39, 38, 37, 36, 35, 34, 33] 42 (aB ((((decide (deep < 1)) || (j.Flag && (j.Kind != 2))) || (((!(j.Text == [])) && (j.Kind != 3)) && (j.Kind != 4))) || ((decide (j.Kind < 5)) && (decide (0 < (j.Kids.length : Int)))))) 10 (((decide (deep < 1)) || (j.Flag && (j.Kind != 2))) || (((!(j.Text == [])) && (j.Kind != 3)) && (j.Kind != 4))) (fun hb26 K k26 => ?_) (fun hb26 K k26 => ?_) ?_
    ·
      refine .gn rfl rfl rfl (nF hb26) ?_
      refine .gn rfl rfl rfl (nF hb26) ?_
      refine .gn rfl rfl rfl (nF hb26) ?_
      refine .gn rfl rfl rfl (nF hb26) ?_
      refine .gu rfl rfl rfl ?_
      refine .gu rfl rfl rfl ?_
      refine .gu rfl rfl rfl ?_
      refine .gu rfl rfl rfl ?_
      refine .gn rfl rfl rfl (nF hb26) ?_
      refine .p rfl (D.orT (c := ((decide (j.Kind < 5)) && (decide (0 < (j.Kids.length : Int))))) rfl hb26 rfl) ?_
      exact .drp (.same (.drop (.drop (.drop (.drop (.drop (.drop (.drop (.drop (.drop .nil)))))))))) k26
    ·
      refine .gy rfl rfl rfl hb26 rfl (D.fld O27_0 rfl rfl rfl) ?_
      refine .gy rfl rfl rfl hb26 rfl (D.ld1 T3 rfl rfl rfl) ?_
      refine .gy rfl rfl rfl hb26 rfl (D.lt rfl rfl) ?_
      refine .gy rfl rfl rfl hb26 rfl (D.mv (x := aB (decide (j.Kind < 5))) rfl) ?_
      refine .fork2 [40, 39, 38, 37] 41 (aB ((decide (j.Kind < 5)) && (decide (0 < (j.Kids.length : Int))))) 5 (decide (j.Kind < 5)) (fun hb30 K k30 => ?_) (fun hb30 K k30 => ?_) ?_
      ·
        refine .gy rfl rfl rfl hb30 rfl (D.fld O27_4 rfl rfl rfl) ?_
        refine .gy rfl rfl rfl hb30 rfl (D.ld1 T25 rfl rfl rfl) ?_
        refine .klen 38 rfl rfl fun hl => ?_
        refine .gy rfl rfl rfl hb30 rfl (D.len E25 rfl) ?_
        refine .gy rfl rfl rfl hb30 rfl (D.gt rfl rfl) ?_
        refine .gy rfl rfl rfl hb26 rfl (D.andT rfl hb30 rfl) ?_
        exact .drp (.same (.drop (.drop (.drop (.drop .nil))))) k30
      ·
        refine .gn rfl rfl rfl (nT hb30) ?_
        refine .gn rfl rfl rfl (nT hb30) ?_
        refine .gn rfl rfl rfl (nT hb30) ?_
        refine .gn rfl rfl rfl (nT hb30) ?_
        refine .gy rfl rfl rfl hb26 rfl (D.andF (c := (decide (0 < (j.Kids.length : Int)))) rfl hb30 rfl) ?_
        exact .drp (.same (.drop (.drop (.drop (.drop .nil))))) k30
      refine .p rfl (D.orF rfl hb26 rfl) ?_
      exact .drp (.same (.drop (.drop (.drop (.drop (.drop (.drop (.drop (.drop (.drop .nil)))))))))) k26
    refine .p rfl (D.mv (x := aB ((((decide (deep < 1)) || (j.Flag && (j.Kind != 2))) || (((!(j.Text == [])) && (j.Kind != 3)) && (j.Kind != 4))) || ((decide (j.Kind < 5)) && (decide (0 < (j.Kids.length : Int)))))) rfl) ?_
    refine .fork2 [52, 51, 50, 49, 48, 47, 46, 45, 44] 53 (aB (((((decide (deep < 1)) || (j.Flag && (j.Kind != 2))) || (((!(j.Text == [])) && (j.Kind != 3)) && (j.Kind != 4))) || ((decide (j.Kind < 5)) && (decide (0 < (j.Kids.length : Int))))) || ((j.Kind != 6) && (decide (0 < (j.Names.length : Int)))))) 10 ((((decide (deep < 1)) || (j.Flag && (j.Kind != 2))) || (((!(j.Text == [])) && (j.Kind != 3)) && (j.Kind != 4))) || ((decide (j.Kind < 5)) && (decide (0 < (j.Kids.length : Int))))) (fun hb37 K k37 => ?_) (fun hb37 K k37 => ?_) ?_
    ·
      refine .gn rfl rfl rfl (nF hb37) ?_
      refine .gn rfl rfl rfl (nF hb37) ?_
      refine .gn rfl rfl rfl (nF hb37) ?_
      refine .gn rfl rfl rfl (nF hb37) ?_
      refine .gu rfl rfl rfl ?_
      refine .gu rfl rfl rfl ?_
      refine .gu rfl rfl rfl ?_
      refine .gu rfl rfl rfl ?_
      refine .gn rfl rfl rfl (nF hb37) ?_
      refine .p rfl (D.orT (c := ((j.Kind != 6) && (decide (0 < (j.Names.length : Int))))) rfl hb37 rfl) ?_
      exact .drp (.same (.drop (.drop (.drop (.drop (.drop (.drop (.drop (.drop (.drop .nil)))))))))) k37
    ·
      refine .gy rfl rfl rfl hb37 rfl (D.fld O27_0 rfl rfl rfl) ?_
      refine .gy rfl rfl rfl hb37 rfl (D.ld1 T3 rfl rfl rfl) ?_
      refine .gy rfl rfl rfl hb37 rfl (D.neI rfl rfl) ?_
      refine .gy rfl rfl rfl hb37 rfl (D.mv (x := aB (j.Kind != 6)) rfl) ?_
      refine .fork2 [51, 50, 49, 48] 52 (aB ((j.Kind != 6) && (decide (0 < (j.Names.length : Int))))) 5 (j.Kind != 6) (fun hb41 K k41 => ?_) (fun hb41 K k41 => ?_) ?_
      ·
        refine .gy rfl rfl rfl hb41 rfl (D.fld O27_3 rfl rfl rfl) ?_
        refine .gy rfl rfl rfl hb41 rfl (D.ld1 T24 rfl rfl rfl) ?_
        refine .klen 49 rfl rfl fun hl1 => ?_
        refine .gy rfl rfl rfl hb41 rfl (D.len E24 rfl) ?_
        refine .gy rfl rfl rfl hb41 rfl (D.gt rfl rfl) ?_
        refine .gy rfl rfl rfl hb37 rfl (D.andT rfl hb41 rfl) ?_
        exact .drp (.same (.drop (.drop (.drop (.drop .nil))))) k41
      ·
        refine .gn rfl rfl rfl (nT hb41) ?_
        refine .gn rfl rfl rfl (nT hb41) ?_
        refine .gn rfl rfl rfl (nT hb41) ?_
        refine .gn rfl rfl rfl (nT hb41) ?_
        refine .gy rfl rfl rfl hb37 rfl (D.andF (c := (decide (0 < (j.Names.length : Int)))) rfl hb41 rfl) ?_
        exact .drp (.same (.drop (.drop (.drop (.drop .nil))))) k41
      refine .p rfl (D.orF rfl hb37 rfl) ?_
      exact .drp (.same (.drop (.drop (.drop (.drop (.drop (.drop (.drop (.drop (.drop .nil)))))))))) k37
    refine .nil ?_
    rcases it hh0 with ⟨hb, hh0⟩ | ⟨hb, hh0⟩
    · refine EW.condT rfl rfl hb ?_
      refine EW.seq ?_
      refine EW.region ?_
      refine .p rfl (D.as (x := aB false) rfl) ?_
      refine .nil ?_
      obtain rfl := sj_ hh0
      exact EW.retA [] (fun _ h => ⟨.inr rfl, h⟩) hf ⟨.c .fz, trivial⟩ rfl
    · refine EW.condF rfl rfl hb ?_
      refine EW.skip ?_
      refine EW.seq ?_
      refine EW.seq ?_
      refine EW.region ?_
      refine .p rfl (D.fld O27_4 rfl rfl rfl) ?_
      refine .p rfl (D.ld1 T25 rfl rfl rfl) ?_
      refine .klen 55 rfl rfl fun hl2 => ?_
      refine .p rfl (D.len E25 rfl) ?_
      refine .p rfl (D.gt rfl rfl) ?_
      refine .nil ?_
      rcases it hh0 with ⟨hb, hh0⟩ | ⟨hb, hh0⟩
      · refine EW.condT rfl rfl hb ?_
        refine EW.seq ?_
        refine EW.region ?_
        refine .p rfl (D.as (x := aB false) rfl) ?_
        refine .nil ?_
        obtain rfl := sj_ hh0
        exact EW.retA [] (fun _ h => ⟨.inr rfl, h⟩) hf ⟨.c .fz, trivial⟩ rfl
      · refine EW.condF rfl rfl hb ?_
        refine EW.skip ?_
        refine EW.seq ?_
        refine EW.seq ?_
        refine EW.region ?_
        refine .p rfl (D.as (x := aI 0) rfl) ?_
        refine .nil ?_
        obtain ⟨o_, hl, hh0⟩ := bs_ hh0
        refine EW.bj (fun σ' => ∃ v, o_ = .inl v ∧ At g [] (fun f => [(2, .pt 0 (f 0) 0)]) (fun f => [(0, .box 27 [aI j.Kind, aB j.Flag, aS j.Text, aL 1 eS j.Names, aL 5 Json.c j.Kids])]) σ') (EW.block (EW.loop (EWL.less [0] (ih_spec_l31Deep_l0 _ _ _ _ hl g C _ (fun _ e _ h => ⟨_, e, h⟩) ?_) hf ⟨.c .fz, .c (.pt rfl rfl rfl), .c .fz, trivial⟩ ⟨rfl, .box (.all rfl), rfl⟩))) ?_
        · rintro r1 rfl σ' h
          obtain rfl := sj_ hh0
          exact ⟨.inr rfl, h⟩
        rintro _ ⟨v, rfl, f, hf, rfl⟩
        refine EW.seq ?_
        refine EW.seq ?_
        refine EW.region ?_
        refine .p rfl (D.fld O27_0 rfl rfl rfl) ?_
        refine .p rfl (D.ld1 T3 rfl rfl rfl) ?_
        refine .nil ?_
        refine EW.block ?_
        refine EW.seq ?_
        refine EW.seq ?_
        refine EW.region ?_
        refine .p rfl (D.eqI rfl rfl) ?_
        refine .p rfl (D.as (x := aB (j.Kind == 1)) rfl) ?_
        refine .nil ?_
        obtain ⟨o_1, hh1, hh0⟩ := bs_ hh0
        refine EW.bj (At g [] (fun f => [(2, .pt 0 (f 0) 0), (75, aI j.Kind), (76, aB o_1)]) (fun f => [(0, .box 27 [aI j.Kind, aB j.Flag, aS j.Text, aL 1 eS j.Names, aL 5 Json.c j.Kids])])) ?_ ?_
        · rcases it hh1 with ⟨hb, hh1⟩ | ⟨hb, hh1⟩
          · refine EW.condT rfl rfl hb ?_
            obtain rfl := sj_ hh1
            exact EW.skipA [0] (fun _ h => h) hf ⟨.c (.pt rfl rfl rfl), .c .fz, .c .fz, trivial⟩ ⟨rfl, .box (.all rfl), rfl⟩
          · refine EW.condF rfl rfl hb ?_
            refine EW.seq ?_
            refine EW.region ?_
            refine .p rfl (D.eqI rfl rfl) ?_
            refine .p rfl (D.as (x := aB (j.Kind == 2)) rfl) ?_
            refine .nil ?_
            rcases it hh1 with ⟨hb, hh1⟩ | ⟨hb, hh1⟩
            · refine EW.condT rfl rfl hb ?_
              obtain rfl := sj_ hh1
              exact EW.skipA [0] (fun _ h => h) hf ⟨.c (.pt rfl rfl rfl), .c .fz, .c .fz, trivial⟩ ⟨rfl, .box (.all rfl), rfl⟩
            · refine EW.condF rfl rfl hb ?_
              refine EW.region ?_
              refine .p rfl (D.eqI rfl rfl) ?_
              refine .p rfl (D.as (x := aB (j.Kind == 5)) rfl) ?_
              obtain rfl := sj_ hh1
              exact .nilA [0] (fun _ h => h) hf ⟨.c (.pt rfl rfl rfl), .c .fz, .c .fz, trivial⟩ ⟨rfl, .box (.all rfl), rfl⟩
        · rintro _ ⟨f, hf, rfl⟩
          rcases it hh0 with ⟨hb, hh0⟩ | ⟨hb, hh0⟩
          · refine EW.condT rfl rfl hb ?_
            refine EW.seq ?_
            refine EW.region ?_
            refine .p rfl (D.as (x := aB true) rfl) ?_
            refine .nil ?_
            obtain rfl := sj_ hh0
            exact EW.retA [] (fun _ h => ⟨.inr rfl, h⟩) hf ⟨.c .fz, trivial⟩ rfl
          · refine EW.condF rfl rfl hb ?_
            refine EW.seq ?_
            refine EW.region ?_
            refine .p rfl (D.eqI rfl rfl) ?_
            refine .p rfl (D.as (x := aB (j.Kind == 3)) rfl) ?_
            refine .nil ?_
            rcases it hh0 with ⟨hb, hh0⟩ | ⟨hb, hh0⟩
            · refine EW.condT rfl rfl hb ?_
              refine EW.seq ?_
              refine EW.region ?_
              refine .p rfl (D.fld O27_2 rfl rfl rfl) ?_
              refine .p rfl (D.ld1 T9 rfl rfl rfl) ?_
              obtain ⟨r2, h_r2, hh0⟩ := bs_ hh0
              refine .p rfl (D.call0 (spec_l31Num_ok h_r2 g) C49 rfl [] (.cons (.c .fz) .nil) (.v (.c .fz))) ?_
              refine .p rfl (D.as (x := aB r2) rfl) ?_
              refine .nil ?_
              obtain rfl := sj_ hh0
              exact EW.retA [] (fun _ h => ⟨.inr rfl, h⟩) hf ⟨.c .fz, trivial⟩ rfl
            · refine EW.condF rfl rfl hb ?_
              refine EW.seq ?_
              refine EW.region ?_
              refine .p rfl (D.eqI rfl rfl) ?_
              refine .p rfl (D.as (x := aB (j.Kind == 4)) rfl) ?_
              refine .nil ?_
              rcases it hh0 with ⟨hb, hh0⟩ | ⟨hb, hh0⟩
              · refine EW.condT rfl rfl hb ?_
                refine EW.seq ?_
                refine EW.region ?_
                refine .p rfl (D.fld O27_2 rfl rfl rfl) ?_
                refine .p rfl (D.ld1 T9 rfl rfl rfl) ?_
                refine .p rfl (D.lenS S9 rfl) ?_
                refine .p rfl (D.le rfl rfl) ?_
                refine .p rfl (D.mv (x := aB (decide ((j.Text.length : Int) ≤ 20))) rfl) ?_
                obtain ⟨b, hh1, hh0⟩ := bs_ hh0
                refine .fork2 [94, 93, 92] 95 (aB b) 4 (decide ((j.Text.length : Int) ≤ 20)) (fun hb4 K k4 => ?_) (fun hb4 K k4 => ?_) ?_
                ·
                  replace hh1 := itT hh1 hb4
                  refine .gy rfl rfl rfl hb4 rfl (D.fld O27_2 rfl rfl rfl) ?_
                  refine .gy rfl rfl rfl hb4 rfl (D.ld1 T9 rfl rfl rfl) ?_
                  obtain ⟨r3, h_r3, hh1⟩ := bs_ hh1
                  refine .gy rfl rfl rfl hb4 rfl (D.call0 (spec_l31Text_ok h_r3 g) C50 rfl [] (.cons (.c .fz) .nil) (.v (.c .fz))) ?_
                  obtain rfl := sj_ hh1
                  refine .p rfl (D.pickT rfl hb4 rfl) ?_
                  exact .drp (.same (.drop (.drop (.drop .nil)))) k4
                ·
                  replace hh1 := itF hh1 hb4
                  refine .gn rfl rfl rfl (nT hb4) ?_
                  refine .gn rfl rfl rfl (nT hb4) ?_
                  refine .gn rfl rfl rfl (nT hb4) ?_
                  obtain rfl := sj_ hh1
                  refine .p rfl (D.pickF rfl hb4 rfl) ?_
                  exact .drp (.same (.drop (.drop (.drop .nil)))) k4
                refine .p rfl (D.as (x := aB b) rfl) ?_
                refine .nil ?_
                obtain rfl := sj_ hh0
                exact EW.retA [] (fun _ h => ⟨.inr rfl, h⟩) hf ⟨.c .fz, trivial⟩ rfl
              · refine EW.condF rfl rfl hb ?_
                refine EW.seq ?_
                refine EW.region ?_
                refine .p rfl (D.eqI rfl rfl) ?_
                refine .p rfl (D.as (x := aB (j.Kind == 6)) rfl) ?_
                refine .nil ?_
                rcases it hh0 with ⟨hb, hh0⟩ | ⟨hb, hh0⟩
                · refine EW.condT rfl rfl hb ?_
                  refine EW.seq ?_
                  refine EW.region ?_
                  refine .p rfl (D.fld O27_3 rfl rfl rfl) ?_
                  refine .p rfl (D.ld1 T24 rfl rfl rfl) ?_
                  refine .klen 99 rfl rfl fun hl4 => ?_
                  refine .p rfl (D.len E24 rfl) ?_
                  refine .p rfl (D.fld O27_4 rfl rfl rfl) ?_
                  refine .p rfl (D.ld1 T25 rfl rfl rfl) ?_
                  refine .klen 102 rfl rfl fun hl5 => ?_
                  refine .p rfl (D.len E25 rfl) ?_
                  refine .p rfl (D.eqI rfl rfl) ?_
                  refine .p rfl (D.mv (x := aB ((j.Names.length : Int) == (j.Kids.length : Int))) rfl) ?_
                  obtain ⟨b1, hh1, hh0⟩ := bs_ hh0
                  refine .fork2 [108, 107, 106] 109 (aB b1) 4 ((j.Names.length : Int) == (j.Kids.length : Int)) (fun hb7 K k7 => ?_) (fun hb7 K k7 => ?_) ?_
                  ·
                    replace hh1 := itT hh1 hb7
                    refine .gy rfl rfl rfl hb7 rfl (D.fld O27_3 rfl rfl rfl) ?_
                    refine .gy rfl rfl rfl hb7 rfl (D.ld1 T24 rfl rfl rfl) ?_
                    obtain ⟨r4, h_r4, hh1⟩ := bs_ hh1
                    refine .gy rfl rfl rfl hb7 rfl (D.call0 (spec_l31Names_ok h_r4 g) C51 rfl [] (.cons (.c .fz) .nil) (.v (.c .fz))) ?_
                    obtain rfl := sj_ hh1
                    refine .p rfl (D.pickT rfl hb7 rfl) ?_
                    exact .drp (.same (.drop (.drop (.drop .nil)))) k7
                  ·
                    replace hh1 := itF hh1 hb7
                    refine .gn rfl rfl rfl (nT hb7) ?_
                    refine .gn rfl rfl rfl (nT hb7) ?_
                    refine .gn rfl rfl rfl (nT hb7) ?_
                    obtain rfl := sj_ hh1
                    refine .p rfl (D.pickF rfl hb7 rfl) ?_
                    exact .drp (.same (.drop (.drop (.drop .nil)))) k7
                  refine .p rfl (D.as (x := aB b1) rfl) ?_
                  refine .nil ?_
                  obtain rfl := sj_ hh0
                  exact EW.retA [] (fun _ h => ⟨.inr rfl, h⟩) hf ⟨.c .fz, trivial⟩ rfl
                · refine EW.condF rfl rfl hb ?_
                  refine EW.skip ?_
                  refine EW.seq ?_
                  refine EW.region ?_
                  refine .p rfl (D.as (x := aB false) rfl) ?_
                  refine .nil ?_
                  obtain rfl := sj_ hh0
                  exact EW.retA [] (fun _ h => ⟨.inr rfl, h⟩) hf ⟨.c .fz, trivial⟩ rfl
  · intro sf_spec_l31Deep sf_spec_l31Deep_l0 ih_spec_l31Deep ih_spec_l31Deep_l0 j deep i o hh0
    intro g C Q hx hr σ hσ
    obtain ⟨f, hf, rfl⟩ := hσ
    refine EWL.round ?_
    refine EW.seq ?_
    refine EW.seq ?_
    refine EW.region ?_
    refine .p rfl (D.mv (x := aI i) rfl) ?_
    refine .p rfl (D.fld O27_4 rfl rfl rfl) ?_
    refine .p rfl (D.ld1 T25 rfl rfl rfl) ?_
    refine .klen 60 rfl rfl fun hl3 => ?_
    refine .p rfl (D.len E25 rfl) ?_
    refine .p rfl (D.lt rfl rfl) ?_
    refine .nil ?_
    rcases it hh0 with ⟨hb, hh0⟩ | ⟨hb, hh0⟩
    · refine EW.condT rfl rfl hb ?_
      refine EW.skip ?_
      refine EW.seq ?_
      refine EW.block ?_
      refine EW.seq ?_
      refine EW.region ?_
      refine .p rfl (D.fld O27_4 rfl rfl rfl) ?_
      refine .p rfl (D.ld1 T25 rfl rfl rfl) ?_
      refine .p rfl (D.mv (x := aI i) rfl) ?_
      obtain ⟨Kid, h_Kid, hh0⟩ := bs_ hh0
      refine .p rfl (D.idx E25 rfl rfl h_Kid (Json.c_eq _)) ?_
      refine .p rfl (D.ldpN T27 rfl rfl rfl) ?_
      refine .p rfl (D.mv (x := aI deep) rfl) ?_
      refine .p rfl (D.sub rfl rfl) ?_
      obtain ⟨r, h_r, hh0⟩ := bs_ hh0
      refine .p rfl (D.call0 (ih_spec_l31Deep _ _ _ h_r g) C36 rfl [] (.cons (.ag (.all rfl)) (.cons (.c .fz) .nil)) (.v (.c .fz))) ?_
      refine .p rfl (D.not rfl) ?_
      refine .nil ?_
      rcases it hh0 with ⟨hb, hh0⟩ | ⟨hb, hh0⟩
      · refine EW.condT rfl rfl hb ?_
        refine EW.seq ?_
        refine EW.region ?_
        refine .p rfl (D.as (x := aB false) rfl) ?_
        refine .nil ?_
        obtain rfl := sj_ hh0
        exact EW.retA [] (fun _ h => hr _ rfl _ h) hf ⟨.c .fz, trivial⟩ rfl
      · refine EW.condF rfl rfl hb ?_
        refine EW.skip ?_
        refine EW.region ?_
        refine .p rfl (D.mv (x := aI i) rfl) ?_
        refine .p rfl (D.add rfl rfl) ?_
        obtain ⟨i1, h_i1, hh0⟩ := bs_ hh0
        refine .p rfl (D.as (x := aI i1) (congrArg aI (sj_ h_i1))) ?_
        refine .nil ?_
        exact EWL.less [0] (ih_spec_l31Deep_l0 _ _ _ _ hh0 _ _ _ hx hr) hf ⟨.c .fz, .c (.pt rfl rfl rfl), .c .fz, trivial⟩ ⟨rfl, .box (.all rfl), rfl⟩
    · refine EW.condF rfl rfl hb ?_
      obtain rfl := sj_ hh0
      exact EW.exitA [0] (fun _ h => hx _ rfl _ h) hf ⟨.c (.pt rfl rfl rfl), trivial⟩ ⟨rfl, .box (.all rfl), rfl⟩


theorem spec_l31Deep_ok {j : Json} {deep : Int} {y : Bool} (hh0 : spec_l31Deep j deep = some y) (g : Nat → Nat) : Fn Tryd.prog 36 (stoF g []) [.ag [aI j.Kind, aB j.Flag, aS j.Text, aL 1 eS j.Names, aL 5 Json.c j.Kids], aI deep] (stoF g []) (aB y) := spec_l31Deep_all.1 _ _ _ hh0 g

theorem spec_l31Size_all : (∀ (j : Json) (y : Int), spec_l31Size j = some y → ∀ g : Nat → Nat, Fn Tryd.prog 37 (stoF g []) [.ag [aI j.Kind, aB j.Flag, aS j.Text, aL 1 eS j.Names, aL 5 Json.c j.Kids]] (stoF g []) (aI y))
   ∧ (∀ (j : Json) (n : Int) (i : Int) (o : Int), spec_l31Size_l0 j n i = some o → ∀ (g : Nat → Nat) (C : Ctx Tryd.prog) (Q : Exit → St → Prop), (∀ σ', At g [] (fun f => [(3, aI o)]) (fun f => []) σ' → Q (.exit 0) σ') → ∀ σ, At g [] (fun f => [(1, .pt 0 (f 0) 0), (3, aI n), (4, aI i)]) (fun f => [(0, .box 27 [aI j.Kind, aB j.Flag, aS j.Text, aL 1 eS j.Names, aL 5 Json.c j.Kids])]) σ → EWL C 21 (bAt Tryd.f37 [1, 1, 0, 1, 0, 0]) σ Q) := by
  refine spec_l31Size.mpc (fun j y => ∀ g : Nat → Nat, Fn Tryd.prog 37 (stoF g []) [.ag [aI j.Kind, aB j.Flag, aS j.Text, aL 1 eS j.Names, aL 5 Json.c j.Kids]] (stoF g []) (aI y))
    (fun j n i o => ∀ (g : Nat → Nat) (C : Ctx Tryd.prog) (Q : Exit → St → Prop), (∀ σ', At g [] (fun f => [(3, aI o)]) (fun f => []) σ' → Q (.exit 0) σ') → ∀ σ, At g [] (fun f => [(1, .pt 0 (f 0) 0), (3, aI n), (4, aI i)]) (fun f => [(0, .box 27 [aI j.Kind, aB j.Flag, aS j.Text, aL 1 eS j.Names, aL 5 Json.c j.Kids])]) σ → EWL C 21 (bAt Tryd.f37 [1, 1, 0, 1, 0, 0]) σ Q) ?_ ?_
  · intro sf_spec_l31Size_l0 ih_spec_l31Size_l0 j y hh0
    intro g
    refine Fn.of0 (hs := []) (kl := []) (L := (fun f => [(2, aI y)])) (O := (fun f => [])) Tryd.func37 rfl Tryd.ntmps37 rfl (fun f hf => ⟨.nil, .one (Nat.le_of_ble_eq_true rfl) (.tmp rfl) (.c .fz)⟩) rfl rfl (fun C => ?_)
    have hf : agree g [] g := agree_refl g _
    refine EW.seq ?_
    refine EW.region ?_
    refine .w rfl (D.box 0 rfl rfl) ?_
    refine .p rfl (D.as (x := aI 0) rfl) ?_
    refine .nil ?_
    refine EW.seq ?_
    refine EW.region ?_
    refine .p rfl (D.as (x := aI 1) rfl) ?_
    refine .nil ?_
    refine EW.seq ?_
    refine EW.seq ?_
    refine EW.region ?_
    refine .p rfl (D.as (x := aI 0) rfl) ?_
    refine .nil ?_
    obtain ⟨o_, hl, hh0⟩ := bs_ hh0
    refine EW.bj (At g [] (fun f => [(3, aI o_)]) (fun f => [])) (EW.block (EW.loop (EWL.less [0] (ih_spec_l31Size_l0 _ _ _ _ hl g C _ (fun _ h => h)) hf ⟨.c (.pt rfl rfl rfl), .c .fz, .c .fz, trivial⟩ ⟨rfl, .box (.all rfl), rfl⟩))) ?_
    rintro _ ⟨f, hf, rfl⟩
    refine EW.seq ?_
    refine EW.region ?_
    refine .p rfl (D.mv (x := aI o_) rfl) ?_
    refine .p rfl (D.as (x := aI o_) rfl) ?_
    refine .nil ?_
    obtain rfl := sj_ hh0
    exact EW.retA [] (fun _ h => ⟨.inr rfl, h⟩) hf ⟨.c .fz, trivial⟩ rfl
  · intro sf_spec_l31Size sf_spec_l31Size_l0 ih_spec_l31Size ih_spec_l31Size_l0 j n i o hh0
    intro g C Q hx σ hσ
    obtain ⟨f, hf, rfl⟩ := hσ
    refine EWL.round ?_
    refine EW.seq ?_
    refine EW.seq ?_
    refine EW.region ?_
    refine .p rfl (D.mv (x := aI i) rfl) ?_
    refine .p rfl (D.fld O27_4 rfl rfl rfl) ?_
    refine .p rfl (D.ld1 T25 rfl rfl rfl) ?_
    refine .klen 7 rfl rfl fun hl => ?_
    refine .p rfl (D.len E25 rfl) ?_
    refine .p rfl (D.lt rfl rfl) ?_
    refine .nil ?_
    rcases it hh0 with ⟨hb, hh0⟩ | ⟨hb, hh0⟩
    · refine EW.condT rfl rfl hb ?_
      refine EW.skip ?_
      refine EW.seq ?_
      refine EW.block ?_
      refine EW.region ?_
      refine .p rfl (D.mv (x := aI n) rfl) ?_
      refine .p rfl (D.fld O27_4 rfl rfl rfl) ?_
      refine .p rfl (D.ld1 T25 rfl rfl rfl) ?_
      refine .p rfl (D.mv (x := aI i) rfl) ?_
      obtain ⟨Kid, h_Kid, hh0⟩ := bs_ hh0
      refine .p rfl (D.idx E25 rfl rfl h_Kid (Json.c_eq _)) ?_
      refine .p rfl (D.ldpN T27 rfl rfl rfl) ?_
      obtain ⟨r, h_r, hh0⟩ := bs_ hh0
      refine .p rfl (D.call0 (ih_spec_l31Size _ _ h_r g) C37 rfl [] (.cons (.ag (.all rfl)) .nil) (.v (.c .fz))) ?_
      refine .p rfl (D.add rfl rfl) ?_
      obtain ⟨n2, h_n2, hh0⟩ := bs_ hh0
      refine .p rfl (D.as (x := aI n2) (congrArg aI (sj_ h_n2))) ?_
      refine .nil ?_
      refine EW.region ?_
      refine .p rfl (D.mv (x := aI i) rfl) ?_
      refine .p rfl (D.add rfl rfl) ?_
      obtain ⟨i1, h_i1, hh0⟩ := bs_ hh0
      refine .p rfl (D.as (x := aI i1) (congrArg aI (sj_ h_i1))) ?_
      refine .nil ?_
      exact EWL.less [0] (ih_spec_l31Size_l0 _ _ _ _ hh0 _ _ _ hx) hf ⟨.c (.pt rfl rfl rfl), .c .fz, .c .fz, trivial⟩ ⟨rfl, .box (.all rfl), rfl⟩
    · refine EW.condF rfl rfl hb ?_
      obtain rfl := sj_ hh0
      exact EW.exitA [] (fun _ h => hx _ h) hf ⟨.c .fz, trivial⟩ rfl


theorem spec_l31Size_ok {j : Json} {y : Int} (hh0 : spec_l31Size j = some y) (g : Nat → Nat) : Fn Tryd.prog 37 (stoF g []) [.ag [aI j.Kind, aB j.Flag, aS j.Text, aL 1 eS j.Names, aL 5 Json.c j.Kids]] (stoF g []) (aI y) := spec_l31Size_all.1 _ _ hh0 g

theorem spec_JsonOk_ok {j : Json} {y : Bool} (hh0 : spec_JsonOk j = some y) (g : Nat → Nat) : Fn Tryd.prog 20 (stoF g []) [.ag [aI j.Kind, aB j.Flag, aS j.Text, aL 1 eS j.Names, aL 5 Json.c j.Kids]] (stoF g []) (aB y) := by
  refine Fn.of0 (hs := []) (kl := []) (L := (fun f => [(2, aB y)])) (O := (fun f => [])) Tryd.func20 rfl Tryd.ntmps20 rfl (fun f hf => ⟨.nil, .one (Nat.le_of_ble_eq_true rfl) (.tmp rfl) (.c .fz)⟩) rfl rfl (fun C => ?_)
  have hf : agree g [] g := agree_refl g _
  refine EW.seq ?_
  refine EW.region ?_
  refine .w rfl (D.box 0 rfl rfl) ?_
  refine .p rfl (D.as (x := aB false) rfl) ?_
  refine .nil ?_
  refine EW.seq ?_
  refine EW.region ?_
  refine .p rfl (D.ldN T27 rfl rfl rfl rfl) ?_
  obtain ⟨r, h_r, hh0⟩ := bs_ hh0
  refine .p rfl (D.call0 (spec_l31Deep_ok h_r g) C36 rfl [] (.cons (.ag (.all rfl)) (.cons (.c .fz) .nil)) (.v (.c .fz))) ?_
  refine .p rfl (D.mv (x := aB r) rfl) ?_
  obtain ⟨b, hh1, hh0⟩ := bs_ hh0
  refine .fork2 [8, 7, 6] 9 (aB b) 4 r (fun hb2 K k2 => ?_) (fun hb2 K k2 => ?_) ?_
  ·
    replace hh1 := itT hh1 hb2
    refine .gy rfl rfl rfl hb2 rfl (D.ldN T27 rfl rfl rfl rfl) ?_
    obtain ⟨r1, h_r1, hh1⟩ := bs_ hh1
    refine .gy rfl rfl rfl hb2 rfl (D.call0 (spec_l31Size_ok h_r1 g) C37 rfl [] (.cons (.ag (.all rfl)) .nil) (.v (.c .fz))) ?_
    refine .gy rfl rfl rfl hb2 rfl (D.le rfl rfl) ?_
    obtain rfl := sj_ hh1
    refine .p rfl (D.pickT rfl hb2 rfl) ?_
    exact .drp (.same (.drop (.drop (.drop .nil)))) k2
  ·
    replace hh1 := itF hh1 hb2
    refine .gn rfl rfl rfl (nT hb2) ?_
    refine .gn rfl rfl rfl (nT hb2) ?_
    refine .gn rfl rfl rfl (nT hb2) ?_
    obtain rfl := sj_ hh1
    refine .p rfl (D.pickF rfl hb2 rfl) ?_
    exact .drp (.same (.drop (.drop (.drop .nil)))) k2
  refine .p rfl (D.mv (x := aB b) rfl) ?_
  obtain ⟨b1, hh1, hh0⟩ := bs_ hh0
  refine .fork2 [14, 13, 12, 11] 15 (aB b1) 5 b (fun hb7 K k7 => ?_) (fun hb7 K k7 => ?_) ?_
  ·
    replace hh1 := itT hh1 hb7
    refine .gy rfl rfl rfl hb7 rfl (D.ldN T27 rfl rfl rfl rfl) ?_
    obtain ⟨r2, h_r2, hh1⟩ := bs_ hh1
    refine .gy rfl rfl rfl hb7 rfl (D.call0 (spec_l31Write_ok h_r2 g) C21 rfl [] (.cons (.ag (.all rfl)) .nil) (.v (.c .fz))) ?_
    refine .gy rfl rfl rfl hb7 rfl (D.lenS S9 rfl) ?_
    refine .gy rfl rfl rfl hb7 rfl (D.le rfl rfl) ?_
    obtain rfl := sj_ hh1
    refine .p rfl (D.pickT rfl hb7 rfl) ?_
    exact .drp (.same (.drop (.drop (.drop (.drop .nil))))) k7
  ·
    replace hh1 := itF hh1 hb7
    refine .gn rfl rfl rfl (nT hb7) ?_
    refine .gn rfl rfl rfl (nT hb7) ?_
    refine .gn rfl rfl rfl (nT hb7) ?_
    refine .gn rfl rfl rfl (nT hb7) ?_
    obtain rfl := sj_ hh1
    refine .p rfl (D.pickF rfl hb7 rfl) ?_
    exact .drp (.same (.drop (.drop (.drop (.drop .nil))))) k7
  refine .p rfl (D.as (x := aB b1) rfl) ?_
  refine .nil ?_
  obtain rfl := sj_ hh0
  exact EW.retA [] (fun _ h => ⟨.inr rfl, h⟩) hf ⟨.c .fz, trivial⟩ rfl

theorem spec_JsonWrite_ok {j : Json} {y : Str} (hh0 : spec_JsonWrite j = some y) (g : Nat → Nat) : Fn Tryd.prog 11 (stoF g []) [.ag [aI j.Kind, aB j.Flag, aS j.Text, aL 1 eS j.Names, aL 5 Json.c j.Kids]] (stoF g []) (aS y) := by
  refine Fn.of0 (hs := []) (kl := []) (L := (fun f => [(2, aS y)])) (O := (fun f => [])) Tryd.func11 rfl Tryd.ntmps11 rfl (fun f hf => ⟨.nil, .one (Nat.le_of_ble_eq_true rfl) (.tmp rfl) (.c .fz)⟩) rfl rfl (fun C => ?_)
  have hf : agree g [] g := agree_refl g _
  refine EW.seq ?_
  refine EW.region ?_
  refine .w rfl (D.box 0 rfl rfl) ?_
  refine .p rfl (D.as (x := aS []) rfl) ?_
  refine .nil ?_
  refine EW.seq ?_
  refine EW.seq ?_
  refine EW.region ?_
  refine .p rfl (D.ldN T27 rfl rfl rfl rfl) ?_
  obtain ⟨r, h_r, hh0⟩ := bs_ hh0
  refine .p rfl (D.call0 (spec_JsonOk_ok h_r g) C20 rfl [] (.cons (.ag (.all rfl)) .nil) (.v (.c .fz))) ?_
  refine .p rfl (D.not rfl) ?_
  refine .nil ?_
  rcases it hh0 with ⟨hb, hh0⟩ | ⟨hb, hh0⟩
  · refine EW.condT rfl rfl hb ?_
    refine EW.seq ?_
    refine EW.region ?_
    refine .p rfl (D.as (x := aS []) rfl) ?_
    refine .nil ?_
    obtain rfl := sj_ hh0
    exact EW.retA [] (fun _ h => ⟨.inr rfl, h⟩) hf ⟨.c .fz, trivial⟩ rfl
  · refine EW.condF rfl rfl hb ?_
    refine EW.skip ?_
    refine EW.seq ?_
    refine EW.region ?_
    refine .p rfl (D.ldN T27 rfl rfl rfl rfl) ?_
    obtain ⟨r1, h_r1, hh0⟩ := bs_ hh0
    refine .p rfl (D.call0 (spec_l31Write_ok h_r1 g) C21 rfl [] (.cons (.ag (.all rfl)) .nil) (.v (.c .fz))) ?_
    refine .p rfl (D.as (x := aS r1) rfl) ?_
    refine .nil ?_
    obtain rfl := sj_ hh0
    exact EW.retA [] (fun _ h => ⟨.inr rfl, h⟩) hf ⟨.c .fz, trivial⟩ rfl

theorem spec_l6Rd_pick_ok {r : L6Rd} {n : Int} {y : Int × L6Rd} (hh0 : spec_l6Rd_pick r n = some y) (g : Nat → Nat) : Fn Tryd.prog 13 (stoF g [(0, .box 51 [aL 1 eU r.b, aI r.p])]) [.pt 0 (g 0) 0, aI n] (stoF g [(0, .box 51 [aL 1 eU y.2.b, aI y.2.p])]) (aI y.1) := by
  refine Fn.of0 (hs := [0]) (kl := [0]) (L := (fun f => [(4, aI y.1)])) (O := (fun f => [(0, .box 51 [aL 1 eU y.2.b, aI y.2.p])])) Tryd.func13 rfl Tryd.ntmps13 rfl (fun f hf => ⟨(.same rfl hf.1 (.box (.all rfl)) .nil), .one (Nat.le_of_ble_eq_true rfl) (.tmp rfl) (.c .fz)⟩) rfl rfl (fun C => ?_)
  have hf : agree g [0] g := agree_refl g _
  refine EW.seq ?_
  refine EW.region ?_
  refine .p rfl (D.as (x := aI 0) rfl) ?_
  refine .nil ?_
  refine EW.seq ?_
  refine EW.region ?_
  refine .p rfl (D.mv rfl) ?_
  refine .p rfl (D.mv rfl) ?_
  refine .p rfl (D.nck rfl rfl) ?_
  refine .p rfl (D.fld O51_1 rfl rfl rfl) ?_
  refine .p rfl (D.ld1 T3 rfl rfl rfl) ?_
  refine .p rfl (D.add rfl rfl) ?_
  refine .p rfl (D.nck rfl rfl) ?_
  refine .p rfl (D.fld O51_1 rfl rfl rfl) ?_
  refine .st rfl (D.st T3 rfl rfl rfl rfl rfl rfl) ?_
  refine .nil ?_
  refine EW.seq ?_
  refine EW.seq ?_
  refine EW.region ?_
  refine .p rfl (D.mv (x := aI n) rfl) ?_
  refine .p rfl (D.lt rfl rfl) ?_
  refine .p rfl (D.mv (x := aB (decide (n < 1))) rfl) ?_
  refine .fork2 [23, 22, 21, 20, 19, 18] 24 (aB ((decide (n < 1)) || ((r.b.length : Int) == 0))) 7 (decide (n < 1)) (fun hb2 K k2 => ?_) (fun hb2 K k2 => ?_) ?_
  ·
    refine .gn rfl rfl rfl (nF hb2) ?_
    refine .gn rfl rfl rfl (nF hb2) ?_
    refine .gn rfl rfl rfl (nF hb2) ?_
    refine .gn rfl rfl rfl (nF hb2) ?_
    refine .gn rfl rfl rfl (nF hb2) ?_
    refine .gn rfl rfl rfl (nF hb2) ?_
    refine .p rfl (D.orT (c := ((r.b.length : Int) == 0)) rfl hb2 rfl) ?_
    exact .drp (.same (.drop (.drop (.drop (.drop (.drop (.drop .nil))))))) k2
  ·
    refine .gy rfl rfl rfl hb2 rfl (D.mv rfl) ?_
    refine .gy rfl rfl rfl hb2 rfl (D.nck rfl rfl) ?_
    refine .gy rfl rfl rfl hb2 rfl (D.fld O51_0 rfl rfl rfl) ?_
    refine .gy rfl rfl rfl hb2 rfl (D.ld1 T22 rfl rfl rfl) ?_
    refine .klen 21 rfl rfl fun hl => ?_
    refine .gy rfl rfl rfl hb2 rfl (D.len E22 rfl) ?_
    refine .gy rfl rfl rfl hb2 rfl (D.eqI rfl rfl) ?_
    refine .p rfl (D.orF rfl hb2 rfl) ?_
    exact .drp (.same (.drop (.drop (.drop (.drop (.drop (.drop .nil))))))) k2
  refine .nil ?_
  rcases it hh0 with ⟨hb, hh0⟩ | ⟨hb, hh0⟩
  · refine EW.condT rfl rfl hb ?_
    refine EW.seq ?_
    refine EW.region ?_
    refine .p rfl (D.as (x := aI 0) rfl) ?_
    refine .nil ?_
    obtain rfl := sj_ hh0
    exact EW.retA [0] (fun _ h => ⟨.inr rfl, h⟩) hf ⟨.c .fz, trivial⟩ ⟨rfl, .box (.all rfl), rfl⟩
  · refine EW.condF rfl rfl hb ?_
    refine EW.skip ?_
    refine EW.seq ?_
    refine EW.region ?_
    refine .p rfl (D.mv rfl) ?_
    refine .p rfl (D.nck rfl rfl) ?_
    refine .p rfl (D.fld O51_1 rfl rfl rfl) ?_
    refine .p rfl (D.ld1 T3 rfl rfl rfl) ?_
    refine .p rfl (D.sub rfl rfl) ?_
    obtain ⟨k_, h_k_, hh0⟩ := bs_ hh0
    refine .p rfl (D.as (x := aI k_) (congrArg aI (sj_ h_k_))) ?_
    refine .nil ?_
    refine EW.seq ?_
    refine EW.seq ?_
    refine EW.region ?_
    refine .p rfl (D.mv (x := aI k_) rfl) ?_
    refine .p rfl (D.mv rfl) ?_
    refine .p rfl (D.nck rfl rfl) ?_
    refine .p rfl (D.fld O51_0 rfl rfl rfl) ?_
    refine .p rfl (D.ld1 T22 rfl rfl rfl) ?_
    refine .klen 34 rfl rfl fun hl1 => ?_
    refine .p rfl (D.len E22 rfl) ?_
    refine .p rfl (D.lt rfl rfl) ?_
    refine .nil ?_
    rcases it hh0 with ⟨hb, hh0⟩ | ⟨hb, hh0⟩
    · refine EW.condT rfl rfl hb ?_
      refine EW.seq ?_
      refine EW.region ?_
      refine .p rfl (D.mv rfl) ?_
      refine .p rfl (D.nck rfl rfl) ?_
      refine .p rfl (D.fld O51_0 rfl rfl rfl) ?_
      refine .p rfl (D.ld1 T22 rfl rfl rfl) ?_
      refine .p rfl (D.mv (x := aI k_) rfl) ?_
      obtain ⟨e, h_e, hh0⟩ := bs_ hh0
      refine .p rfl (D.idx E22 rfl rfl h_e rfl) ?_
      refine .p rfl (D.ldp1 T5 rfl rfl) ?_
      refine .p rfl (D.toI K5 K3 rfl) ?_
      refine .p rfl (D.mv (x := aI n) rfl) ?_
      obtain ⟨nz, h_nz, hh0⟩ := bs_ hh0
      refine .p rfl (D.rem rfl rfl (nz_ h_nz)) ?_
      refine .p rfl (D.as (x := aI ((e.toNat : Int).tmod n)) rfl) ?_
      refine .nil ?_
      obtain rfl := sj_ hh0
      exact EW.retA [0] (fun _ h => ⟨.inr rfl, h⟩) hf ⟨.c .fz, trivial⟩ ⟨rfl, .box (.all rfl), rfl⟩
    · refine EW.condF rfl rfl hb ?_
      refine EW.skip ?_
      refine EW.seq ?_
      refine EW.drawU MX ?_
      refine .p rfl (D.mv rfl) ?_
      refine .p rfl (D.nck rfl rfl) ?_
      refine .p rfl (D.fld O51_0 rfl rfl rfl) ?_
      refine .p rfl (D.ld1 T22 rfl rfl rfl) ?_
      refine .p rfl (D.mv (x := aI k_) rfl) ?_
      refine .p rfl (D.mv rfl) ?_
      refine .p rfl (D.nck rfl rfl) ?_
      refine .p rfl (D.fld O51_0 rfl rfl rfl) ?_
      refine .p rfl (D.ld1 T22 rfl rfl rfl) ?_
      refine .p rfl (D.len E22 rfl) ?_
      obtain ⟨nz1, h_nz1, hh0⟩ := bs_ hh0
      refine .p rfl (D.rem rfl rfl (nz_ h_nz1)) ?_
      obtain ⟨e1, h_e1, hh0⟩ := bs_ hh0
      refine .p rfl (D.idx E22 rfl rfl h_e1 rfl) ?_
      refine .p rfl (D.ldp1 T5 rfl rfl) ?_
      refine .p rfl (D.toI K5 K3 rfl) ?_
      refine .p rfl (D.mul rfl rfl) ?_
      refine .p rfl (D.mv rfl) ?_
      refine .p rfl (D.nck rfl rfl) ?_
      refine .p rfl (D.fld O51_0 rfl rfl rfl) ?_
      refine .p rfl (D.ld1 T22 rfl rfl rfl) ?_
      refine .p rfl (D.mv (x := aI k_) rfl) ?_
      refine .p rfl (D.mul rfl rfl) ?_
      refine .p rfl (D.add rfl rfl) ?_
      refine .p rfl (D.mv rfl) ?_
      refine .p rfl (D.nck rfl rfl) ?_
      refine .p rfl (D.fld O51_0 rfl rfl rfl) ?_
      refine .p rfl (D.ld1 T22 rfl rfl rfl) ?_
      refine .p rfl (D.len E22 rfl) ?_
      obtain ⟨nz2, h_nz2, hh0⟩ := bs_ hh0
      refine .p rfl (D.rem rfl rfl (nz_ h_nz2)) ?_
      obtain ⟨e2, h_e2, hh0⟩ := bs_ hh0
      refine .p rfl (D.idx E22 rfl rfl h_e2 rfl) ?_
      refine .p rfl (D.ldp1 T5 rfl rfl) ?_
      refine .p rfl (D.toI K5 K3 rfl) ?_
      refine .p rfl (D.mul rfl rfl) ?_
      refine .p rfl (D.add rfl rfl) ?_
      refine .p rfl (D.mv (x := aI k_) rfl) ?_
      refine .p rfl (D.mul rfl rfl) ?_
      refine .p rfl (D.add rfl rfl) ?_
      refine .p rfl (D.mv (x := aI k_) rfl) ?_
      refine .p rfl (D.mv rfl) ?_
      refine .p rfl (D.nck rfl rfl) ?_
      refine .p rfl (D.fld O51_0 rfl rfl rfl) ?_
      refine .p rfl (D.ld1 T22 rfl rfl rfl) ?_
      refine .p rfl (D.len E22 rfl) ?_
      obtain ⟨nz3, h_nz3, hh0⟩ := bs_ hh0
      refine .p rfl (D.quo rfl rfl (nz_ h_nz3)) ?_
      refine .p rfl (D.mul rfl rfl) ?_
      refine .p rfl (D.add rfl rfl) ?_
      refine .p rfl (D.as (x := aI (w64 ((w64 ((w64 ((w64 ((e1.toNat : Int) * 131)) + (w64 ((e2.toNat : Int) * 1117)))) + (w64 (k_ * 29)))) + (w64 ((w64 (k_.tdiv (r.b.length : Int))) * 53))))) rfl) ?_
      refine .nil (M := [0, 1, 3, 7, 0, 0, 32, 96, 224, 480, 1008, 2047, 4095, 8191, 16383, 0, 32768, 98304, 229376, 0, 524288, 1572864, 0, 4194304, 12582912, 29360128, 62914560, 133693440, 268402688, 536838144, 1073709056, 2147450880, 4294967295, 0, 8589934592, 34359738367, 0, 0, 137438953472, 412316860416, 962072674304, 2061584302080, 4329327034368, 8727373545472, 17592186044415, 35184372088831]) (by kernel_rfl) (Up.of ?_)
      refine EW.seq ?_
      refine EW.region ?_
      refine .p rfl (D.mv (x := aI (w64 ((w64 ((w64 ((w64 ((e1.toNat : Int) * 131)) + (w64 ((e2.toNat : Int) * 1117)))) + (w64 (k_ * 29)))) + (w64 ((w64 (k_.tdiv (r.b.length : Int))) * 53))))) rfl) ?_
      refine .p rfl (D.mv (x := aI (w64 ((w64 ((w64 ((w64 ((e1.toNat : Int) * 131)) + (w64 ((e2.toNat : Int) * 1117)))) + (w64 (k_ * 29)))) + (w64 ((w64 (k_.tdiv (r.b.length : Int))) * 53))))) rfl) ?_
      refine .p rfl (D.quo rfl rfl (by decide)) ?_
      refine .p rfl (D.xor rfl rfl) ?_
      obtain ⟨x, h_x, hh0⟩ := bs_ hh0
      refine .p rfl (D.as (x := aI x) (congrArg aI (sj_ h_x))) ?_
      refine .nil ?_
      refine EW.seq ?_
      refine EW.region ?_
      refine .p rfl (D.mv (x := aI x) rfl) ?_
      refine .p rfl (D.mv (x := aI n) rfl) ?_
      obtain ⟨nz4, h_nz4, hh0⟩ := bs_ hh0
      refine .p rfl (D.rem rfl rfl (nz_ h_nz4)) ?_
      refine .p rfl (D.as (x := aI (x.tmod n)) rfl) ?_
      refine .nil ?_
      obtain rfl := sj_ hh0
      exact EW.retA [0] (fun _ h => ⟨.inr rfl, h⟩) hf ⟨.c .fz, trivial⟩ ⟨rfl, .box (.all rfl), rfl⟩

theorem spec_l6Rd_of_ok {r : L6Rd} {list : (List Str)} {y : Str × L6Rd} (hh0 : spec_l6Rd_of r list = some y) (g : Nat → Nat) : Fn Tryd.prog 14 (stoF g [(0, .box 51 [aL 1 eU r.b, aI r.p])]) [.pt 0 (g 0) 0, aL 1 eS list] (stoF g [(0, .box 51 [aL 1 eU y.2.b, aI y.2.p])]) (aS y.1) := by
  refine Fn.of0 (hs := [0]) (kl := [0]) (L := (fun f => [(4, aS y.1)])) (O := (fun f => [(0, .box 51 [aL 1 eU y.2.b, aI y.2.p])])) Tryd.func14 rfl Tryd.ntmps14 rfl (fun f hf => ⟨(.same rfl hf.1 (.box (.all rfl)) .nil), .one (Nat.le_of_ble_eq_true rfl) (.tmp rfl) (.c .fz)⟩) rfl rfl (fun C => ?_)
  have hf : agree g [0] g := agree_refl g _
  refine EW.seq ?_
  refine EW.region ?_
  refine .p rfl (D.as (x := aS []) rfl) ?_
  refine .nil ?_
  refine EW.seq ?_
  refine EW.region ?_
  refine .p rfl (D.mv (x := aL 1 eS list) rfl) ?_
  refine .p rfl (D.mv rfl) ?_
  refine .p rfl (D.mv (x := aL 1 eS list) rfl) ?_
  refine .klen 7 rfl rfl fun hl => ?_
  refine .p rfl (D.len E24 rfl) ?_
  obtain ⟨r1, h_r1, hh0⟩ := bs_ hh0
  refine .c rfl (D.callG (eff := [(0, ⟨_, .box 51 [aL 1 eU r1.2.b, aI r1.2.p]⟩)]) (spec_l6Rd_pick_ok h_r1 g) C13 rfl [(0, 0)] [] [0] (.cons (.c (.pt rfl rfl rfl rfl)) (.cons (.c .fz) .nil)) rfl rfl (.cons rfl (.box (.all rfl)) .nil) rfl rfl rfl (.same rfl rfl rfl (.box (.all rfl)) .nil) .nil (.v (.c .fz))) ?_
  obtain ⟨e, h_e, hh0⟩ := bs_ hh0
  refine .p rfl (D.idx E24 rfl rfl h_e rfl) ?_
  refine .p rfl (D.ldp1 T9 rfl rfl) ?_
  refine .p rfl (D.as (x := aS e) rfl) ?_
  refine .nil ?_
  obtain rfl := sj_ hh0
  exact EW.retA [0] (fun _ h => ⟨.inr rfl, h⟩) hf ⟨.c .fz, trivial⟩ ⟨rfl, .box (.all rfl), rfl⟩

theorem spec_l6Many_l0_ok : ∀ (s1 : Str) (n1 : Int) (out : Str) (o : Str), spec_l6Many_l0 s1 n1 out = some o →
    ∀ (g : Nat → Nat) (C : Ctx Tryd.prog) (Q : Exit → St → Prop), (∀ σ', At g [] (fun f => [(5, aS o)]) (fun f => []) σ' → Q (.exit 0) σ') → ∀ σ, At g [] (fun f => [(0, aS s1), (1, aI n1), (5, aS out)]) (fun f => []) σ → EWL C 20 (bAt Tryd.f24 [1, 1, 0, 0, 0]) σ Q := by
  refine spec_l6Many_l0.partial_correctness (fun s1 n1 out o => ∀ (g : Nat → Nat) (C : Ctx Tryd.prog) (Q : Exit → St → Prop), (∀ σ', At g [] (fun f => [(5, aS o)]) (fun f => []) σ' → Q (.exit 0) σ') → ∀ σ, At g [] (fun f => [(0, aS s1), (1, aI n1), (5, aS out)]) (fun f => []) σ → EWL C 20 (bAt Tryd.f24 [1, 1, 0, 0, 0]) σ Q) ?_
  intro self ih s1 n1 out o hh0
  intro g C Q hx σ hσ
  obtain ⟨f, hf, rfl⟩ := hσ
  refine EWL.round ?_
  refine EW.seq ?_
  refine EW.seq ?_
  refine EW.region ?_
  refine .p rfl (D.mv (x := aI n1) rfl) ?_
  refine .p rfl (D.gt rfl rfl) ?_
  refine .nil ?_
  rcases it hh0 with ⟨hb, hh0⟩ | ⟨hb, hh0⟩
  · refine EW.condT rfl rfl hb ?_
    refine EW.skip ?_
    refine EW.block ?_
    refine EW.seq ?_
    refine EW.seq ?_
    refine EW.region ?_
    refine .p rfl (D.mv (x := aI n1) rfl) ?_
    refine .p rfl (D.rem rfl rfl (by decide)) ?_
    refine .p rfl (D.eqI rfl rfl) ?_
    refine .nil ?_
    obtain ⟨o_, hh1, hh0⟩ := bs_ hh0
    refine EW.bj (At g [] (fun f => [(0, aS s1), (1, aI n1), (5, aS o_)]) (fun f => [])) ?_ ?_
    · rcases it hh1 with ⟨hb, hh1⟩ | ⟨hb, hh1⟩
      · refine EW.condT rfl rfl hb ?_
        refine EW.region ?_
        refine .p rfl (D.mv (x := aS out) rfl) ?_
        refine .p rfl (D.mv (x := aS s1) rfl) ?_
        obtain ⟨s2, h_s2, hh1⟩ := bs_ hh1
        refine .p rfl (D.cat rfl rfl h_s2) ?_
        refine .p rfl (D.as (x := aS s2) rfl) ?_
        obtain rfl := sj_ hh1
        exact .nilA [] (fun _ h => h) hf ⟨.c .fz, .c .fz, .c .fz, trivial⟩ rfl
      · refine EW.condF rfl rfl hb ?_
        obtain rfl := sj_ hh1
        exact EW.skipA [] (fun _ h => h) hf ⟨.c .fz, .c .fz, .c .fz, trivial⟩ rfl
    · rintro _ ⟨f, hf, rfl⟩
      refine EW.seq ?_
      refine EW.region ?_
      refine .p rfl (D.mv (x := aS s1) rfl) ?_
      refine .p rfl (D.mv (x := aS s1) rfl) ?_
      obtain ⟨s3, h_s3, hh0⟩ := bs_ hh0
      refine .p rfl (D.cat rfl rfl h_s3) ?_
      refine .p rfl (D.as (x := aS s3) rfl) ?_
      refine .nil ?_
      refine EW.region ?_
      refine .p rfl (D.mv (x := aI n1) rfl) ?_
      refine .p rfl (D.quo rfl rfl (by decide)) ?_
      obtain ⟨n2, h_n2, hh0⟩ := bs_ hh0
      refine .p rfl (D.as (x := aI n2) (congrArg aI (sj_ h_n2))) ?_
      refine .nil ?_
      exact EWL.less [] (ih _ _ _ _ hh0 _ _ _ hx) hf ⟨.c .fz, .c .fz, .c .fz, trivial⟩ rfl
  · refine EW.condF rfl rfl hb ?_
    obtain rfl := sj_ hh0
    exact EW.exitA [] (fun _ h => hx _ h) hf ⟨.c .fz, trivial⟩ rfl

theorem spec_l6Many_ok {s : Str} {n : Int} {y : Str} (hh0 : spec_l6Many s n = some y) (g : Nat → Nat) : Fn Tryd.prog 24 (stoF g []) [aS s, aI n] (stoF g []) (aS y) := by
  refine Fn.of0 (hs := []) (kl := []) (L := (fun f => [(4, aS y)])) (O := (fun f => [])) Tryd.func24 rfl Tryd.ntmps24 rfl (fun f hf => ⟨.nil, .one (Nat.le_of_ble_eq_true rfl) (.tmp rfl) (.c .fz)⟩) rfl rfl (fun C => ?_)
  have hf : agree g [] g := agree_refl g _
  refine EW.seq ?_
  refine EW.region ?_
  refine .p rfl (D.as (x := aS []) rfl) ?_
  refine .nil ?_
  refine EW.seq ?_
  refine EW.region ?_
  refine .p rfl (D.as (x := aS []) rfl) ?_
  refine .nil ?_
  refine EW.seq ?_
  obtain ⟨o_1, hl, hh0⟩ := bs_ hh0
  refine EW.bj (At g [] (fun f => [(5, aS o_1)]) (fun f => [])) (EW.block (EW.loop (EWL.less [] (spec_l6Many_l0_ok _ _ _ _ hl g C _ (fun _ h => h)) hf ⟨.c .fz, .c .fz, .c .fz, trivial⟩ rfl))) ?_
  rintro _ ⟨f, hf, rfl⟩
  refine EW.seq ?_
  refine EW.region ?_
  refine .p rfl (D.mv (x := aS o_1) rfl) ?_
  refine .p rfl (D.as (x := aS o_1) rfl) ?_
  refine .nil ?_
  obtain rfl := sj_ hh0
  exact EW.retA [] (fun _ h => ⟨.inr rfl, h⟩) hf ⟨.c .fz, trivial⟩ rfl

theorem spec_l71Fit_all : (∀ (t : L6Rd) (o_ : Schema) (y : Json × L6Rd), spec_l71Fit t o_ = some y → ∀ g : Nat → Nat, Fn Tryd.prog 22 (stoF g [(0, .box 51 [aL 1 eU t.b, aI t.p])]) [.pt 0 (g 0) 0, .ag [aI o_.Kind, aI o_.Min, aI o_.Max, aL 1 eS o_.Names, aL 1 eB o_.Must, aL 6 Schema.c o_.Kids]] (stoF (bumpF g [1]) [(0, .box 51 [aL 1 eU y.2.b, aI y.2.p]), (1, oR 9 1 eS y.1.Names)]) (.ag [aI y.1.Kind, aB y.1.Flag, aS y.1.Text, .ow 1 ((bumpF g [1]) 1), aL 5 Json.c y.1.Kids]))
   ∧ (∀ (o_ : Schema) (x : Int) (b2 : (List UInt8)) (p2 : Int) (out3 : (List Str)) (out4 : (List Json)) (o : (List UInt8) × Int × (List Str) × (List Json)), spec_l71Fit_l3 o_ x b2 p2 out3 out4 = some o → ∀ (g : Nat → Nat) (C : Ctx Tryd.prog) (Q : Exit → St → Prop), (∀ σ', At g [0] (fun f => [(4, .pt 2 (f 2) 0), (5, .pt 4 (f 4) 0)]) (fun f => [(0, .box 51 [aL 1 eU o.1, aI o.2.1]), (1, oR 9 1 eS o.2.2.1), (2, .box 27 [aI 0, aB false, aS [], nilA, nilA]), (4, .box 27 [aI o_.Kind, aB false, aS [], .ow 1 (f 1), .ow 5 (f 5)]), (5, oR 27 5 Json.c o.2.2.2)]) σ' → Q (.exit 3) σ') → ∀ σ, At g [0] (fun f => [(0, .pt 0 (f 0) 0), (3, .pt 3 (f 3) 0), (4, .pt 2 (f 2) 0), (5, .pt 4 (f 4) 0), (7, aI x)]) (fun f => [(0, .box 51 [aL 1 eU b2, aI p2]), (1, oR 9 1 eS out3), (2, .box 27 [aI 0, aB false, aS [], nilA, nilA]), (3, .box 56 [aI o_.Kind, aI o_.Min, aI o_.Max, aL 1 eS o_.Names, aL 1 eB o_.Must, aL 6 Schema.c o_.Kids]), (4, .box 27 [aI o_.Kind, aB false, aS [], .ow 1 (f 1), .ow 5 (f 5)]), (5, oR 27 5 Json.c out4)]) σ → EWL C 160 (bAt Tryd.f22 [1, 1, 1, 1, 0, 1, 0, 0]) σ Q)
   ∧ (∀ (o_ : Schema) (y_ : Int) (b : (List UInt8)) (p : Int) (out : (List Json)) (o : (List UInt8) × Int × (List Json)), spec_l71Fit_l1 o_ y_ b p out = some o → ∀ (g : Nat → Nat) (C : Ctx Tryd.prog) (Q : Exit → St → Prop), (∀ σ', At g [0] (fun f => [(0, .pt 0 (f 0) 0), (3, .pt 3 (f 3) 0), (4, .pt 2 (f 2) 0), (5, .pt 4 (f 4) 0)]) (fun f => [(0, .box 51 [aL 1 eU o.1, aI o.2.1]), (2, .box 27 [aI 0, aB false, aS [], nilA, nilA]), (3, .box 56 [aI o_.Kind, aI o_.Min, aI o_.Max, aL 1 eS o_.Names, aL 1 eB o_.Must, aL 6 Schema.c o_.Kids]), (4, .box 27 [aI o_.Kind, aB false, aS [], nilA, .ow 5 (f 5)]), (5, oR 27 5 Json.c o.2.2)]) σ' → Q (.exit 1) σ') → ∀ σ, At g [0] (fun f => [(0, .pt 0 (f 0) 0), (3, .pt 3 (f 3) 0), (4, .pt 2 (f 2) 0), (5, .pt 4 (f 4) 0), (6, aI y_)]) (fun f => [(0, .box 51 [aL 1 eU b, aI p]), (2, .box 27 [aI 0, aB false, aS [], nilA, nilA]), (3, .box 56 [aI o_.Kind, aI o_.Min, aI o_.Max, aL 1 eS o_.Names, aL 1 eB o_.Must, aL 6 Schema.c o_.Kids]), (4, .box 27 [aI o_.Kind, aB false, aS [], nilA, .ow 5 (f 5)]), (5, oR 27 5 Json.c out)]) σ → EWL C 160 (bAt Tryd.f22 [1, 1, 1, 0, 1, 0, 0]) σ Q) := by
  refine spec_l71Fit.mpc (fun t o_ y => ∀ g : Nat → Nat, Fn Tryd.prog 22 (stoF g [(0, .box 51 [aL 1 eU t.b, aI t.p])]) [.pt 0 (g 0) 0, .ag [aI o_.Kind, aI o_.Min, aI o_.Max, aL 1 eS o_.Names, aL 1 eB o_.Must, aL 6 Schema.c o_.Kids]] (stoF (bumpF g [1]) [(0, .box 51 [aL 1 eU y.2.b, aI y.2.p]), (1, oR 9 1 eS y.1.Names)]) (.ag [aI y.1.Kind, aB y.1.Flag, aS y.1.Text, .ow 1 ((bumpF g [1]) 1), aL 5 Json.c y.1.Kids]))
    (fun o_ x b2 p2 out3 out4 o => ∀ (g : Nat → Nat) (C : Ctx Tryd.prog) (Q : Exit → St → Prop), (∀ σ', At g [0] (fun f => [(4, .pt 2 (f 2) 0), (5, .pt 4 (f 4) 0)]) (fun f => [(0, .box 51 [aL 1 eU o.1, aI o.2.1]), (1, oR 9 1 eS o.2.2.1), (2, .box 27 [aI 0, aB false, aS [], nilA, nilA]), (4, .box 27 [aI o_.Kind, aB false, aS [], .ow 1 (f 1), .ow 5 (f 5)]), (5, oR 27 5 Json.c o.2.2.2)]) σ' → Q (.exit 3) σ') → ∀ σ, At g [0] (fun f => [(0, .pt 0 (f 0) 0), (3, .pt 3 (f 3) 0), (4, .pt 2 (f 2) 0), (5, .pt 4 (f 4) 0), (7, aI x)]) (fun f => [(0, .box 51 [aL 1 eU b2, aI p2]), (1, oR 9 1 eS out3), (2, .box 27 [aI 0, aB false, aS [], nilA, nilA]), (3, .box 56 [aI o_.Kind, aI o_.Min, aI o_.Max, aL 1 eS o_.Names, aL 1 eB o_.Must, aL 6 Schema.c o_.Kids]), (4, .box 27 [aI o_.Kind, aB false, aS [], .ow 1 (f 1), .ow 5 (f 5)]), (5, oR 27 5 Json.c out4)]) σ → EWL C 160 (bAt Tryd.f22 [1, 1, 1, 1, 0, 1, 0, 0]) σ Q)
    (fun o_ y_ b p out o => ∀ (g : Nat → Nat) (C : Ctx Tryd.prog) (Q : Exit → St → Prop), (∀ σ', At g [0] (fun f => [(0, .pt 0 (f 0) 0), (3, .pt 3 (f 3) 0), (4, .pt 2 (f 2) 0), (5, .pt 4 (f 4) 0)]) (fun f => [(0, .box 51 [aL 1 eU o.1, aI o.2.1]), (2, .box 27 [aI 0, aB false, aS [], nilA, nilA]), (3, .box 56 [aI o_.Kind, aI o_.Min, aI o_.Max, aL 1 eS o_.Names, aL 1 eB o_.Must, aL 6 Schema.c o_.Kids]), (4, .box 27 [aI o_.Kind, aB false, aS [], nilA, .ow 5 (f 5)]), (5, oR 27 5 Json.c o.2.2)]) σ' → Q (.exit 1) σ') → ∀ σ, At g [0] (fun f => [(0, .pt 0 (f 0) 0), (3, .pt 3 (f 3) 0), (4, .pt 2 (f 2) 0), (5, .pt 4 (f 4) 0), (6, aI y_)]) (fun f => [(0, .box 51 [aL 1 eU b, aI p]), (2, .box 27 [aI 0, aB false, aS [], nilA, nilA]), (3, .box 56 [aI o_.Kind, aI o_.Min, aI o_.Max, aL 1 eS o_.Names, aL 1 eB o_.Must, aL 6 Schema.c o_.Kids]), (4, .box 27 [aI o_.Kind, aB false, aS [], nilA, .ow 5 (f 5)]), (5, oR 27 5 Json.c out)]) σ → EWL C 160 (bAt Tryd.f22 [1, 1, 1, 0, 1, 0, 0]) σ Q) ?_ ?_ ?_
  · intro sf_spec_l71Fit sf_spec_l71Fit_l3 sf_spec_l71Fit_l1 ih_spec_l71Fit ih_spec_l71Fit_l3 ih_spec_l71Fit_l1 t o_ y hh0
    intro g
    refine Fn.of (bs := [1]) (hs := [0]) (kl := [0, 1]) (L := (fun f => [(4, .pt 2 (f 2) 0)])) (O := (fun f => [(0, .box 51 [aL 1 eU y.2.b, aI y.2.p]), (1, oR 9 1 eS y.1.Names), (2, .box 27 [aI y.1.Kind, aB y.1.Flag, aS y.1.Text, .ow 1 (f 1), aL 5 Json.c y.1.Kids])])) Tryd.func22 rfl Tryd.ntmps22 rfl (fun f hf => ⟨(.same rfl hf.1 (.box (.all rfl)) (.more rfl .row .nil)), .one (Nat.le_of_ble_eq_true rfl) (.cellN rfl rfl T27 (Nat.le_of_ble_eq_true rfl)) (.ag (.cons .fz (.cons .fz (.cons .fz (.cons (.ow rfl rfl rfl) (.cons .fz .nil))))))⟩) rfl rfl rfl (fun C => ?_)
    have hf : agree g [0] g := agree_refl g _
    refine EW.seq ?_
    refine EW.region ?_
    refine .w rfl (D.box 3 rfl rfl) ?_
    refine .w rfl (D.alloc 2 rfl ZF27 rfl rfl) ?_
    refine .nil ?_
    refine EW.seq ?_
    refine EW.seq ?_
    refine EW.region ?_
    refine .p rfl (D.fld O56_0 rfl rfl rfl) ?_
    refine .p rfl (D.ld1 T3 rfl rfl rfl) ?_
    refine .nil ?_
    refine EW.block ?_
    refine EW.seq ?_
    refine EW.region ?_
    refine .p rfl (D.eqI rfl rfl) ?_
    refine .p rfl (D.as (x := aB (o_.Kind == 1)) rfl) ?_
    refine .nil ?_
    rcases it hh0 with ⟨hb, hh0⟩ | ⟨hb, hh0⟩
    · refine EW.condT rfl rfl hb ?_
      refine EW.seq ?_
      refine EW.region ?_
      refine .p rfl (D.build FS27 ZF27 rfl (.cons rfl .nil) rfl) ?_
      refine .st rfl (D.st T27 rfl rfl rfl rfl rfl rfl) ?_
      refine .nil ?_
      obtain rfl := sj_ hh0
      refine EW.pr (.b 2 3 1 9 1 rfl rfl rfl rfl rfl) ?_
      exact EW.retA [0, 1, 2] (fun _ h => ⟨.inr rfl, h⟩) hf ⟨.c (.pt rfl rfl rfl), trivial⟩ ⟨rfl, .box (.all rfl), rfl, .row, rfl, .box (.cons .fz (.cons .fz (.cons .fz (.cons (.ow rfl rfl rfl) (.cons .nil .nil))))), rfl⟩
    · refine EW.condF rfl rfl hb ?_
      refine EW.seq ?_
      refine EW.region ?_
      refine .p rfl (D.eqI rfl rfl) ?_
      refine .p rfl (D.as (x := aB (o_.Kind == 2)) rfl) ?_
      refine .nil ?_
      rcases it hh0 with ⟨hb, hh0⟩ | ⟨hb, hh0⟩
      · refine EW.condT rfl rfl hb ?_
        refine EW.seq ?_
        refine EW.region ?_
        refine .p rfl (D.mv rfl) ?_
        obtain ⟨r, h_r, hh0⟩ := bs_ hh0
        refine .c rfl (D.callG (eff := [(0, ⟨_, .box 51 [aL 1 eU r.2.b, aI r.2.p]⟩)]) (spec_l6Rd_pick_ok h_r g) C13 rfl [(0, 0)] [] [0] (.cons (.c (.pt rfl rfl rfl rfl)) (.cons (.c .fz) .nil)) rfl rfl (.cons rfl (.box (.all rfl)) .nil) rfl rfl rfl (.same rfl rfl rfl (.box (.all rfl)) .nil) .nil (.v (.c .fz))) ?_
        refine .p rfl (D.eqI rfl rfl) ?_
        refine .p rfl (D.build FS27 ZF27 rfl (.cons rfl (.cons rfl .nil)) rfl) ?_
        refine .st rfl (D.st T27 rfl rfl rfl rfl rfl rfl) ?_
        refine .nil ?_
        obtain rfl := sj_ hh0
        refine EW.pr (.b 2 3 1 9 1 rfl rfl rfl rfl rfl) ?_
        exact EW.retA [0, 1, 2] (fun _ h => ⟨.inr rfl, h⟩) hf ⟨.c (.pt rfl rfl rfl), trivial⟩ ⟨rfl, .box (.all rfl), rfl, .row, rfl, .box (.cons .fz (.cons .fz (.cons .fz (.cons (.ow rfl rfl rfl) (.cons .nil .nil))))), rfl⟩
      · refine EW.condF rfl rfl hb ?_
        refine EW.seq ?_
        refine EW.region ?_
        refine .p rfl (D.eqI rfl rfl) ?_
        refine .p rfl (D.as (x := aB (o_.Kind == 3)) rfl) ?_
        refine .nil ?_
        rcases it hh0 with ⟨hb, hh0⟩ | ⟨hb, hh0⟩
        · refine EW.condT rfl rfl hb ?_
          refine EW.seq ?_
          refine EW.region ?_
          refine .p rfl (D.mv rfl) ?_
          refine .p rfl (D.litZ (l := ([[48], [55], [45, 49, 50], [49, 50, 51, 52, 53, 54, 55], [49, 50, 51, 52, 53, 54, 55, 56], [48, 49], [45, 48]] : List Str)) (enc := eS) Tryd.underlying24 ZB9 rfl rfl rfl (fun _ => rfl) (.cons (.one .fz) (.cons (.one .fz) (.cons (.one .fz) (.cons (.one .fz) (.cons (.one .fz) (.cons (.one .fz) (.cons (.one .fz) .nil)))))))) ?_
          obtain ⟨r1, h_r1, hh0⟩ := bs_ hh0
          refine .c rfl (D.callG (eff := [(0, ⟨_, .box 51 [aL 1 eU r1.2.b, aI r1.2.p]⟩)]) (spec_l6Rd_of_ok h_r1 g) C14 rfl [(0, 0)] [] [0] (.cons (.c (.pt rfl rfl rfl rfl)) (.cons (.c .fz) .nil)) rfl rfl (.cons rfl (.box (.all rfl)) .nil) rfl rfl rfl (.same rfl rfl rfl (.box (.all rfl)) .nil) .nil (.v (.c .fz))) ?_
          refine .p rfl (D.build FS27 ZF27 rfl (.cons rfl (.cons rfl .nil)) rfl) ?_
          refine .st rfl (D.st T27 rfl rfl rfl rfl rfl rfl) ?_
          refine .nil ?_
          obtain rfl := sj_ hh0
          refine EW.pr (.b 2 3 1 9 1 rfl rfl rfl rfl rfl) ?_
          exact EW.retA [0, 1, 2] (fun _ h => ⟨.inr rfl, h⟩) hf ⟨.c (.pt rfl rfl rfl), trivial⟩ ⟨rfl, .box (.all rfl), rfl, .row, rfl, .box (.cons .fz (.cons .fz (.cons .fz (.cons (.ow rfl rfl rfl) (.cons .nil .nil))))), rfl⟩
        · refine EW.condF rfl rfl hb ?_
          refine EW.seq ?_
          refine EW.region ?_
          refine .p rfl (D.eqI rfl rfl) ?_
          refine .p rfl (D.as (x := aB (o_.Kind == 4)) rfl) ?_
          refine .nil ?_
          rcases it hh0 with ⟨hb, hh0⟩ | ⟨hb, hh0⟩
          · refine EW.condT rfl rfl hb ?_
            refine EW.seq ?_
            refine EW.drawU MX ?_
            refine .p rfl (D.mv rfl) ?_
            refine .p rfl (D.litZ (l := ([[97], [32], [126]] : List Str)) (enc := eS) Tryd.underlying24 ZB9 rfl rfl rfl (fun _ => rfl) (.cons (.one .fz) (.cons (.one .fz) (.cons (.one .fz) .nil)))) ?_
            obtain ⟨r2, h_r2, hh0⟩ := bs_ hh0
            refine .c rfl (D.callG (eff := [(0, ⟨_, .box 51 [aL 1 eU r2.2.b, aI r2.2.p]⟩)]) (spec_l6Rd_of_ok h_r2 g) C14 rfl [(0, 0)] [] [0] (.cons (.c (.pt rfl rfl rfl rfl)) (.cons (.c .fz) .nil)) rfl rfl (.cons rfl (.box (.all rfl)) .nil) rfl rfl rfl (.same rfl rfl rfl (.box (.all rfl)) .nil) .nil (.v (.c .fz))) ?_
            refine .p rfl (D.fld O56_1 rfl rfl rfl) ?_
            refine .p rfl (D.ld1 T3 rfl rfl rfl) ?_
            refine .p rfl (D.mv rfl) ?_
            refine .p rfl (D.fld O56_2 rfl rfl rfl) ?_
            refine .p rfl (D.ld1 T3 rfl rfl rfl) ?_
            refine .p rfl (D.fld O56_1 rfl rfl rfl) ?_
            refine .p rfl (D.ld1 T3 rfl rfl rfl) ?_
            refine .p rfl (D.sub rfl rfl) ?_
            refine .p rfl (D.add rfl rfl) ?_
            refine .p rfl (D.mv rfl) ?_
            obtain ⟨r3, h_r3, hh0⟩ := bs_ hh0
            refine .c rfl (D.callG (eff := [(0, ⟨_, .box 51 [aL 1 eU r3.2.b, aI r3.2.p]⟩)]) (spec_l6Rd_pick_ok h_r3 g) C13 rfl [(0, 0)] [] [0] (.cons (.c (.pt rfl rfl rfl rfl)) (.cons (.c .fz) .nil)) rfl rfl (.cons rfl (.box (.all rfl)) .nil) rfl rfl rfl (.same rfl rfl rfl (.box (.all rfl)) .nil) .nil (.v (.c .fz))) ?_
            refine .p rfl (D.quo rfl rfl (by decide)) ?_
            refine .p rfl (D.add rfl rfl) ?_
            obtain ⟨r4, h_r4, hh0⟩ := bs_ hh0
            refine .c rfl (D.callG (eff := [(0, ⟨_, .box 51 [aL 1 eU r4.2.b, aI r4.2.p]⟩)]) (spec_l6Rd_pick_ok h_r4 g) C13 rfl [(0, 0)] [] [0] (.cons (.c (.pt rfl rfl rfl rfl)) (.cons (.c .fz) .nil)) rfl rfl (.cons rfl (.box (.all rfl)) .nil) rfl rfl rfl (.same rfl rfl rfl (.box (.all rfl)) .nil) .nil (.v (.c .fz))) ?_
            refine .p rfl (D.add rfl rfl) ?_
            obtain ⟨r5, h_r5, hh0⟩ := bs_ hh0
            refine .p rfl (D.call0 (spec_l6Many_ok h_r5 g) C24 rfl [] (.cons (.c .fz) (.cons (.c .fz) .nil)) (.v (.c .fz))) ?_
            refine .p rfl (D.build FS27 ZF27 rfl (.cons rfl (.cons rfl .nil)) rfl) ?_
            refine .st rfl (D.st T27 rfl rfl rfl rfl rfl rfl) ?_
            refine .nil (M := [0, 0, 3, 0, 8, 0, 0, 64, 0, 256, 960, 1984, 0, 4103, 12295, 32711, 65511, 131071, 262143, 524287, 1048575]) (by kernel_rfl) (Up.of ?_)
            obtain rfl := sj_ hh0
            refine EW.pr (.b 2 3 1 9 1 rfl rfl rfl rfl rfl) ?_
            exact EW.retA [0, 1, 2] (fun _ h => ⟨.inr rfl, h⟩) hf ⟨.c (.pt rfl rfl rfl), trivial⟩ ⟨rfl, .box (.all rfl), rfl, .row, rfl, .box (.cons .fz (.cons .fz (.cons .fz (.cons (.ow rfl rfl rfl) (.cons .nil .nil))))), rfl⟩
          · refine EW.condF rfl rfl hb ?_
            refine EW.seq ?_
            refine EW.region ?_
            refine .p rfl (D.eqI rfl rfl) ?_
            refine .p rfl (D.as (x := aB (o_.Kind == 8)) rfl) ?_
            refine .nil ?_
            rcases it hh0 with ⟨hb, hh0⟩ | ⟨hb, hh0⟩
            · refine EW.condT rfl rfl hb ?_
              refine EW.seq ?_
              refine EW.drawU MX ?_
              refine .p rfl (D.fld O56_3 rfl rfl rfl) ?_
              refine .p rfl (D.ld1 T24 rfl rfl rfl) ?_
              refine .p rfl (D.mv rfl) ?_
              refine .p rfl (D.fld O56_3 rfl rfl rfl) ?_
              refine .p rfl (D.ld1 T24 rfl rfl rfl) ?_
              refine .p rfl (D.len E24 rfl) ?_
              obtain ⟨r6, h_r6, hh0⟩ := bs_ hh0
              refine .c rfl (D.callG (eff := [(0, ⟨_, .box 51 [aL 1 eU r6.2.b, aI r6.2.p]⟩)]) (spec_l6Rd_pick_ok h_r6 g) C13 rfl [(0, 0)] [] [0] (.cons (.c (.pt rfl rfl rfl rfl)) (.cons (.c .fz) .nil)) rfl rfl (.cons rfl (.box (.all rfl)) .nil) rfl rfl rfl (.same rfl rfl rfl (.box (.all rfl)) .nil) .nil (.v (.c .fz))) ?_
              obtain ⟨Name, h_Name, hh0⟩ := bs_ hh0
              refine .p rfl (D.idx E24 rfl rfl h_Name rfl) ?_
              refine .p rfl (D.ldp1 T9 rfl rfl) ?_
              refine .p rfl (D.build FS27 ZF27 rfl (.cons rfl (.cons rfl .nil)) rfl) ?_
              refine .st rfl (D.st T27 rfl rfl rfl rfl rfl rfl) ?_
              refine .nil (M := [0, 1, 0, 0, 8, 24, 60, 127, 255, 511, 1023]) (by kernel_rfl) (Up.of ?_)
              obtain rfl := sj_ hh0
              refine EW.pr (.b 2 3 1 9 1 rfl rfl rfl rfl rfl) ?_
              exact EW.retA [0, 1, 2] (fun _ h => ⟨.inr rfl, h⟩) hf ⟨.c (.pt rfl rfl rfl), trivial⟩ ⟨rfl, .box (.all rfl), rfl, .row, rfl, .box (.cons .fz (.cons .fz (.cons .fz (.cons (.ow rfl rfl rfl) (.cons .nil .nil))))), rfl⟩
            · refine EW.condF rfl rfl hb ?_
              refine EW.seq ?_
              refine EW.region ?_
              refine .p rfl (D.eqI rfl rfl) ?_
              refine .p rfl (D.as (x := aB (o_.Kind == 7)) rfl) ?_
              refine .nil ?_
              rcases it hh0 with ⟨hb, hh0⟩ | ⟨hb, hh0⟩
              · refine EW.condT rfl rfl hb ?_
                refine EW.seq ?_
                refine EW.drawU MX ?_
                refine .p rfl (D.mv rfl) ?_
                refine .p rfl (D.fld O56_5 rfl rfl rfl) ?_
                refine .p rfl (D.ld1 T54 rfl rfl rfl) ?_
                refine .p rfl (D.mv rfl) ?_
                refine .p rfl (D.fld O56_5 rfl rfl rfl) ?_
                refine .p rfl (D.ld1 T54 rfl rfl rfl) ?_
                refine .p rfl (D.len E54 rfl) ?_
                obtain ⟨r7, h_r7, hh0⟩ := bs_ hh0
                refine .c rfl (D.callG (eff := [(0, ⟨_, .box 51 [aL 1 eU r7.2.b, aI r7.2.p]⟩)]) (spec_l6Rd_pick_ok h_r7 g) C13 rfl [(0, 0)] [] [0] (.cons (.c (.pt rfl rfl rfl rfl)) (.cons (.c .fz) .nil)) rfl rfl (.cons rfl (.box (.all rfl)) .nil) rfl rfl rfl (.same rfl rfl rfl (.box (.all rfl)) .nil) .nil (.v (.c .fz))) ?_
                obtain ⟨Kid, h_Kid, hh0⟩ := bs_ hh0
                refine .p rfl (D.idx E54 rfl rfl h_Kid (Schema.c_eq _)) ?_
                refine .p rfl (D.ldpN T56 rfl rfl rfl) ?_
                obtain ⟨r8, h_r8, hh0⟩ := bs_ hh0
                refine .c rfl (D.callG (eff := [(0, ⟨_, .box 51 [aL 1 eU r8.2.b, aI r8.2.p]⟩), (1, ⟨_, oR 9 1 eS r8.1.Names⟩)]) (ih_spec_l71Fit _ _ _ h_r8 g) C22 rfl [(0, 0)] [(1, 1)] [0, 1] (.cons (.c (.pt rfl rfl rfl rfl)) (.cons (.ag (.all rfl)) .nil)) rfl rfl (.cons rfl (.box (.all rfl)) .nil) rfl rfl rfl (.same rfl rfl rfl (.box (.all rfl)) .nil) (.more rfl rfl .row .nil) (.v (.ag (.cons .fz (.cons .fz (.cons .fz (.cons (.ow rfl rfl rfl) (.cons .fz .nil)))))))) ?_
                refine .st rfl (D.st T27 rfl rfl rfl rfl rfl rfl) ?_
                refine .nil (M := [0, 0, 2, 0, 0, 16, 48, 120, 254, 510, 1023, 2047]) (by kernel_rfl) (Up.of ?_)
                obtain rfl := sj_ hh0
                exact EW.retA [0, 1, 2] (fun _ h => ⟨.inr rfl, h⟩) hf ⟨.c (.pt rfl rfl rfl), trivial⟩ ⟨rfl, .box (.all rfl), rfl, .row, rfl, .box (.cons .fz (.cons .fz (.cons .fz (.cons (.ow rfl rfl rfl) (.cons .fz .nil))))), rfl⟩
              · refine EW.condF rfl rfl hb ?_
                refine EW.skip ?_
                refine EW.seq ?_
                refine EW.region ?_
                refine .p rfl (D.fld O56_0 rfl rfl rfl) ?_
                refine .p rfl (D.ld1 T3 rfl rfl rfl) ?_
                refine .p rfl (D.build FS27 ZF27 rfl (.cons rfl .nil) rfl) ?_
                refine .w rfl (D.alloc 4 rfl ZF27 rfl rfl) ?_
                refine .st rfl (D.st T27 rfl rfl rfl rfl rfl rfl) ?_
                refine .nil ?_
                refine EW.seq ?_
                refine EW.seq ?_
                refine EW.drawU MX ?_
                refine .p rfl (D.fld O56_1 rfl rfl rfl) ?_
                refine .p rfl (D.ld1 T3 rfl rfl rfl) ?_
                refine .p rfl (D.mv rfl) ?_
                refine .p rfl (D.fld O56_2 rfl rfl rfl) ?_
                refine .p rfl (D.ld1 T3 rfl rfl rfl) ?_
                refine .p rfl (D.fld O56_1 rfl rfl rfl) ?_
                refine .p rfl (D.ld1 T3 rfl rfl rfl) ?_
                refine .p rfl (D.sub rfl rfl) ?_
                refine .p rfl (D.add rfl rfl) ?_
                refine .p rfl (D.mv rfl) ?_
                obtain ⟨r9, h_r9, hh0⟩ := bs_ hh0
                refine .c rfl (D.callG (eff := [(0, ⟨_, .box 51 [aL 1 eU r9.2.b, aI r9.2.p]⟩)]) (spec_l6Rd_pick_ok h_r9 g) C13 rfl [(0, 0)] [] [0] (.cons (.c (.pt rfl rfl rfl rfl)) (.cons (.c .fz) .nil)) rfl rfl (.cons rfl (.box (.all rfl)) .nil) rfl rfl rfl (.same rfl rfl rfl (.box (.all rfl)) .nil) .nil (.v (.c .fz))) ?_
                refine .p rfl (D.quo rfl rfl (by decide)) ?_
                refine .p rfl (D.add rfl rfl) ?_
                obtain ⟨r10, h_r10, hh0⟩ := bs_ hh0
                refine .c rfl (D.callG (eff := [(0, ⟨_, .box 51 [aL 1 eU r10.2.b, aI r10.2.p]⟩)]) (spec_l6Rd_pick_ok h_r10 g) C13 rfl [(0, 0)] [] [0] (.cons (.c (.pt rfl rfl rfl rfl)) (.cons (.c .fz) .nil)) rfl rfl (.cons rfl (.box (.all rfl)) .nil) rfl rfl rfl (.same rfl rfl rfl (.box (.all rfl)) .nil) .nil (.v (.c .fz))) ?_
                refine .p rfl (D.add rfl rfl) ?_
                refine .p rfl (D.as (x := aI (w64 (o_.Min + r10.1))) rfl) ?_
                refine .nil (M := [0, 1, 0, 0, 8, 0, 32, 120, 248, 0, 512, 1536, 4088, 8188, 16383, 32767]) (by kernel_rfl) (Up.of ?_)
                obtain ⟨o_1, hl, hh0⟩ := bs_ hh0
                refine EW.bj (At g [0] (fun f => [(0, .pt 0 (f 0) 0), (3, .pt 3 (f 3) 0), (4, .pt 2 (f 2) 0), (5, .pt 4 (f 4) 0)]) (fun f => [(0, .box 51 [aL 1 eU o_1.1, aI o_1.2.1]), (2, .box 27 [aI 0, aB false, aS [], nilA, nilA]), (3, .box 56 [aI o_.Kind, aI o_.Min, aI o_.Max, aL 1 eS o_.Names, aL 1 eB o_.Must, aL 6 Schema.c o_.Kids]), (4, .box 27 [aI o_.Kind, aB false, aS [], nilA, .ow 5 (f 5)]), (5, oR 27 5 Json.c o_1.2.2)])) (EW.block (EW.loop (EWL.pr (.b 4 4 5 27 5 rfl rfl rfl rfl rfl) (EWL.less [0, 2, 3, 4, 5] (ih_spec_l71Fit_l1 _ _ _ _ _ _ hl g C _ (fun _ h => h)) hf ⟨.c (.pt rfl rfl rfl), .c (.pt rfl rfl rfl), .c (.pt rfl rfl rfl), .c (.pt rfl rfl rfl), .c .fz, trivial⟩ ⟨rfl, .box (.all rfl), rfl, .box (.all rfl), rfl, .box (.all rfl), rfl, .box (.cons .fz (.cons .fz (.cons .fz (.cons .fz (.cons (.ow rfl rfl rfl) .nil))))), rfl, .row, rfl⟩)))) ?_
                rintro _ ⟨f, hf, rfl⟩
                refine EW.seq ?_
                refine EW.seq ?_
                refine EW.region ?_
                refine .p rfl (D.as (x := aI 0) rfl) ?_
                refine .nil ?_
                obtain ⟨o_4, hl, hh0⟩ := bs_ hh0
                refine EW.bj (At g [0] (fun f => [(4, .pt 2 (f 2) 0), (5, .pt 4 (f 4) 0)]) (fun f => [(0, .box 51 [aL 1 eU o_4.1, aI o_4.2.1]), (1, oR 9 1 eS o_4.2.2.1), (2, .box 27 [aI 0, aB false, aS [], nilA, nilA]), (4, .box 27 [aI o_.Kind, aB false, aS [], .ow 1 (f 1), .ow 5 (f 5)]), (5, oR 27 5 Json.c o_4.2.2.2)])) (EW.block (EW.loop (EWL.pr (.b 4 3 1 9 1 rfl rfl rfl rfl rfl) (EWL.less [0, 1, 2, 3, 4, 5] (ih_spec_l71Fit_l3 _ _ _ _ _ _ _ hl g C _ (fun _ h => h)) hf ⟨.c (.pt rfl rfl rfl), .c (.pt rfl rfl rfl), .c (.pt rfl rfl rfl), .c (.pt rfl rfl rfl), .c .fz, trivial⟩ ⟨rfl, .box (.all rfl), rfl, .row, rfl, .box (.all rfl), rfl, .box (.all rfl), rfl, .box (.cons .fz (.cons .fz (.cons .fz (.cons (.ow rfl rfl rfl) (.cons (.ow rfl rfl rfl) .nil))))), rfl, .row, rfl⟩)))) ?_
                rintro _ ⟨f, hf, rfl⟩
                refine EW.seq ?_
                refine EW.region ?_
                refine .p rfl (D.ldN T27 rfl rfl rfl rfl) ?_
                refine .st rfl (D.st T27 rfl rfl rfl rfl rfl rfl) ?_
                refine .nil ?_
                obtain rfl := sj_ hh0
                exact EW.retA [0, 1, 2] (fun _ h => ⟨.inr rfl, h⟩) hf ⟨.c (.pt rfl rfl rfl), trivial⟩ ⟨rfl, .box (.all rfl), rfl, .row, rfl, .box (.cons .fz (.cons .fz (.cons .fz (.cons (.ow rfl rfl rfl) (.cons (.row rfl rfl) .nil))))), rfl⟩
  · intro sf_spec_l71Fit sf_spec_l71Fit_l3 ih_spec_l71Fit ih_spec_l71Fit_l3 o_ x b2 p2 out3 out4 o hh0
    intro g C Q hx σ hσ
    obtain ⟨f, hf, rfl⟩ := hσ
    refine EWL.round ?_
    refine EW.seq ?_
    refine EW.seq ?_
    refine EW.region ?_
    refine .p rfl (D.mv (x := aI x) rfl) ?_
    refine .p rfl (D.fld O56_3 rfl rfl rfl) ?_
    refine .p rfl (D.ld1 T24 rfl rfl rfl) ?_
    refine .klen 112 rfl rfl fun hl => ?_
    refine .p rfl (D.len E24 rfl) ?_
    refine .p rfl (D.lt rfl rfl) ?_
    refine .p rfl (D.mv (x := aB (decide (x < (o_.Names.length : Int)))) rfl) ?_
    refine .fork2 [118, 117, 116] 119 (aB ((decide (x < (o_.Names.length : Int))) && (o_.Kind == 6))) 4 (decide (x < (o_.Names.length : Int))) (fun hb5 K k5 => ?_) (fun hb5 K k5 => ?_) ?_
    ·
      refine .gy rfl rfl rfl hb5 rfl (D.fld O56_0 rfl rfl rfl) ?_
      refine .gy rfl rfl rfl hb5 rfl (D.ld1 T3 rfl rfl rfl) ?_
      refine .gy rfl rfl rfl hb5 rfl (D.eqI rfl rfl) ?_
      refine .p rfl (D.andT rfl hb5 rfl) ?_
      exact .drp (.same (.drop (.drop (.drop .nil)))) k5
    ·
      refine .gn rfl rfl rfl (nT hb5) ?_
      refine .gn rfl rfl rfl (nT hb5) ?_
      refine .gn rfl rfl rfl (nT hb5) ?_
      refine .p rfl (D.andF (c := (o_.Kind == 6)) rfl hb5 rfl) ?_
      exact .drp (.same (.drop (.drop (.drop .nil)))) k5
    refine .nil ?_
    rcases it hh0 with ⟨hb, hh0⟩ | ⟨hb, hh0⟩
    · refine EW.condT rfl rfl hb ?_
      refine EW.skip ?_
      refine EW.seq ?_
      obtain ⟨o_2, hh1, hh0⟩ := bs_ hh0
      refine EW.bj (At g [0] (fun f => [(0, .pt 0 (f 0) 0), (3, .pt 3 (f 3) 0), (4, .pt 2 (f 2) 0), (5, .pt 4 (f 4) 0), (7, aI x)]) (fun f => [(0, .box 51 [aL 1 eU o_2.1, aI o_2.2.1]), (1, oR 9 1 eS o_2.2.2.1), (2, .box 27 [aI 0, aB false, aS [], nilA, nilA]), (3, .box 56 [aI o_.Kind, aI o_.Min, aI o_.Max, aL 1 eS o_.Names, aL 1 eB o_.Must, aL 6 Schema.c o_.Kids]), (4, .box 27 [aI o_.Kind, aB false, aS [], .ow 1 (f 1), .ow 5 (f 5)]), (5, oR 27 5 Json.c o_2.2.2.2)])) ?_ ?_
      · refine EW.block ?_
        refine EW.seq ?_
        obtain ⟨o_3, hh2, hh1⟩ := bs_ hh1
        refine EW.bj (At g [0] (fun f => [(0, .pt 0 (f 0) 0), (3, .pt 3 (f 3) 0), (4, .pt 2 (f 2) 0), (5, .pt 4 (f 4) 0), (7, aI x), (136, aB o_3.1)]) (fun f => [(0, .box 51 [aL 1 eU o_3.2.1, aI o_3.2.2]), (1, oR 9 1 eS out3), (2, .box 27 [aI 0, aB false, aS [], nilA, nilA]), (3, .box 56 [aI o_.Kind, aI o_.Min, aI o_.Max, aL 1 eS o_.Names, aL 1 eB o_.Must, aL 6 Schema.c o_.Kids]), (4, .box 27 [aI o_.Kind, aB false, aS [], .ow 1 (f 1), .ow 5 (f 5)]), (5, oR 27 5 Json.c out4)])) ?_ ?_
        · refine EW.region ?_
          refine .p rfl (D.fld O56_4 rfl rfl rfl) ?_
          refine .p rfl (D.ld1 T53 rfl rfl rfl) ?_
          refine .p rfl (D.mv (x := aI x) rfl) ?_
          obtain ⟨e, h_e, hh2⟩ := bs_ hh2
          refine .p rfl (D.idx E53 rfl rfl h_e rfl) ?_
          refine .p rfl (D.ldp1 T4 rfl rfl) ?_
          refine .p rfl (D.mv (x := aB e) rfl) ?_
          rcases it hh2 with ⟨hb5, hh2⟩ | ⟨hb5, hh2⟩
          ·
            refine .gy rfl rfl rfl hb5 rfl (D.mv rfl) ?_
            obtain ⟨r12, h_r12, hh2⟩ := bs_ hh2
            refine .gyc rfl rfl rfl hb5 rfl (D.callG (eff := [(0, ⟨_, .box 51 [aL 1 eU r12.2.b, aI r12.2.p]⟩)]) (spec_l6Rd_pick_ok h_r12 g) C13 rfl [(0, 0)] [] [0] (.cons (.c (.pt rfl rfl rfl rfl)) (.cons (.c .fz) .nil)) rfl rfl (.cons rfl (.box (.all rfl)) .nil) rfl rfl rfl (.same rfl rfl rfl (.box (.all rfl)) .nil) .nil (.v (.c .fz))) ?_
            refine .gy rfl rfl rfl hb5 rfl (D.gt rfl rfl) ?_
            refine .p rfl (D.pickT rfl hb5 rfl) ?_
            refine .p rfl (D.mv (x := aB (decide (0 < r12.1))) rfl) ?_
            rcases it hh2 with ⟨hb10, hh2⟩ | ⟨hb10, hh2⟩
            ·
              refine .gn rfl rfl rfl (nF hb10) ?_
              refine .gn rfl rfl rfl (nF hb10) ?_
              refine .gn rfl rfl rfl (nF hb10) ?_
              refine .p rfl (D.pickT rfl hb10 rfl) ?_
              obtain rfl := sj_ hh2
              exact .nilA [0, 1, 2, 3, 4, 5] (fun _ h => h) hf ⟨.c (.pt rfl rfl rfl), .c (.pt rfl rfl rfl), .c (.pt rfl rfl rfl), .c (.pt rfl rfl rfl), .c .fz, .c .fz, trivial⟩ ⟨rfl, .box (.all rfl), rfl, .row, rfl, .box (.all rfl), rfl, .box (.all rfl), rfl, .box (.cons .fz (.cons .fz (.cons .fz (.cons (.ow rfl rfl rfl) (.cons (.ow rfl rfl rfl) .nil))))), rfl, .row, rfl⟩
            ·
              refine .gy rfl rfl rfl hb10 rfl (D.mv rfl) ?_
              obtain ⟨r13, h_r13, hh2⟩ := bs_ hh2
              refine .gyc rfl rfl rfl hb10 rfl (D.callG (eff := [(0, ⟨_, .box 51 [aL 1 eU r13.2.b, aI r13.2.p]⟩)]) (spec_l6Rd_pick_ok h_r13 g) C13 rfl [(0, 0)] [] [0] (.cons (.c (.pt rfl rfl rfl rfl)) (.cons (.c .fz) .nil)) rfl rfl (.cons rfl (.box (.all rfl)) .nil) rfl rfl rfl (.same rfl rfl rfl (.box (.all rfl)) .nil) .nil (.v (.c .fz))) ?_
              refine .gy rfl rfl rfl hb10 rfl (D.eqI rfl rfl) ?_
              refine .p rfl (D.pickF rfl hb10 rfl) ?_
              obtain rfl := sj_ hh2
              exact .nilA [0, 1, 2, 3, 4, 5] (fun _ h => h) hf ⟨.c (.pt rfl rfl rfl), .c (.pt rfl rfl rfl), .c (.pt rfl rfl rfl), .c (.pt rfl rfl rfl), .c .fz, .c .fz, trivial⟩ ⟨rfl, .box (.all rfl), rfl, .row, rfl, .box (.all rfl), rfl, .box (.all rfl), rfl, .box (.cons .fz (.cons .fz (.cons .fz (.cons (.ow rfl rfl rfl) (.cons (.ow rfl rfl rfl) .nil))))), rfl, .row, rfl⟩
          ·
            refine .gn rfl rfl rfl (nT hb5) ?_
            refine .gn rfl rfl rfl (nT hb5) ?_
            refine .gn rfl rfl rfl (nT hb5) ?_
            refine .p rfl (D.pickF rfl hb5 rfl) ?_
            refine .p rfl (D.mv (x := aB false) rfl) ?_
            rcases it hh2 with ⟨hb10, hh2⟩ | ⟨hb10, hh2⟩
            ·
              refine .gn rfl rfl rfl (nF hb10) ?_
              refine .gn rfl rfl rfl (nF hb10) ?_
              refine .gn rfl rfl rfl (nF hb10) ?_
              refine .p rfl (D.pickT rfl hb10 rfl) ?_
              obtain rfl := sj_ hh2
              exact .nilA [0, 1, 2, 3, 4, 5] (fun _ h => h) hf ⟨.c (.pt rfl rfl rfl), .c (.pt rfl rfl rfl), .c (.pt rfl rfl rfl), .c (.pt rfl rfl rfl), .c .fz, .c .fz, trivial⟩ ⟨rfl, .box (.all rfl), rfl, .row, rfl, .box (.all rfl), rfl, .box (.all rfl), rfl, .box (.cons .fz (.cons .fz (.cons .fz (.cons (.ow rfl rfl rfl) (.cons (.ow rfl rfl rfl) .nil))))), rfl, .row, rfl⟩
            ·
              refine .gy rfl rfl rfl hb10 rfl (D.mv rfl) ?_
              obtain ⟨r14, h_r14, hh2⟩ := bs_ hh2
              refine .gyc rfl rfl rfl hb10 rfl (D.callG (eff := [(0, ⟨_, .box 51 [aL 1 eU r14.2.b, aI r14.2.p]⟩)]) (spec_l6Rd_pick_ok h_r14 g) C13 rfl [(0, 0)] [] [0] (.cons (.c (.pt rfl rfl rfl rfl)) (.cons (.c .fz) .nil)) rfl rfl (.cons rfl (.box (.all rfl)) .nil) rfl rfl rfl (.same rfl rfl rfl (.box (.all rfl)) .nil) .nil (.v (.c .fz))) ?_
              refine .gy rfl rfl rfl hb10 rfl (D.eqI rfl rfl) ?_
              refine .p rfl (D.pickF rfl hb10 rfl) ?_
              obtain rfl := sj_ hh2
              exact .nilA [0, 1, 2, 3, 4, 5] (fun _ h => h) hf ⟨.c (.pt rfl rfl rfl), .c (.pt rfl rfl rfl), .c (.pt rfl rfl rfl), .c (.pt rfl rfl rfl), .c .fz, .c .fz, trivial⟩ ⟨rfl, .box (.all rfl), rfl, .row, rfl, .box (.all rfl), rfl, .box (.all rfl), rfl, .box (.cons .fz (.cons .fz (.cons .fz (.cons (.ow rfl rfl rfl) (.cons (.ow rfl rfl rfl) .nil))))), rfl, .row, rfl⟩
        · rintro _ ⟨f, hf, rfl⟩
          rcases it hh1 with ⟨hb, hh1⟩ | ⟨hb, hh1⟩
          · refine EW.condT rfl rfl hb ?_
            refine EW.seq ?_
            refine EW.drawU MX ?_
            refine .p rfl (D.fld O27_3 rfl rfl rfl) ?_
            refine .p rfl (D.ld1 T24 rfl rfl rfl) ?_
            refine .p rfl (D.fld O56_3 rfl rfl rfl) ?_
            refine .p rfl (D.ld1 T24 rfl rfl rfl) ?_
            refine .p rfl (D.mv (x := aI x) rfl) ?_
            obtain ⟨Name1, h_Name1, hh1⟩ := bs_ hh1
            refine .p rfl (D.idx E24 rfl rfl h_Name1 rfl) ?_
            refine .p rfl (D.ldp1 T9 rfl rfl) ?_
            refine .p rfl (D.litZ (l := ([Name1] : List Str)) (enc := eS) Tryd.underlying24 ZB9 rfl rfl rfl (fun _ => rfl) (.cons (.one .fz) .nil)) ?_
            obtain ⟨out9, h_out9, hh1⟩ := bs_ hh1
            refine .w rfl (D.app (enc := eS) (ks := []) Tryd.underlying24 Z9 rfl rfl (.fz) h_out9) ?_
            refine .p rfl (D.fld O27_3 rfl rfl rfl) ?_
            refine .st rfl (D.st T24 rfl rfl rfl rfl rfl rfl) ?_
            refine .nil (M := [0, 1, 0, 4, 0, 28, 60, 124, 255, 511, 1023]) (by kernel_rfl) (Up.of ?_)
            refine EW.drawU MX ?_
            refine .p rfl (D.fld O27_4 rfl rfl rfl) ?_
            refine .p rfl (D.ld1 T25 rfl rfl rfl) ?_
            refine .p rfl (D.mv rfl) ?_
            refine .p rfl (D.fld O56_5 rfl rfl rfl) ?_
            refine .p rfl (D.ld1 T54 rfl rfl rfl) ?_
            refine .p rfl (D.mv (x := aI x) rfl) ?_
            obtain ⟨Kid2, h_Kid2, hh1⟩ := bs_ hh1
            refine .p rfl (D.idx E54 rfl rfl h_Kid2 (Schema.c_eq _)) ?_
            refine .p rfl (D.ldpN T56 rfl rfl rfl) ?_
            obtain ⟨r15, h_r15, hh1⟩ := bs_ hh1
            refine .c rfl (D.callG (eff := [(0, ⟨_, .box 51 [aL 1 eU r15.2.b, aI r15.2.p]⟩)]) (Fn.less (res' := .ag [aI r15.1.Kind, aB r15.1.Flag, aS r15.1.Text, aL 1 eS r15.1.Names, aL 5 Json.c r15.1.Kids]) [0] [(0, .box 51 [aL 1 eU r15.2.b, aI r15.2.p])] (ih_spec_l71Fit _ _ _ h_r15 g) (.ag (.cons .fz (.cons .fz (.cons .fz (.cons (.row rfl rfl) (.cons .fz .nil)))))) ⟨rfl, .box (.all rfl), rfl⟩) C22 rfl [(0, 0)] [] [0] (.cons (.c (.pt rfl rfl rfl rfl)) (.cons (.ag (.all rfl)) .nil)) rfl rfl (.cons rfl (.box (.all rfl)) .nil) rfl rfl rfl (.same rfl rfl rfl (.box (.all rfl)) .nil) .nil (.v (.ag (.all rfl)))) ?_
            refine .p rfl (D.litZ (l := ([r15.1] : List Json)) (enc := Json.c) Tryd.underlying25 ZB27 rfl rfl rfl (Json.c_len) (.cons (.agE (Json.c_eq _) (.ofE rfl)) .nil)) ?_
            obtain ⟨out10, h_out10, hh1⟩ := bs_ hh1
            refine .w rfl (D.app (enc := Json.c) (ks := []) Tryd.underlying25 Z27 rfl rfl (.fz) h_out10) ?_
            refine .p rfl (D.fld O27_4 rfl rfl rfl) ?_
            refine .st rfl (D.st T25 rfl rfl rfl rfl rfl rfl) ?_
            obtain rfl := sj_ hh1
            exact .nil (M := [0, 1, 0, 0, 8, 0, 56, 120, 252, 508, 1023, 2047, 4095]) (by kernel_rfl) (Up.at [0, 1, 2, 3, 4, 5] (fun _ h => h) hf ⟨.c (.pt rfl rfl rfl), .c (.pt rfl rfl rfl), .c (.pt rfl rfl rfl), .c (.pt rfl rfl rfl), .c .fz, trivial⟩ ⟨rfl, .box (.all rfl), rfl, .row, rfl, .box (.all rfl), rfl, .box (.all rfl), rfl, .box (.cons .fz (.cons .fz (.cons .fz (.cons (.ow rfl rfl rfl) (.cons (.ow rfl rfl rfl) .nil))))), rfl, .row, rfl⟩)
          · refine EW.condF rfl rfl hb ?_
            obtain rfl := sj_ hh1
            exact EW.skipA [0, 1, 2, 3, 4, 5] (fun _ h => h) hf ⟨.c (.pt rfl rfl rfl), .c (.pt rfl rfl rfl), .c (.pt rfl rfl rfl), .c (.pt rfl rfl rfl), .c .fz, trivial⟩ ⟨rfl, .box (.all rfl), rfl, .row, rfl, .box (.all rfl), rfl, .box (.all rfl), rfl, .box (.cons .fz (.cons .fz (.cons .fz (.cons (.ow rfl rfl rfl) (.cons (.ow rfl rfl rfl) .nil))))), rfl, .row, rfl⟩
      · rintro _ ⟨f, hf, rfl⟩
        refine EW.region ?_
        refine .p rfl (D.mv (x := aI x) rfl) ?_
        refine .p rfl (D.add rfl rfl) ?_
        refine .p rfl (D.as (x := aI (w64 (x + 1))) rfl) ?_
        refine .nil ?_
        exact EWL.less [0, 1, 2, 3, 4, 5] (ih_spec_l71Fit_l3 _ _ _ _ _ _ _ hh0 _ _ _ hx) hf ⟨.c (.pt rfl rfl rfl), .c (.pt rfl rfl rfl), .c (.pt rfl rfl rfl), .c (.pt rfl rfl rfl), .c .fz, trivial⟩ ⟨rfl, .box (.all rfl), rfl, .row, rfl, .box (.all rfl), rfl, .box (.all rfl), rfl, .box (.cons .fz (.cons .fz (.cons .fz (.cons (.ow rfl rfl rfl) (.cons (.ow rfl rfl rfl) .nil))))), rfl, .row, rfl⟩
    · refine EW.condF rfl rfl hb ?_
      obtain rfl := sj_ hh0
      exact EW.exitA [0, 1, 2, 4, 5] (fun _ h => hx _ h) hf ⟨.c (.pt rfl rfl rfl), .c (.pt rfl rfl rfl), trivial⟩ ⟨rfl, .box (.all rfl), rfl, .row, rfl, .box (.all rfl), rfl, .box (.cons .fz (.cons .fz (.cons .fz (.cons (.ow rfl rfl rfl) (.cons (.ow rfl rfl rfl) .nil))))), rfl, .row, rfl⟩
  · intro sf_spec_l71Fit sf_spec_l71Fit_l1 ih_spec_l71Fit ih_spec_l71Fit_l1 o_ y_ b p out o hh0
    intro g C Q hx σ hσ
    obtain ⟨f, hf, rfl⟩ := hσ
    refine EWL.round ?_
    refine EW.seq ?_
    refine EW.seq ?_
    refine EW.region ?_
    refine .p rfl (D.mv (x := aI y_) rfl) ?_
    refine .p rfl (D.gt rfl rfl) ?_
    refine .p rfl (D.mv (x := aB (decide (0 < y_))) rfl) ?_
    refine .fork2 [95, 94, 93] 96 (aB ((decide (0 < y_)) && (o_.Kind == 5))) 4 (decide (0 < y_)) (fun hb2 K k2 => ?_) (fun hb2 K k2 => ?_) ?_
    ·
      refine .gy rfl rfl rfl hb2 rfl (D.fld O56_0 rfl rfl rfl) ?_
      refine .gy rfl rfl rfl hb2 rfl (D.ld1 T3 rfl rfl rfl) ?_
      refine .gy rfl rfl rfl hb2 rfl (D.eqI rfl rfl) ?_
      refine .p rfl (D.andT rfl hb2 rfl) ?_
      exact .drp (.same (.drop (.drop (.drop .nil)))) k2
    ·
      refine .gn rfl rfl rfl (nT hb2) ?_
      refine .gn rfl rfl rfl (nT hb2) ?_
      refine .gn rfl rfl rfl (nT hb2) ?_
      refine .p rfl (D.andF (c := (o_.Kind == 5)) rfl hb2 rfl) ?_
      exact .drp (.same (.drop (.drop (.drop .nil)))) k2
    refine .nil ?_
    rcases it hh0 with ⟨hb, hh0⟩ | ⟨hb, hh0⟩
    · refine EW.condT rfl rfl hb ?_
      refine EW.skip ?_
      refine EW.seq ?_
      refine EW.block ?_
      refine EW.drawU MX ?_
      refine .p rfl (D.fld O27_4 rfl rfl rfl) ?_
      refine .p rfl (D.ld1 T25 rfl rfl rfl) ?_
      refine .p rfl (D.mv rfl) ?_
      refine .p rfl (D.fld O56_5 rfl rfl rfl) ?_
      refine .p rfl (D.ld1 T54 rfl rfl rfl) ?_
      obtain ⟨Kid1, h_Kid1, hh0⟩ := bs_ hh0
      refine .p rfl (D.idx E54 rfl rfl h_Kid1 (Schema.c_eq _)) ?_
      refine .p rfl (D.ldpN T56 rfl rfl rfl) ?_
      obtain ⟨r11, h_r11, hh0⟩ := bs_ hh0
      refine .c rfl (D.callG (eff := [(0, ⟨_, .box 51 [aL 1 eU r11.2.b, aI r11.2.p]⟩)]) (Fn.less (res' := .ag [aI r11.1.Kind, aB r11.1.Flag, aS r11.1.Text, aL 1 eS r11.1.Names, aL 5 Json.c r11.1.Kids]) [0] [(0, .box 51 [aL 1 eU r11.2.b, aI r11.2.p])] (ih_spec_l71Fit _ _ _ h_r11 g) (.ag (.cons .fz (.cons .fz (.cons .fz (.cons (.row rfl rfl) (.cons .fz .nil)))))) ⟨rfl, .box (.all rfl), rfl⟩) C22 rfl [(0, 0)] [] [0] (.cons (.c (.pt rfl rfl rfl rfl)) (.cons (.ag (.all rfl)) .nil)) rfl rfl (.cons rfl (.box (.all rfl)) .nil) rfl rfl rfl (.same rfl rfl rfl (.box (.all rfl)) .nil) .nil (.v (.ag (.all rfl)))) ?_
      refine .p rfl (D.litZ (l := ([r11.1] : List Json)) (enc := Json.c) Tryd.underlying25 ZB27 rfl rfl rfl (Json.c_len) (.cons (.agE (Json.c_eq _) (.ofE rfl)) .nil)) ?_
      obtain ⟨out2, h_out2, hh0⟩ := bs_ hh0
      refine .w rfl (D.app (enc := Json.c) (ks := []) Tryd.underlying25 Z27 rfl rfl (.fz) h_out2) ?_
      refine .p rfl (D.fld O27_4 rfl rfl rfl) ?_
      refine .st rfl (D.st T25 rfl rfl rfl rfl rfl rfl) ?_
      refine .nil (M := [0, 1, 0, 0, 8, 24, 56, 124, 252, 511, 1023, 2047]) (by kernel_rfl) (Up.of ?_)
      refine EW.region ?_
      refine .p rfl (D.mv (x := aI y_) rfl) ?_
      refine .p rfl (D.sub rfl rfl) ?_
      obtain ⟨y_1, h_y_1, hh0⟩ := bs_ hh0
      refine .p rfl (D.as (x := aI y_1) (congrArg aI (sj_ h_y_1))) ?_
      refine .nil ?_
      exact EWL.less [0, 2, 3, 4, 5] (ih_spec_l71Fit_l1 _ _ _ _ _ _ hh0 _ _ _ hx) hf ⟨.c (.pt rfl rfl rfl), .c (.pt rfl rfl rfl), .c (.pt rfl rfl rfl), .c (.pt rfl rfl rfl), .c .fz, trivial⟩ ⟨rfl, .box (.all rfl), rfl, .box (.all rfl), rfl, .box (.all rfl), rfl, .box (.cons .fz (.cons .fz (.cons .fz (.cons .fz (.cons (.ow rfl rfl rfl) .nil))))), rfl, .row, rfl⟩
    · refine EW.condF rfl rfl hb ?_
      obtain rfl := sj_ hh0
      exact EW.exitA [0, 2, 3, 4, 5] (fun _ h => hx _ h) hf ⟨.c (.pt rfl rfl rfl), .c (.pt rfl rfl rfl), .c (.pt rfl rfl rfl), .c (.pt rfl rfl rfl), trivial⟩ ⟨rfl, .box (.all rfl), rfl, .box (.all rfl), rfl, .box (.all rfl), rfl, .box (.cons .fz (.cons .fz (.cons .fz (.cons .fz (.cons (.ow rfl rfl rfl) .nil))))), rfl, .row, rfl⟩


theorem spec_l71Fit_ok {t : L6Rd} {o_ : Schema} {y : Json × L6Rd} (hh0 : spec_l71Fit t o_ = some y) (g : Nat → Nat) : Fn Tryd.prog 22 (stoF g [(0, .box 51 [aL 1 eU t.b, aI t.p])]) [.pt 0 (g 0) 0, .ag [aI o_.Kind, aI o_.Min, aI o_.Max, aL 1 eS o_.Names, aL 1 eB o_.Must, aL 6 Schema.c o_.Kids]] (stoF (bumpF g [1]) [(0, .box 51 [aL 1 eU y.2.b, aI y.2.p]), (1, oR 9 1 eS y.1.Names)]) (.ag [aI y.1.Kind, aB y.1.Flag, aS y.1.Text, .ow 1 ((bumpF g [1]) 1), aL 5 Json.c y.1.Kids]) := spec_l71Fit_all.1 _ _ _ hh0 g

theorem spec_l71Schema_all : (∀ (r : L6Rd) (deep : Int) (y : Schema × L6Rd), spec_l71Schema r deep = some y → ∀ g : Nat → Nat, Fn Tryd.prog 23 (stoF g [(0, .box 51 [aL 1 eU r.b, aI r.p])]) [.pt 0 (g 0) 0, aI deep] (stoF g [(0, .box 51 [aL 1 eU y.2.b, aI y.2.p])]) (.ag [aI y.1.Kind, aI y.1.Min, aI y.1.Max, aL 1 eS y.1.Names, aL 1 eB y.1.Must, aL 6 Schema.c y.1.Kids]))
   ∧ (∀ (deep : Int) (n : Int) (b2 : (List UInt8)) (p2 : Int) (out1 : (List Str)) (out2 : (List Bool)) (out3 : (List Schema)) (o : (List UInt8) × Int × (List Str) × (List Bool) × (List Schema)), spec_l71Schema_l1 deep n b2 p2 out1 out2 out3 = some o → ∀ (o_ : Int × (List UInt8) × Int) (g : Nat → Nat) (C : Ctx Tryd.prog) (Q : Exit → St → Prop), (∀ σ', At g [0] (fun f => [(4, .pt 1 (f 1) 0), (6, .pt 2 (f 2) 0)]) (fun f => [(0, .box 51 [aL 1 eU o.1, aI o.2.1]), (1, .box 56 [aI 0, aI 0, aI 0, nilA, nilA, nilA]), (2, .box 56 [aI o_.1, aI 0, aI 0, .ow 3 (f 3), .ow 4 (f 4), .ow 5 (f 5)]), (3, oR 9 1 eS o.2.2.1), (4, oR 4 1 eB o.2.2.2.1), (5, oR 56 6 Schema.c o.2.2.2.2)]) σ' → Q (.exit 1) σ') → ∀ σ, At g [0] (fun f => [(0, .pt 0 (f 0) 0), (1, aI deep), (4, .pt 1 (f 1) 0), (6, .pt 2 (f 2) 0), (7, aI n)]) (fun f => [(0, .box 51 [aL 1 eU b2, aI p2]), (1, .box 56 [aI 0, aI 0, aI 0, nilA, nilA, nilA]), (2, .box 56 [aI o_.1, aI 0, aI 0, .ow 3 (f 3), .ow 4 (f 4), .ow 5 (f 5)]), (3, oR 9 1 eS out1), (4, oR 4 1 eB out2), (5, oR 56 6 Schema.c out3)]) σ → EWL C 113 (bAt Tryd.f23 [1, 1, 1, 1, 0, 1, 0, 1, 1, 1, 1, 1, 0, 1, 0, 0]) σ Q) := by
  refine spec_l71Schema.mpc (fun r deep y => ∀ g : Nat → Nat, Fn Tryd.prog 23 (stoF g [(0, .box 51 [aL 1 eU r.b, aI r.p])]) [.pt 0 (g 0) 0, aI deep] (stoF g [(0, .box 51 [aL 1 eU y.2.b, aI y.2.p])]) (.ag [aI y.1.Kind, aI y.1.Min, aI y.1.Max, aL 1 eS y.1.Names, aL 1 eB y.1.Must, aL 6 Schema.c y.1.Kids]))
    (fun deep n b2 p2 out1 out2 out3 o => ∀ (o_ : Int × (List UInt8) × Int) (g : Nat → Nat) (C : Ctx Tryd.prog) (Q : Exit → St → Prop), (∀ σ', At g [0] (fun f => [(4, .pt 1 (f 1) 0), (6, .pt 2 (f 2) 0)]) (fun f => [(0, .box 51 [aL 1 eU o.1, aI o.2.1]), (1, .box 56 [aI 0, aI 0, aI 0, nilA, nilA, nilA]), (2, .box 56 [aI o_.1, aI 0, aI 0, .ow 3 (f 3), .ow 4 (f 4), .ow 5 (f 5)]), (3, oR 9 1 eS o.2.2.1), (4, oR 4 1 eB o.2.2.2.1), (5, oR 56 6 Schema.c o.2.2.2.2)]) σ' → Q (.exit 1) σ') → ∀ σ, At g [0] (fun f => [(0, .pt 0 (f 0) 0), (1, aI deep), (4, .pt 1 (f 1) 0), (6, .pt 2 (f 2) 0), (7, aI n)]) (fun f => [(0, .box 51 [aL 1 eU b2, aI p2]), (1, .box 56 [aI 0, aI 0, aI 0, nilA, nilA, nilA]), (2, .box 56 [aI o_.1, aI 0, aI 0, .ow 3 (f 3), .ow 4 (f 4), .ow 5 (f 5)]), (3, oR 9 1 eS out1), (4, oR 4 1 eB out2), (5, oR 56 6 Schema.c out3)]) σ → EWL C 113 (bAt Tryd.f23 [1, 1, 1, 1, 0, 1, 0, 1, 1, 1, 1, 1, 0, 1, 0, 0]) σ Q) ?_ ?_
  · intro sf_spec_l71Schema sf_spec_l71Schema_l1 ih_spec_l71Schema ih_spec_l71Schema_l1 r deep y hh0
    intro g
    refine Fn.of0 (hs := [0]) (kl := [0]) (L := (fun f => [(4, .pt 1 (f 1) 0)])) (O := (fun f => [(0, .box 51 [aL 1 eU y.2.b, aI y.2.p]), (1, .box 56 [aI y.1.Kind, aI y.1.Min, aI y.1.Max, aL 1 eS y.1.Names, aL 1 eB y.1.Must, aL 6 Schema.c y.1.Kids])])) Tryd.func23 rfl Tryd.ntmps23 rfl (fun f hf => ⟨(.same rfl hf.1 (.box (.all rfl)) .nil), .one (Nat.le_of_ble_eq_true rfl) (.cellN rfl rfl T56 (Nat.le_of_ble_eq_true rfl)) (.ag (.all rfl))⟩) rfl rfl (fun C => ?_)
    have hf : agree g [0] g := agree_refl g _
    refine EW.seq ?_
    refine EW.region ?_
    refine .w rfl (D.alloc 1 rfl ZF56 rfl rfl) ?_
    refine .nil ?_
    refine EW.seq ?_
    refine EW.region ?_
    refine .p rfl (D.mv rfl) ?_
    obtain ⟨r1, h_r1, hh0⟩ := bs_ hh0
    refine .c rfl (D.callG (eff := [(0, ⟨_, .box 51 [aL 1 eU r1.2.b, aI r1.2.p]⟩)]) (spec_l6Rd_pick_ok h_r1 g) C13 rfl [(0, 0)] [] [0] (.cons (.c (.pt rfl rfl rfl rfl)) (.cons (.c .fz) .nil)) rfl rfl (.cons rfl (.box (.all rfl)) .nil) rfl rfl rfl (.same rfl rfl rfl (.box (.all rfl)) .nil) .nil (.v (.c .fz))) ?_
    refine .p rfl (D.add rfl rfl) ?_
    obtain ⟨k_, h_k_, hh0⟩ := bs_ hh0
    refine .p rfl (D.as (x := aI k_) (congrArg aI (sj_ h_k_))) ?_
    refine .nil ?_
    refine EW.seq ?_
    refine EW.seq ?_
    refine EW.region ?_
    refine .p rfl (D.mv (x := aI deep) rfl) ?_
    refine .p rfl (D.lt rfl rfl) ?_
    refine .p rfl (D.mv (x := aB (decide (deep < 2))) rfl) ?_
    refine .fork2 [15, 14] 16 (aB ((decide (deep < 2)) && (decide (5 ≤ k_)))) 3 (decide (deep < 2)) (fun hb2 K k2 => ?_) (fun hb2 K k2 => ?_) ?_
    ·
      refine .gy rfl rfl rfl hb2 rfl (D.mv (x := aI k_) rfl) ?_
      refine .gy rfl rfl rfl hb2 rfl (D.ge rfl rfl) ?_
      refine .p rfl (D.andT rfl hb2 rfl) ?_
      exact .drp (.same (.drop (.drop .nil))) k2
    ·
      refine .gn rfl rfl rfl (nT hb2) ?_
      refine .gn rfl rfl rfl (nT hb2) ?_
      refine .p rfl (D.andF (c := (decide (5 ≤ k_))) rfl hb2 rfl) ?_
      exact .drp (.same (.drop (.drop .nil))) k2
    refine .p rfl (D.mv (x := aB ((decide (deep < 2)) && (decide (5 ≤ k_)))) rfl) ?_
    refine .fork2 [19, 18] 20 (aB (((decide (deep < 2)) && (decide (5 ≤ k_))) && (decide (k_ ≤ 7)))) 3 ((decide (deep < 2)) && (decide (5 ≤ k_))) (fun hb6 K k6 => ?_) (fun hb6 K k6 => ?_) ?_
    ·
      refine .gy rfl rfl rfl hb6 rfl (D.mv (x := aI k_) rfl) ?_
      refine .gy rfl rfl rfl hb6 rfl (D.le rfl rfl) ?_
      refine .p rfl (D.andT rfl hb6 rfl) ?_
      exact .drp (.same (.drop (.drop .nil))) k6
    ·
      refine .gn rfl rfl rfl (nT hb6) ?_
      refine .gn rfl rfl rfl (nT hb6) ?_
      refine .p rfl (D.andF (c := (decide (k_ ≤ 7))) rfl hb6 rfl) ?_
      exact .drp (.same (.drop (.drop .nil))) k6
    refine .nil ?_
    obtain ⟨o_, hh1, hh0⟩ := bs_ hh0
    refine EW.bj (At g [0] (fun f => [(0, .pt 0 (f 0) 0), (1, aI deep), (4, .pt 1 (f 1) 0), (5, aI o_.1)]) (fun f => [(0, .box 51 [aL 1 eU o_.2.1, aI o_.2.2]), (1, .box 56 [aI 0, aI 0, aI 0, nilA, nilA, nilA])])) ?_ ?_
    · rcases it hh1 with ⟨hb, hh1⟩ | ⟨hb, hh1⟩
      · refine EW.condT rfl rfl hb ?_
        refine EW.region ?_
        refine .p rfl (D.mv rfl) ?_
        obtain ⟨r2, h_r2, hh1⟩ := bs_ hh1
        refine .c rfl (D.callG (eff := [(0, ⟨_, .box 51 [aL 1 eU r2.2.b, aI r2.2.p]⟩)]) (spec_l6Rd_pick_ok h_r2 g) C13 rfl [(0, 0)] [] [0] (.cons (.c (.pt rfl rfl rfl rfl)) (.cons (.c .fz) .nil)) rfl rfl (.cons rfl (.box (.all rfl)) .nil) rfl rfl rfl (.same rfl rfl rfl (.box (.all rfl)) .nil) .nil (.v (.c .fz))) ?_
        refine .p rfl (D.add rfl rfl) ?_
        obtain ⟨k_2, h_k_2, hh1⟩ := bs_ hh1
        refine .p rfl (D.as (x := aI k_2) (congrArg aI (sj_ h_k_2))) ?_
        obtain rfl := sj_ hh1
        exact .nilA [0, 1] (fun _ h => h) hf ⟨.c (.pt rfl rfl rfl), .c .fz, .c (.pt rfl rfl rfl), .c .fz, trivial⟩ ⟨rfl, .box (.all rfl), rfl, .box (.all rfl), rfl⟩
      · refine EW.condF rfl rfl hb ?_
        obtain rfl := sj_ hh1
        exact EW.skipA [0, 1] (fun _ h => h) hf ⟨.c (.pt rfl rfl rfl), .c .fz, .c (.pt rfl rfl rfl), .c .fz, trivial⟩ ⟨rfl, .box (.all rfl), rfl, .box (.all rfl), rfl⟩
    · rintro _ ⟨f, hf, rfl⟩
      refine EW.seq ?_
      refine EW.region ?_
      refine .p rfl (D.mv (x := aI o_.1) rfl) ?_
      refine .p rfl (D.build FS56 ZF56 rfl (.cons rfl .nil) rfl) ?_
      refine .w rfl (D.alloc 2 rfl ZF56 rfl rfl) ?_
      refine .st rfl (D.st T56 rfl rfl rfl rfl rfl rfl) ?_
      refine .nil ?_
      refine EW.seq ?_
      refine EW.seq ?_
      refine EW.region ?_
      refine .p rfl (D.mv (x := aI o_.1) rfl) ?_
      refine .nil ?_
      obtain ⟨o_1, hh1, hh0⟩ := bs_ hh0
      refine EW.bj (At g [0] (fun f => [(4, .pt 1 (f 1) 0), (6, .pt 2 (f 2) 0)]) (fun f => [(0, .box 51 [aL 1 eU o_1.2.2.2.2.1, aI o_1.2.2.2.2.2.1]), (1, .box 56 [aI 0, aI 0, aI 0, nilA, nilA, nilA]), (2, .box 56 [aI o_.1, aI o_1.1, aI o_1.2.1, aL 1 eS o_1.2.2.1, .ow 4 (f 4), aL 6 Schema.c o_1.2.2.2.1]), (4, oR 4 1 eB o_1.2.2.2.2.2.2)])) ?_ ?_
      · refine EW.block ?_
        refine EW.seq ?_
        refine EW.region ?_
        refine .p rfl (D.eqI rfl rfl) ?_
        refine .p rfl (D.as (x := aB (o_.1 == 4)) rfl) ?_
        refine .nil ?_
        rcases it hh1 with ⟨hb, hh1⟩ | ⟨hb, hh1⟩
        · refine EW.condT rfl rfl hb ?_
          refine EW.seq ?_
          refine EW.region ?_
          refine .p rfl (D.mv rfl) ?_
          obtain ⟨r3, h_r3, hh1⟩ := bs_ hh1
          refine .c rfl (D.callG (eff := [(0, ⟨_, .box 51 [aL 1 eU r3.2.b, aI r3.2.p]⟩)]) (spec_l6Rd_pick_ok h_r3 g) C13 rfl [(0, 0)] [] [0] (.cons (.c (.pt rfl rfl rfl rfl)) (.cons (.c .fz) .nil)) rfl rfl (.cons rfl (.box (.all rfl)) .nil) rfl rfl rfl (.same rfl rfl rfl (.box (.all rfl)) .nil) .nil (.v (.c .fz))) ?_
          refine .p rfl (D.fld O56_1 rfl rfl rfl) ?_
          refine .st rfl (D.st T3 rfl rfl rfl rfl rfl rfl) ?_
          refine .nil ?_
          refine EW.drawU MX ?_
          refine .p rfl (D.fld O56_1 rfl rfl rfl) ?_
          refine .p rfl (D.ld1 T3 rfl rfl rfl) ?_
          refine .p rfl (D.mv rfl) ?_
          obtain ⟨r4, h_r4, hh1⟩ := bs_ hh1
          refine .c rfl (D.callG (eff := [(0, ⟨_, .box 51 [aL 1 eU r4.2.b, aI r4.2.p]⟩)]) (spec_l6Rd_pick_ok h_r4 g) C13 rfl [(0, 0)] [] [0] (.cons (.c (.pt rfl rfl rfl rfl)) (.cons (.c .fz) .nil)) rfl rfl (.cons rfl (.box (.all rfl)) .nil) rfl rfl rfl (.same rfl rfl rfl (.box (.all rfl)) .nil) .nil (.v (.c .fz))) ?_
          refine .p rfl (D.add rfl rfl) ?_
          refine .p rfl (D.fld O56_2 rfl rfl rfl) ?_
          refine .st rfl (D.st T3 rfl rfl rfl rfl rfl rfl) ?_
          obtain rfl := sj_ hh1
          exact .nil (M := [0, 1, 0, 4, 15, 31, 63]) (by kernel_rfl) (Up.pr (.b 2 4 4 4 1 rfl rfl rfl rfl rfl) (Up.at [0, 1, 2, 4] (fun _ h => h) hf ⟨.c (.pt rfl rfl rfl), .c (.pt rfl rfl rfl), trivial⟩ ⟨rfl, .box (.all rfl), rfl, .box (.all rfl), rfl, .box (.cons .fz (.cons .fz (.cons .fz (.cons .nil (.cons (.ow rfl rfl rfl) (.cons .nil .nil)))))), rfl, .row, rfl⟩))
        · refine EW.condF rfl rfl hb ?_
          refine EW.seq ?_
          refine EW.region ?_
          refine .p rfl (D.eqI rfl rfl) ?_
          refine .p rfl (D.as (x := aB (o_.1 == 5)) rfl) ?_
          refine .nil ?_
          rcases it hh1 with ⟨hb, hh1⟩ | ⟨hb, hh1⟩
          · refine EW.condT rfl rfl hb ?_
            refine EW.seq ?_
            refine EW.region ?_
            refine .p rfl (D.mv rfl) ?_
            obtain ⟨r5, h_r5, hh1⟩ := bs_ hh1
            refine .c rfl (D.callG (eff := [(0, ⟨_, .box 51 [aL 1 eU r5.2.b, aI r5.2.p]⟩)]) (spec_l6Rd_pick_ok h_r5 g) C13 rfl [(0, 0)] [] [0] (.cons (.c (.pt rfl rfl rfl rfl)) (.cons (.c .fz) .nil)) rfl rfl (.cons rfl (.box (.all rfl)) .nil) rfl rfl rfl (.same rfl rfl rfl (.box (.all rfl)) .nil) .nil (.v (.c .fz))) ?_
            refine .p rfl (D.fld O56_1 rfl rfl rfl) ?_
            refine .st rfl (D.st T3 rfl rfl rfl rfl rfl rfl) ?_
            refine .nil ?_
            refine EW.seq ?_
            refine EW.drawU MX ?_
            refine .p rfl (D.fld O56_1 rfl rfl rfl) ?_
            refine .p rfl (D.ld1 T3 rfl rfl rfl) ?_
            refine .p rfl (D.mv rfl) ?_
            obtain ⟨r6, h_r6, hh1⟩ := bs_ hh1
            refine .c rfl (D.callG (eff := [(0, ⟨_, .box 51 [aL 1 eU r6.2.b, aI r6.2.p]⟩)]) (spec_l6Rd_pick_ok h_r6 g) C13 rfl [(0, 0)] [] [0] (.cons (.c (.pt rfl rfl rfl rfl)) (.cons (.c .fz) .nil)) rfl rfl (.cons rfl (.box (.all rfl)) .nil) rfl rfl rfl (.same rfl rfl rfl (.box (.all rfl)) .nil) .nil (.v (.c .fz))) ?_
            refine .p rfl (D.add rfl rfl) ?_
            refine .p rfl (D.fld O56_2 rfl rfl rfl) ?_
            refine .st rfl (D.st T3 rfl rfl rfl rfl rfl rfl) ?_
            refine .nil (M := [0, 1, 0, 4, 15, 31, 63]) (by kernel_rfl) (Up.of ?_)
            refine EW.region ?_
            refine .p rfl (D.mv rfl) ?_
            refine .p rfl (D.mv (x := aI deep) rfl) ?_
            refine .p rfl (D.sub rfl rfl) ?_
            obtain ⟨r7, h_r7, hh1⟩ := bs_ hh1
            refine .c rfl (D.callG (eff := [(0, ⟨_, .box 51 [aL 1 eU r7.2.b, aI r7.2.p]⟩)]) (ih_spec_l71Schema _ _ _ h_r7 g) C23 rfl [(0, 0)] [] [0] (.cons (.c (.pt rfl rfl rfl rfl)) (.cons (.c .fz) .nil)) rfl rfl (.cons rfl (.box (.all rfl)) .nil) rfl rfl rfl (.same rfl rfl rfl (.box (.all rfl)) .nil) .nil (.v (.ag (.all rfl)))) ?_
            refine .p rfl (D.litZ (l := ([r7.1] : List Schema)) (enc := Schema.c) Tryd.underlying54 ZB56 rfl rfl rfl (Schema.c_len) (.cons (.agE (Schema.c_eq _) (.ofE rfl)) .nil)) ?_
            refine .p rfl (D.fld O56_5 rfl rfl rfl) ?_
            refine .st rfl (D.st T54 rfl rfl rfl rfl rfl rfl) ?_
            obtain rfl := sj_ hh1
            refine .pr (.b 2 4 4 4 1 rfl rfl rfl rfl rfl) ?_
            exact .nilA [0, 1, 2, 4] (fun _ h => h) hf ⟨.c (.pt rfl rfl rfl), .c (.pt rfl rfl rfl), trivial⟩ ⟨rfl, .box (.all rfl), rfl, .box (.all rfl), rfl, .box (.cons .fz (.cons .fz (.cons .fz (.cons .nil (.cons (.ow rfl rfl rfl) (.cons .fz .nil)))))), rfl, .row, rfl⟩
          · refine EW.condF rfl rfl hb ?_
            refine EW.seq ?_
            refine EW.region ?_
            refine .p rfl (D.eqI rfl rfl) ?_
            refine .p rfl (D.as (x := aB (o_.1 == 6)) rfl) ?_
            refine .nil ?_
            rcases it hh1 with ⟨hb, hh1⟩ | ⟨hb, hh1⟩
            · refine EW.condT rfl rfl hb ?_
              refine EW.seq ?_
              refine EW.region ?_
              refine .p rfl (D.mv rfl) ?_
              obtain ⟨r8, h_r8, hh1⟩ := bs_ hh1
              refine .c rfl (D.callG (eff := [(0, ⟨_, .box 51 [aL 1 eU r8.2.b, aI r8.2.p]⟩)]) (spec_l6Rd_pick_ok h_r8 g) C13 rfl [(0, 0)] [] [0] (.cons (.c (.pt rfl rfl rfl rfl)) (.cons (.c .fz) .nil)) rfl rfl (.cons rfl (.box (.all rfl)) .nil) rfl rfl rfl (.same rfl rfl rfl (.box (.all rfl)) .nil) .nil (.v (.c .fz))) ?_
              refine .p rfl (D.as (x := aI r8.1) rfl) ?_
              refine .nil ?_
              obtain ⟨o_2, hl, hh1⟩ := bs_ hh1
              refine EW.bjU (At g [0] (fun f => [(4, .pt 1 (f 1) 0), (6, .pt 2 (f 2) 0)]) (fun f => [(0, .box 51 [aL 1 eU o_2.1, aI o_2.2.1]), (1, .box 56 [aI 0, aI 0, aI 0, nilA, nilA, nilA]), (2, .box 56 [aI o_.1, aI 0, aI 0, .ow 3 (f 3), .ow 4 (f 4), .ow 5 (f 5)]), (3, oR 9 1 eS o_2.2.2.1), (4, oR 4 1 eB o_2.2.2.2.1), (5, oR 56 6 Schema.c o_2.2.2.2.2)])) (EW.block (EW.loop (EWL.pr (.b 2 3 3 9 1 rfl rfl rfl rfl rfl) (EWL.pr (.b 2 4 4 4 1 rfl rfl rfl rfl rfl) (EWL.pr (.b 2 5 5 56 6 rfl rfl rfl rfl rfl) (EWL.less [0, 1, 2, 3, 4, 5] (ih_spec_l71Schema_l1 _ _ _ _ _ _ _ _ hl o_ g C _ (fun _ h => h)) hf ⟨.c (.pt rfl rfl rfl), .c .fz, .c (.pt rfl rfl rfl), .c (.pt rfl rfl rfl), .c .fz, trivial⟩ ⟨rfl, .box (.all rfl), rfl, .box (.all rfl), rfl, .box (.cons .fz (.cons .fz (.cons .fz (.cons (.ow rfl rfl rfl) (.cons (.ow rfl rfl rfl) (.cons (.ow rfl rfl rfl) .nil)))))), rfl, .row, rfl, .row, rfl, .row, rfl⟩)))))) ?_
              rintro _ ⟨f, hf, rfl⟩
              obtain rfl := sj_ hh1
              exact Up.at [0, 1, 2, 4] (fun _ h => h) hf ⟨.c (.pt rfl rfl rfl), .c (.pt rfl rfl rfl), trivial⟩ ⟨rfl, .box (.all rfl), rfl, .box (.all rfl), rfl, .box (.cons .fz (.cons .fz (.cons .fz (.cons (.row rfl rfl) (.cons (.ow rfl rfl rfl) (.cons (.row rfl rfl) .nil)))))), rfl, .row, rfl⟩
            · refine EW.condF rfl rfl hb ?_
              refine EW.seq ?_
              refine EW.region ?_
              refine .p rfl (D.eqI rfl rfl) ?_
              refine .p rfl (D.as (x := aB (o_.1 == 7)) rfl) ?_
              refine .nil ?_
              rcases it hh1 with ⟨hb, hh1⟩ | ⟨hb, hh1⟩
              · refine EW.condT rfl rfl hb ?_
                refine EW.region ?_
                refine .p rfl (D.mv rfl) ?_
                refine .p rfl (D.mv (x := aI deep) rfl) ?_
                refine .p rfl (D.sub rfl rfl) ?_
                obtain ⟨r11, h_r11, hh1⟩ := bs_ hh1
                refine .c rfl (D.callG (eff := [(0, ⟨_, .box 51 [aL 1 eU r11.2.b, aI r11.2.p]⟩)]) (ih_spec_l71Schema _ _ _ h_r11 g) C23 rfl [(0, 0)] [] [0] (.cons (.c (.pt rfl rfl rfl rfl)) (.cons (.c .fz) .nil)) rfl rfl (.cons rfl (.box (.all rfl)) .nil) rfl rfl rfl (.same rfl rfl rfl (.box (.all rfl)) .nil) .nil (.v (.ag (.all rfl)))) ?_
                refine .p rfl (D.mv rfl) ?_
                refine .p rfl (D.mv (x := aI deep) rfl) ?_
                refine .p rfl (D.sub rfl rfl) ?_
                obtain ⟨r12, h_r12, hh1⟩ := bs_ hh1
                refine .c rfl (D.callG (eff := [(0, ⟨_, .box 51 [aL 1 eU r12.2.b, aI r12.2.p]⟩)]) (ih_spec_l71Schema _ _ _ h_r12 g) C23 rfl [(0, 0)] [] [0] (.cons (.c (.pt rfl rfl rfl rfl)) (.cons (.c .fz) .nil)) rfl rfl (.cons rfl (.box (.all rfl)) .nil) rfl rfl rfl (.same rfl rfl rfl (.box (.all rfl)) .nil) .nil (.v (.ag (.all rfl)))) ?_
                refine .p rfl (D.litZ (l := ([r11.1, r12.1] : List Schema)) (enc := Schema.c) Tryd.underlying54 ZB56 rfl rfl rfl (Schema.c_len) (.cons (.agE (Schema.c_eq _) (.ofE rfl)) (.cons (.agE (Schema.c_eq _) (.ofE rfl)) .nil))) ?_
                refine .p rfl (D.fld O56_5 rfl rfl rfl) ?_
                refine .st rfl (D.st T54 rfl rfl rfl rfl rfl rfl) ?_
                obtain rfl := sj_ hh1
                refine .pr (.b 2 4 4 4 1 rfl rfl rfl rfl rfl) ?_
                exact .nilA [0, 1, 2, 4] (fun _ h => h) hf ⟨.c (.pt rfl rfl rfl), .c (.pt rfl rfl rfl), trivial⟩ ⟨rfl, .box (.all rfl), rfl, .box (.all rfl), rfl, .box (.cons .fz (.cons .fz (.cons .fz (.cons .nil (.cons (.ow rfl rfl rfl) (.cons .fz .nil)))))), rfl, .row, rfl⟩
              · refine EW.condF rfl rfl hb ?_
                refine EW.seq ?_
                refine EW.region ?_
                refine .p rfl (D.eqI rfl rfl) ?_
                refine .p rfl (D.as (x := aB (o_.1 == 8)) rfl) ?_
                refine .nil ?_
                rcases it hh1 with ⟨hb, hh1⟩ | ⟨hb, hh1⟩
                · refine EW.condT rfl rfl hb ?_
                  refine EW.region ?_
                  refine .p rfl (D.litZ (l := ([[121, 101, 115], [110, 111]] : List Str)) (enc := eS) Tryd.underlying24 ZB9 rfl rfl rfl (fun _ => rfl) (.cons (.one .fz) (.cons (.one .fz) .nil))) ?_
                  refine .p rfl (D.litZ (l := ([[97, 98], [97, 98, 99], []] : List Str)) (enc := eS) Tryd.underlying24 ZB9 rfl rfl rfl (fun _ => rfl) (.cons (.one .fz) (.cons (.one .fz) (.cons (.one .fz) .nil)))) ?_
                  refine .p rfl (D.litZ (l := ([[120]] : List Str)) (enc := eS) Tryd.underlying24 ZB9 rfl rfl rfl (fun _ => rfl) (.cons (.one .fz) .nil)) ?_
                  refine .p rfl (D.litZ (l := ([[[121, 101, 115], [110, 111]], [[97, 98], [97, 98, 99], []], [[120]]] : List (List Str))) (enc := (eL 1 eS)) Tryd.underlying67 ZB24 rfl rfl rfl (fun _ => rfl) (.cons (.one .fz) (.cons (.one .fz) (.cons (.one .fz) .nil)))) ?_
                  refine .p rfl (D.mv rfl) ?_
                  obtain ⟨r13, h_r13, hh1⟩ := bs_ hh1
                  refine .c rfl (D.callG (eff := [(0, ⟨_, .box 51 [aL 1 eU r13.2.b, aI r13.2.p]⟩)]) (spec_l6Rd_pick_ok h_r13 g) C13 rfl [(0, 0)] [] [0] (.cons (.c (.pt rfl rfl rfl rfl)) (.cons (.c .fz) .nil)) rfl rfl (.cons rfl (.box (.all rfl)) .nil) rfl rfl rfl (.same rfl rfl rfl (.box (.all rfl)) .nil) .nil (.v (.c .fz))) ?_
                  obtain ⟨e1, h_e1, hh1⟩ := bs_ hh1
                  refine .p rfl (D.idx E67 rfl rfl h_e1 rfl) ?_
                  refine .p rfl (D.ldp1 T24 rfl rfl) ?_
                  refine .p rfl (D.fld O56_3 rfl rfl rfl) ?_
                  refine .st rfl (D.st T24 rfl rfl rfl rfl rfl rfl) ?_
                  obtain rfl := sj_ hh1
                  refine .pr (.b 2 4 4 4 1 rfl rfl rfl rfl rfl) ?_
                  exact .nilA [0, 1, 2, 4] (fun _ h => h) hf ⟨.c (.pt rfl rfl rfl), .c (.pt rfl rfl rfl), trivial⟩ ⟨rfl, .box (.all rfl), rfl, .box (.all rfl), rfl, .box (.cons .fz (.cons .fz (.cons .fz (.cons .fz (.cons (.ow rfl rfl rfl) (.cons .nil .nil)))))), rfl, .row, rfl⟩
                · refine EW.condF rfl rfl hb ?_
                  obtain rfl := sj_ hh1
                  refine EW.pr (.b 2 4 4 4 1 rfl rfl rfl rfl rfl) ?_
                  exact EW.skipA [0, 1, 2, 4] (fun _ h => h) hf ⟨.c (.pt rfl rfl rfl), .c (.pt rfl rfl rfl), trivial⟩ ⟨rfl, .box (.all rfl), rfl, .box (.all rfl), rfl, .box (.cons .fz (.cons .fz (.cons .fz (.cons .nil (.cons (.ow rfl rfl rfl) (.cons .nil .nil)))))), rfl, .row, rfl⟩
      · rintro _ ⟨f, hf, rfl⟩
        refine EW.seq ?_
        refine EW.region ?_
        refine .p rfl (D.ldN T56 rfl rfl rfl rfl) ?_
        refine .st rfl (D.st T56 rfl rfl rfl rfl rfl rfl) ?_
        refine .nil ?_
        obtain rfl := sj_ hh0
        exact EW.retA [0, 1] (fun _ h => ⟨.inr rfl, h⟩) hf ⟨.c (.pt rfl rfl rfl), trivial⟩ ⟨rfl, .box (.all rfl), rfl, .box (.cons .fz (.cons .fz (.cons .fz (.cons .fz (.cons (.row rfl rfl) (.cons .fz .nil)))))), rfl⟩
  · intro sf_spec_l71Schema sf_spec_l71Schema_l1 ih_spec_l71Schema ih_spec_l71Schema_l1 deep n b2 p2 out1 out2 out3 o hh0
    intro o_ g C Q hx σ hσ
    obtain ⟨f, hf, rfl⟩ := hσ
    refine EWL.round ?_
    refine EW.seq ?_
    refine EW.seq ?_
    refine EW.region ?_
    refine .p rfl (D.mv (x := aI n) rfl) ?_
    refine .p rfl (D.gt rfl rfl) ?_
    refine .nil ?_
    rcases it hh0 with ⟨hb, hh0⟩ | ⟨hb, hh0⟩
    · refine EW.condT rfl rfl hb ?_
      refine EW.skip ?_
      refine EW.seq ?_
      refine EW.block ?_
      refine EW.seq ?_
      refine EW.drawU MX ?_
      refine .p rfl (D.fld O56_3 rfl rfl rfl) ?_
      refine .p rfl (D.ld1 T24 rfl rfl rfl) ?_
      refine .p rfl (D.litZ (l := ([[97], [98, 98], [99, 99, 99], [100, 100]] : List Str)) (enc := eS) Tryd.underlying24 ZB9 rfl rfl rfl (fun _ => rfl) (.cons (.one .fz) (.cons (.one .fz) (.cons (.one .fz) (.cons (.one .fz) .nil))))) ?_
      refine .p rfl (D.mv (x := aI n) rfl) ?_
      obtain ⟨e, h_e, hh0⟩ := bs_ hh0
      refine .p rfl (D.idx E24 rfl rfl h_e rfl) ?_
      refine .p rfl (D.ldp1 T9 rfl rfl) ?_
      refine .p rfl (D.litZ (l := ([e] : List Str)) (enc := eS) Tryd.underlying24 ZB9 rfl rfl rfl (fun _ => rfl) (.cons (.one .fz) .nil)) ?_
      obtain ⟨out7, h_out7, hh0⟩ := bs_ hh0
      refine .w rfl (D.app (enc := eS) (ks := []) Tryd.underlying24 Z9 rfl rfl (.fz) h_out7) ?_
      refine .p rfl (D.fld O56_3 rfl rfl rfl) ?_
      refine .st rfl (D.st T24 rfl rfl rfl rfl rfl rfl) ?_
      refine .nil (M := [0, 1, 0, 0, 12, 28, 60, 127, 255, 511]) (by kernel_rfl) (Up.of ?_)
      refine EW.seq ?_
      refine EW.drawU MX ?_
      refine .p rfl (D.fld O56_4 rfl rfl rfl) ?_
      refine .p rfl (D.ld1 T53 rfl rfl rfl) ?_
      refine .p rfl (D.mv rfl) ?_
      obtain ⟨r9, h_r9, hh0⟩ := bs_ hh0
      refine .c rfl (D.callG (eff := [(0, ⟨_, .box 51 [aL 1 eU r9.2.b, aI r9.2.p]⟩)]) (spec_l6Rd_pick_ok h_r9 g) C13 rfl [(0, 0)] [] [0] (.cons (.c (.pt rfl rfl rfl rfl)) (.cons (.c .fz) .nil)) rfl rfl (.cons rfl (.box (.all rfl)) .nil) rfl rfl rfl (.same rfl rfl rfl (.box (.all rfl)) .nil) .nil (.v (.c .fz))) ?_
      refine .p rfl (D.eqI rfl rfl) ?_
      refine .p rfl (D.litZ (l := ([(r9.1 == 0)] : List Bool)) (enc := eB) Tryd.underlying53 ZB4 rfl rfl rfl (fun _ => rfl) (.cons (.one .fz) .nil)) ?_
      obtain ⟨out8, h_out8, hh0⟩ := bs_ hh0
      refine .w rfl (D.app (enc := eB) (ks := []) Tryd.underlying53 Z4 rfl rfl (.fz) h_out8) ?_
      refine .p rfl (D.fld O56_4 rfl rfl rfl) ?_
      refine .st rfl (D.st T53 rfl rfl rfl rfl rfl rfl) ?_
      refine .nil (M := [0, 1, 0, 4, 12, 28, 63, 127, 255]) (by kernel_rfl) (Up.of ?_)
      refine EW.drawU MX ?_
      refine .p rfl (D.fld O56_5 rfl rfl rfl) ?_
      refine .p rfl (D.ld1 T54 rfl rfl rfl) ?_
      refine .p rfl (D.mv rfl) ?_
      refine .p rfl (D.mv (x := aI deep) rfl) ?_
      refine .p rfl (D.sub rfl rfl) ?_
      obtain ⟨r10, h_r10, hh0⟩ := bs_ hh0
      refine .c rfl (D.callG (eff := [(0, ⟨_, .box 51 [aL 1 eU r10.2.b, aI r10.2.p]⟩)]) (ih_spec_l71Schema _ _ _ h_r10 g) C23 rfl [(0, 0)] [] [0] (.cons (.c (.pt rfl rfl rfl rfl)) (.cons (.c .fz) .nil)) rfl rfl (.cons rfl (.box (.all rfl)) .nil) rfl rfl rfl (.same rfl rfl rfl (.box (.all rfl)) .nil) .nil (.v (.ag (.all rfl)))) ?_
      refine .p rfl (D.litZ (l := ([r10.1] : List Schema)) (enc := Schema.c) Tryd.underlying54 ZB56 rfl rfl rfl (Schema.c_len) (.cons (.agE (Schema.c_eq _) (.ofE rfl)) .nil)) ?_
      obtain ⟨out9, h_out9, hh0⟩ := bs_ hh0
      refine .w rfl (D.app (enc := Schema.c) (ks := []) Tryd.underlying54 Z56 rfl rfl (.fz) h_out9) ?_
      refine .p rfl (D.fld O56_5 rfl rfl rfl) ?_
      refine .st rfl (D.st T54 rfl rfl rfl rfl rfl rfl) ?_
      refine .nil (M := [0, 1, 0, 0, 8, 28, 60, 127, 255, 511]) (by kernel_rfl) (Up.of ?_)
      refine EW.region ?_
      refine .p rfl (D.mv (x := aI n) rfl) ?_
      refine .p rfl (D.sub rfl rfl) ?_
      obtain ⟨n1, h_n1, hh0⟩ := bs_ hh0
      refine .p rfl (D.as (x := aI n1) (congrArg aI (sj_ h_n1))) ?_
      refine .nil ?_
      exact EWL.less [0, 1, 2, 3, 4, 5] (ih_spec_l71Schema_l1 _ _ _ _ _ _ _ _ hh0 o_ _ _ _ hx) hf ⟨.c (.pt rfl rfl rfl), .c .fz, .c (.pt rfl rfl rfl), .c (.pt rfl rfl rfl), .c .fz, trivial⟩ ⟨rfl, .box (.all rfl), rfl, .box (.all rfl), rfl, .box (.cons .fz (.cons .fz (.cons .fz (.cons (.ow rfl rfl rfl) (.cons (.ow rfl rfl rfl) (.cons (.ow rfl rfl rfl) .nil)))))), rfl, .row, rfl, .row, rfl, .row, rfl⟩
    · refine EW.condF rfl rfl hb ?_
      obtain rfl := sj_ hh0
      exact EW.exitA [0, 1, 2, 3, 4, 5] (fun _ h => hx _ h) hf ⟨.c (.pt rfl rfl rfl), .c (.pt rfl rfl rfl), trivial⟩ ⟨rfl, .box (.all rfl), rfl, .box (.all rfl), rfl, .box (.cons .fz (.cons .fz (.cons .fz (.cons (.ow rfl rfl rfl) (.cons (.ow rfl rfl rfl) (.cons (.ow rfl rfl rfl) .nil)))))), rfl, .row, rfl, .row, rfl, .row, rfl⟩


theorem spec_l71Schema_ok {r : L6Rd} {deep : Int} {y : Schema × L6Rd} (hh0 : spec_l71Schema r deep = some y) (g : Nat → Nat) : Fn Tryd.prog 23 (stoF g [(0, .box 51 [aL 1 eU r.b, aI r.p])]) [.pt 0 (g 0) 0, aI deep] (stoF g [(0, .box 51 [aL 1 eU y.2.b, aI y.2.p])]) (.ag [aI y.1.Kind, aI y.1.Min, aI y.1.Max, aL 1 eS y.1.Names, aL 1 eB y.1.Must, aL 6 Schema.c y.1.Kids]) := spec_l71Schema_all.1 _ _ _ hh0 g

theorem spec_l71Json_l1_ok : ∀ (n : Int) (Kind1 : Int) (Flag1 : Bool) (Text1 : Str) (Kids1 : (List Json)) (out2 : (List Str)) (o : Int × Bool × Str × (List Json) × (List Str)), spec_l71Json_l1 n Kind1 Flag1 Text1 Kids1 out2 = some o →
    ∀ (r9 : Int × L6Rd) (g : Nat → Nat) (C : Ctx Tryd.prog) (Q : Exit → St → Prop), (∀ σ', At g [0] (fun f => [(2, .pt 1 (f 1) 0), (3, .pt 3 (f 3) 0)]) (fun f => [(0, .box 51 [aL 1 eU r9.2.b, aI r9.2.p]), (1, .box 27 [aI 0, aB false, aS [], nilA, nilA]), (2, oR 9 1 eS o.2.2.2.2), (3, .box 27 [aI o.1, aB o.2.1, aS o.2.2.1, .ow 2 (f 2), aL 5 Json.c o.2.2.2.1])]) σ' → Q (.exit 1) σ') → ∀ σ, At g [0] (fun f => [(2, .pt 1 (f 1) 0), (3, .pt 3 (f 3) 0), (4, aI n)]) (fun f => [(0, .box 51 [aL 1 eU r9.2.b, aI r9.2.p]), (1, .box 27 [aI 0, aB false, aS [], nilA, nilA]), (2, oR 9 1 eS out2), (3, .box 27 [aI Kind1, aB Flag1, aS Text1, .ow 2 (f 2), aL 5 Json.c Kids1])]) σ → EWL C 68 (bAt Tryd.f12 [1, 1, 0, 1, 0, 1, 1, 1, 1, 1, 1, 1, 0, 1, 0, 0]) σ Q := by
  refine spec_l71Json_l1.partial_correctness (fun n Kind1 Flag1 Text1 Kids1 out2 o => ∀ (r9 : Int × L6Rd) (g : Nat → Nat) (C : Ctx Tryd.prog) (Q : Exit → St → Prop), (∀ σ', At g [0] (fun f => [(2, .pt 1 (f 1) 0), (3, .pt 3 (f 3) 0)]) (fun f => [(0, .box 51 [aL 1 eU r9.2.b, aI r9.2.p]), (1, .box 27 [aI 0, aB false, aS [], nilA, nilA]), (2, oR 9 1 eS o.2.2.2.2), (3, .box 27 [aI o.1, aB o.2.1, aS o.2.2.1, .ow 2 (f 2), aL 5 Json.c o.2.2.2.1])]) σ' → Q (.exit 1) σ') → ∀ σ, At g [0] (fun f => [(2, .pt 1 (f 1) 0), (3, .pt 3 (f 3) 0), (4, aI n)]) (fun f => [(0, .box 51 [aL 1 eU r9.2.b, aI r9.2.p]), (1, .box 27 [aI 0, aB false, aS [], nilA, nilA]), (2, oR 9 1 eS out2), (3, .box 27 [aI Kind1, aB Flag1, aS Text1, .ow 2 (f 2), aL 5 Json.c Kids1])]) σ → EWL C 68 (bAt Tryd.f12 [1, 1, 0, 1, 0, 1, 1, 1, 1, 1, 1, 1, 0, 1, 0, 0]) σ Q) ?_
  intro self ih n Kind1 Flag1 Text1 Kids1 out2 o hh0
  intro r9 g C Q hx σ hσ
  obtain ⟨f, hf, rfl⟩ := hσ
  refine EWL.round ?_
  refine EW.seq ?_
  refine EW.seq ?_
  refine EW.region ?_
  refine .p rfl (D.mv (x := aI n) rfl) ?_
  refine .p rfl (D.gt rfl rfl) ?_
  refine .nil ?_
  rcases it hh0 with ⟨hb, hh0⟩ | ⟨hb, hh0⟩
  · refine EW.condT rfl rfl hb ?_
    refine EW.skip ?_
    refine EW.seq ?_
    refine EW.block ?_
    refine EW.region ?_
    refine .p rfl (D.ldN T27 rfl rfl rfl rfl) ?_
    refine EOps.less (g := g) (hs := [0]) (L := (fun f => [(2, .pt 1 (f 1) 0), (3, .pt 3 (f 3) 0), (4, aI n), (45, .ag [aI Kind1, aB Flag1, aS Text1, aL 1 eS out2, aL 5 Json.c Kids1])])) (O := (fun f => [(0, .box 51 [aL 1 eU r9.2.b, aI r9.2.p]), (1, .box 27 [aI 0, aB false, aS [], nilA, nilA]), (3, .box 27 [aI Kind1, aB Flag1, aS Text1, aL 1 eS out2, aL 5 Json.c Kids1])])) [0, 1, 3] (fun σ' hσ' => ?_) hf ⟨.c (.pt rfl rfl rfl), .c (.pt rfl rfl rfl), .c .fz, .ag (.cons .fz (.cons .fz (.cons .fz (.cons (.row rfl rfl) (.cons .fz .nil))))), trivial⟩ ⟨rfl, .box (.all rfl), rfl, .box (.all rfl), rfl, .box (.cons .fz (.cons .fz (.cons .fz (.cons (.row rfl rfl) (.cons .fz .nil))))), rfl⟩
    obtain ⟨f, hf, rfl⟩ := hσ'
    refine .p rfl (D.litZ (l := ([(Json.mk Kind1 Flag1 Text1 out2 Kids1)] : List Json)) (enc := Json.c) Tryd.underlying25 ZB27 rfl rfl rfl (Json.c_len) (.cons (.agE (Json.c_eq _) (.ofE rfl)) .nil)) ?_
    refine .p rfl (D.build FS27 ZF27 rfl (.cons rfl (.cons rfl .nil)) rfl) ?_
    refine .st rfl (D.st T27 rfl rfl rfl rfl rfl rfl) ?_
    refine .nil ?_
    refine EW.region ?_
    refine .p rfl (D.mv (x := aI n) rfl) ?_
    refine .p rfl (D.sub rfl rfl) ?_
    obtain ⟨n1, h_n1, hh0⟩ := bs_ hh0
    refine .p rfl (D.as (x := aI n1) (congrArg aI (sj_ h_n1))) ?_
    refine .nil ?_
    exact EWL.pr (.b 3 3 2 9 1 rfl rfl rfl rfl rfl) (EWL.less [0, 1, 2, 3] (ih _ _ _ _ _ _ _ hh0 r9 _ _ _ hx) hf ⟨.c (.pt rfl rfl rfl), .c (.pt rfl rfl rfl), .c .fz, trivial⟩ ⟨rfl, .box (.all rfl), rfl, .box (.all rfl), rfl, .row, rfl, .box (.cons .fz (.cons .fz (.cons .fz (.cons (.ow rfl rfl rfl) (.cons .fz .nil))))), rfl⟩)
  · refine EW.condF rfl rfl hb ?_
    obtain rfl := sj_ hh0
    exact EW.exitA [0, 1, 2, 3] (fun _ h => hx _ h) hf ⟨.c (.pt rfl rfl rfl), .c (.pt rfl rfl rfl), trivial⟩ ⟨rfl, .box (.all rfl), rfl, .box (.all rfl), rfl, .row, rfl, .box (.cons .fz (.cons .fz (.cons .fz (.cons (.ow rfl rfl rfl) (.cons .fz .nil))))), rfl⟩

theorem spec_l71Json_l3_ok : ∀ (i : Int) (out5 : (List Json)) (o : (List Json)), spec_l71Json_l3 i out5 = some o →
    ∀ (r10 : Int × L6Rd) (g : Nat → Nat) (C : Ctx Tryd.prog) (Q : Exit → St → Prop), (∀ σ', At g [0] (fun f => [(2, .pt 1 (f 1) 0), (3, .pt 3 (f 3) 0)]) (fun f => [(0, .box 51 [aL 1 eU r10.2.b, aI r10.2.p]), (1, .box 27 [aI 0, aB false, aS [], nilA, nilA]), (3, .box 27 [aI 5, aB false, aS [], nilA, .ow 4 (f 4)]), (4, oR 27 5 Json.c o)]) σ' → Q (.exit 3) σ') → ∀ σ, At g [0] (fun f => [(2, .pt 1 (f 1) 0), (3, .pt 3 (f 3) 0), (5, aI i)]) (fun f => [(0, .box 51 [aL 1 eU r10.2.b, aI r10.2.p]), (1, .box 27 [aI 0, aB false, aS [], nilA, nilA]), (3, .box 27 [aI 5, aB false, aS [], nilA, .ow 4 (f 4)]), (4, oR 27 5 Json.c out5)]) σ → EWL C 68 (bAt Tryd.f12 [1, 1, 0, 1, 0, 1, 1, 1, 1, 1, 1, 1, 1, 1, 0, 1, 1, 0, 0]) σ Q := by
  refine spec_l71Json_l3.partial_correctness (fun i out5 o => ∀ (r10 : Int × L6Rd) (g : Nat → Nat) (C : Ctx Tryd.prog) (Q : Exit → St → Prop), (∀ σ', At g [0] (fun f => [(2, .pt 1 (f 1) 0), (3, .pt 3 (f 3) 0)]) (fun f => [(0, .box 51 [aL 1 eU r10.2.b, aI r10.2.p]), (1, .box 27 [aI 0, aB false, aS [], nilA, nilA]), (3, .box 27 [aI 5, aB false, aS [], nilA, .ow 4 (f 4)]), (4, oR 27 5 Json.c o)]) σ' → Q (.exit 3) σ') → ∀ σ, At g [0] (fun f => [(2, .pt 1 (f 1) 0), (3, .pt 3 (f 3) 0), (5, aI i)]) (fun f => [(0, .box 51 [aL 1 eU r10.2.b, aI r10.2.p]), (1, .box 27 [aI 0, aB false, aS [], nilA, nilA]), (3, .box 27 [aI 5, aB false, aS [], nilA, .ow 4 (f 4)]), (4, oR 27 5 Json.c out5)]) σ → EWL C 68 (bAt Tryd.f12 [1, 1, 0, 1, 0, 1, 1, 1, 1, 1, 1, 1, 1, 1, 0, 1, 1, 0, 0]) σ Q) ?_
  intro self ih i out5 o hh0
  intro r10 g C Q hx σ hσ
  obtain ⟨f, hf, rfl⟩ := hσ
  refine EWL.round ?_
  refine EW.seq ?_
  refine EW.seq ?_
  refine EW.region ?_
  refine .p rfl (D.mv (x := aI i) rfl) ?_
  refine .p rfl (D.fld O27_4 rfl rfl rfl) ?_
  refine .p rfl (D.ld1 T25 rfl rfl rfl) ?_
  refine .p rfl (D.lenO E25 rfl rfl) ?_
  refine .p rfl (D.lt rfl rfl) ?_
  refine .nil ?_
  rcases it hh0 with ⟨hb, hh0⟩ | ⟨hb, hh0⟩
  · refine EW.condT rfl rfl hb ?_
    refine EW.skip ?_
    refine EW.seq ?_
    refine EW.block ?_
    refine EW.region ?_
    refine .p rfl (D.fld O27_4 rfl rfl rfl) ?_
    refine .p rfl (D.ld1 T25 rfl rfl rfl) ?_
    refine .p rfl (D.mv (x := aI i) rfl) ?_
    obtain ⟨e, h_e, hh0⟩ := bs_ hh0
    refine .p rfl (D.idxO E25 rfl rfl rfl h_e) ?_
    refine .p rfl (D.fldO O27_0 rfl rfl rfl) ?_
    refine .st rfl (D.stO (y := (Json.mk 1 e.Flag e.Text e.Names e.Kids)) T3 rfl rfl h_e (.one .fz) rfl rfl (by rw [Json.c_eq, Json.c_eq]; rfl)) ?_
    refine .nil ?_
    refine EW.region ?_
    refine .p rfl (D.mv (x := aI i) rfl) ?_
    refine .p rfl (D.add rfl rfl) ?_
    obtain ⟨i1, h_i1, hh0⟩ := bs_ hh0
    refine .p rfl (D.as (x := aI i1) (congrArg aI (sj_ h_i1))) ?_
    refine .nil ?_
    exact EWL.less [0, 1, 3, 4] (ih _ _ _ hh0 r10 _ _ _ hx) hf ⟨.c (.pt rfl rfl rfl), .c (.pt rfl rfl rfl), .c .fz, trivial⟩ ⟨rfl, .box (.all rfl), rfl, .box (.all rfl), rfl, .box (.cons .fz (.cons .fz (.cons .fz (.cons .fz (.cons (.ow rfl rfl rfl) .nil))))), rfl, .row, rfl⟩
  · refine EW.condF rfl rfl hb ?_
    obtain rfl := sj_ hh0
    exact EW.exitA [0, 1, 3, 4] (fun _ h => hx _ h) hf ⟨.c (.pt rfl rfl rfl), .c (.pt rfl rfl rfl), trivial⟩ ⟨rfl, .box (.all rfl), rfl, .box (.all rfl), rfl, .box (.cons .fz (.cons .fz (.cons .fz (.cons .fz (.cons (.ow rfl rfl rfl) .nil))))), rfl, .row, rfl⟩

theorem spec_l71Json_ok {r : L6Rd} {y : Json × L6Rd} (hh0 : spec_l71Json r = some y) (g : Nat → Nat) : Fn Tryd.prog 12 (stoF g [(0, .box 51 [aL 1 eU r.b, aI r.p])]) [.pt 0 (g 0) 0] (stoF g [(0, .box 51 [aL 1 eU y.2.b, aI y.2.p])]) (.ag [aI y.1.Kind, aB y.1.Flag, aS y.1.Text, aL 1 eS y.1.Names, aL 5 Json.c y.1.Kids]) := by
  refine Fn.of0 (hs := [0]) (kl := [0]) (L := (fun f => [(2, .pt 1 (f 1) 0)])) (O := (fun f => [(0, .box 51 [aL 1 eU y.2.b, aI y.2.p]), (1, .box 27 [aI y.1.Kind, aB y.1.Flag, aS y.1.Text, aL 1 eS y.1.Names, aL 5 Json.c y.1.Kids])])) Tryd.func12 rfl Tryd.ntmps12 rfl (fun f hf => ⟨(.same rfl hf.1 (.box (.all rfl)) .nil), .one (Nat.le_of_ble_eq_true rfl) (.cellN rfl rfl T27 (Nat.le_of_ble_eq_true rfl)) (.ag (.all rfl))⟩) rfl rfl (fun C => ?_)
  have hf : agree g [0] g := agree_refl g _
  refine EW.seq ?_
  refine EW.region ?_
  refine .w rfl (D.alloc 1 rfl ZF27 rfl rfl) ?_
  refine .nil ?_
  refine EW.seq ?_
  refine EW.region ?_
  refine .p rfl (D.mv rfl) ?_
  refine .p rfl (D.mv rfl) ?_
  refine .p rfl (D.mv rfl) ?_
  obtain ⟨r1, h_r1, hh0⟩ := bs_ hh0
  refine .c rfl (D.callG (eff := [(0, ⟨_, .box 51 [aL 1 eU r1.2.b, aI r1.2.p]⟩)]) (spec_l6Rd_pick_ok h_r1 g) C13 rfl [(0, 0)] [] [0] (.cons (.c (.pt rfl rfl rfl rfl)) (.cons (.c .fz) .nil)) rfl rfl (.cons rfl (.box (.all rfl)) .nil) rfl rfl rfl (.same rfl rfl rfl (.box (.all rfl)) .nil) .nil (.v (.c .fz))) ?_
  refine .p rfl (D.add rfl rfl) ?_
  obtain ⟨r2, h_r2, hh0⟩ := bs_ hh0
  refine .c rfl (D.callG (eff := [(0, ⟨_, .box 51 [aL 1 eU r2.2.b, aI r2.2.p]⟩)]) (spec_l71Schema_ok h_r2 g) C23 rfl [(0, 0)] [] [0] (.cons (.c (.pt rfl rfl rfl rfl)) (.cons (.c .fz) .nil)) rfl rfl (.cons rfl (.box (.all rfl)) .nil) rfl rfl rfl (.same rfl rfl rfl (.box (.all rfl)) .nil) .nil (.v (.ag (.all rfl)))) ?_
  obtain ⟨r3, h_r3, hh0⟩ := bs_ hh0
  refine .c rfl (D.callG (eff := [(0, ⟨_, .box 51 [aL 1 eU r3.2.b, aI r3.2.p]⟩), (2, ⟨_, oR 9 1 eS r3.1.Names⟩)]) (spec_l71Fit_ok h_r3 g) C22 rfl [(0, 0)] [(1, 2)] [0, 2] (.cons (.c (.pt rfl rfl rfl rfl)) (.cons (.ag (.all rfl)) .nil)) rfl rfl (.cons rfl (.box (.all rfl)) .nil) rfl rfl rfl (.same rfl rfl rfl (.box (.all rfl)) .nil) (.more rfl rfl .row .nil) (.v (.ag (.cons .fz (.cons .fz (.cons .fz (.cons (.ow rfl rfl rfl) (.cons .fz .nil)))))))) ?_
  refine .w rfl (D.alloc 3 rfl ZF27 rfl rfl) ?_
  refine .st rfl (D.st T27 rfl rfl rfl rfl rfl rfl) ?_
  refine .nil ?_
  refine EW.seq ?_
  refine EW.seq ?_
  refine EW.region ?_
  refine .p rfl (D.mv rfl) ?_
  obtain ⟨r4, h_r4, hh0⟩ := bs_ hh0
  refine .c rfl (D.callG (eff := [(0, ⟨_, .box 51 [aL 1 eU r4.2.b, aI r4.2.p]⟩)]) (spec_l6Rd_pick_ok h_r4 g) C13 rfl [(0, 0)] [] [0] (.cons (.c (.pt rfl rfl rfl rfl)) (.cons (.c .fz) .nil)) rfl rfl (.cons rfl (.box (.all rfl)) .nil) rfl rfl rfl (.same rfl rfl rfl (.box (.all rfl)) .nil) .nil (.v (.c .fz))) ?_
  refine .nil ?_
  obtain ⟨o_, hh1, hh0⟩ := bs_ hh0
  refine EW.bj (At g [0] (fun f => [(2, .pt 1 (f 1) 0), (3, .pt 3 (f 3) 0)]) (fun f => [(0, .box 51 [aL 1 eU o_.2.2.2.2.1, aI o_.2.2.2.2.2.1]), (1, .box 27 [aI 0, aB false, aS [], nilA, nilA]), (2, oR 9 1 eS o_.2.2.2.2.2.2), (3, .box 27 [aI o_.1, aB o_.2.1, aS o_.2.2.1, .ow 2 (f 2), aL 5 Json.c o_.2.2.2.1])])) ?_ ?_
  · refine EW.block ?_
    refine EW.seq ?_
    refine EW.region ?_
    refine .p rfl (D.eqI rfl rfl) ?_
    refine .p rfl (D.as (x := aB (r4.1 == 0)) rfl) ?_
    refine .nil ?_
    rcases it hh1 with ⟨hb, hh1⟩ | ⟨hb, hh1⟩
    · refine EW.condT rfl rfl hb ?_
      refine EW.region ?_
      refine .p rfl (D.mv rfl) ?_
      obtain ⟨r5, h_r5, hh1⟩ := bs_ hh1
      refine .c rfl (D.callG (eff := [(0, ⟨_, .box 51 [aL 1 eU r5.2.b, aI r5.2.p]⟩)]) (spec_l6Rd_pick_ok h_r5 g) C13 rfl [(0, 0)] [] [0] (.cons (.c (.pt rfl rfl rfl rfl)) (.cons (.c .fz) .nil)) rfl rfl (.cons rfl (.box (.all rfl)) .nil) rfl rfl rfl (.same rfl rfl rfl (.box (.all rfl)) .nil) .nil (.v (.c .fz))) ?_
      refine .p rfl (D.fld O27_0 rfl rfl rfl) ?_
      refine .st rfl (D.st T3 rfl rfl rfl rfl rfl rfl) ?_
      obtain rfl := sj_ hh1
      exact .nilA [0, 1, 2, 3] (fun _ h => h) hf ⟨.c (.pt rfl rfl rfl), .c (.pt rfl rfl rfl), trivial⟩ ⟨rfl, .box (.all rfl), rfl, .box (.all rfl), rfl, .row, rfl, .box (.cons .fz (.cons .fz (.cons .fz (.cons (.ow rfl rfl rfl) (.cons .fz .nil))))), rfl⟩
    · refine EW.condF rfl rfl hb ?_
      refine EW.seq ?_
      refine EW.region ?_
      refine .p rfl (D.eqI rfl rfl) ?_
      refine .p rfl (D.as (x := aB (r4.1 == 1)) rfl) ?_
      refine .nil ?_
      rcases it hh1 with ⟨hb, hh1⟩ | ⟨hb, hh1⟩
      · refine EW.condT rfl rfl hb ?_
        refine EW.region ?_
        refine .p rfl (D.mv rfl) ?_
        obtain ⟨r6, h_r6, hh1⟩ := bs_ hh1
        refine .p rfl (D.call0 (spec_l6Many_ok h_r6 g) C24 rfl [] (.cons (.c .fz) (.cons (.c .fz) .nil)) (.v (.c .fz))) ?_
        refine .p rfl (D.litZ (l := ([[120], [34], [10], r6, [49, 50]] : List Str)) (enc := eS) Tryd.underlying24 ZB9 rfl rfl rfl (fun _ => rfl) (.cons (.one .fz) (.cons (.one .fz) (.cons (.one .fz) (.cons (.one .fz) (.cons (.one .fz) .nil)))))) ?_
        obtain ⟨r7, h_r7, hh1⟩ := bs_ hh1
        refine .c rfl (D.callG (eff := [(0, ⟨_, .box 51 [aL 1 eU r7.2.b, aI r7.2.p]⟩)]) (spec_l6Rd_of_ok h_r7 g) C14 rfl [(0, 0)] [] [0] (.cons (.c (.pt rfl rfl rfl rfl)) (.cons (.c .fz) .nil)) rfl rfl (.cons rfl (.box (.all rfl)) .nil) rfl rfl rfl (.same rfl rfl rfl (.box (.all rfl)) .nil) .nil (.v (.c .fz))) ?_
        refine .p rfl (D.fld O27_2 rfl rfl rfl) ?_
        refine .st rfl (D.st T9 rfl rfl rfl rfl rfl rfl) ?_
        obtain rfl := sj_ hh1
        exact .nilA [0, 1, 2, 3] (fun _ h => h) hf ⟨.c (.pt rfl rfl rfl), .c (.pt rfl rfl rfl), trivial⟩ ⟨rfl, .box (.all rfl), rfl, .box (.all rfl), rfl, .row, rfl, .box (.cons .fz (.cons .fz (.cons .fz (.cons (.ow rfl rfl rfl) (.cons .fz .nil))))), rfl⟩
      · refine EW.condF rfl rfl hb ?_
        refine EW.seq ?_
        refine EW.region ?_
        refine .p rfl (D.eqI rfl rfl) ?_
        refine .p rfl (D.as (x := aB (r4.1 == 2)) rfl) ?_
        refine .nil ?_
        rcases it hh1 with ⟨hb, hh1⟩ | ⟨hb, hh1⟩
        · refine EW.condT rfl rfl hb ?_
          refine EW.drawU MX ?_
          refine .p rfl (D.fld O27_3 rfl rfl rfl) ?_
          refine .p rfl (D.ld1 T24 rfl rfl rfl) ?_
          refine .p rfl (D.mv rfl) ?_
          refine .p rfl (D.litZ (l := ([[97], [81]] : List Str)) (enc := eS) Tryd.underlying24 ZB9 rfl rfl rfl (fun _ => rfl) (.cons (.one .fz) (.cons (.one .fz) .nil))) ?_
          obtain ⟨r8, h_r8, hh1⟩ := bs_ hh1
          refine .c rfl (D.callG (eff := [(0, ⟨_, .box 51 [aL 1 eU r8.2.b, aI r8.2.p]⟩)]) (spec_l6Rd_of_ok h_r8 g) C14 rfl [(0, 0)] [] [0] (.cons (.c (.pt rfl rfl rfl rfl)) (.cons (.c .fz) .nil)) rfl rfl (.cons rfl (.box (.all rfl)) .nil) rfl rfl rfl (.same rfl rfl rfl (.box (.all rfl)) .nil) .nil (.v (.c .fz))) ?_
          refine .p rfl (D.litZ (l := ([r8.1] : List Str)) (enc := eS) Tryd.underlying24 ZB9 rfl rfl rfl (fun _ => rfl) (.cons (.one .fz) .nil)) ?_
          obtain ⟨out1, h_out1, hh1⟩ := bs_ hh1
          refine .w rfl (D.app (enc := eS) (ks := []) Tryd.underlying24 Z9 rfl rfl (.fz) h_out1) ?_
          refine .p rfl (D.fld O27_3 rfl rfl rfl) ?_
          refine .st rfl (D.st T24 rfl rfl rfl rfl rfl rfl) ?_
          obtain rfl := sj_ hh1
          exact .nil (M := [0, 1, 0, 0, 12, 28, 63, 127, 255]) (by kernel_rfl) (Up.at [0, 1, 2, 3] (fun _ h => h) hf ⟨.c (.pt rfl rfl rfl), .c (.pt rfl rfl rfl), trivial⟩ ⟨rfl, .box (.all rfl), rfl, .box (.all rfl), rfl, .row, rfl, .box (.cons .fz (.cons .fz (.cons .fz (.cons (.ow rfl rfl rfl) (.cons .fz .nil))))), rfl⟩)
        · refine EW.condF rfl rfl hb ?_
          refine EW.seq ?_
          refine EW.region ?_
          refine .p rfl (D.eqI rfl rfl) ?_
          refine .p rfl (D.as (x := aB (r4.1 == 3)) rfl) ?_
          refine .nil ?_
          rcases it hh1 with ⟨hb, hh1⟩ | ⟨hb, hh1⟩
          · refine EW.condT rfl rfl hb ?_
            refine EW.seq ?_
            refine EW.region ?_
            refine .p rfl (D.mv rfl) ?_
            obtain ⟨r9, h_r9, hh1⟩ := bs_ hh1
            refine .c rfl (D.callG (eff := [(0, ⟨_, .box 51 [aL 1 eU r9.2.b, aI r9.2.p]⟩)]) (spec_l6Rd_pick_ok h_r9 g) C13 rfl [(0, 0)] [] [0] (.cons (.c (.pt rfl rfl rfl rfl)) (.cons (.c .fz) .nil)) rfl rfl (.cons rfl (.box (.all rfl)) .nil) rfl rfl rfl (.same rfl rfl rfl (.box (.all rfl)) .nil) .nil (.v (.c .fz))) ?_
            refine .p rfl (D.as (x := aI r9.1) rfl) ?_
            refine .nil ?_
            obtain ⟨o_1, hl, hh1⟩ := bs_ hh1
            refine EW.bjU (At g [0] (fun f => [(2, .pt 1 (f 1) 0), (3, .pt 3 (f 3) 0)]) (fun f => [(0, .box 51 [aL 1 eU r9.2.b, aI r9.2.p]), (1, .box 27 [aI 0, aB false, aS [], nilA, nilA]), (2, oR 9 1 eS o_1.2.2.2.2), (3, .box 27 [aI o_1.1, aB o_1.2.1, aS o_1.2.2.1, .ow 2 (f 2), aL 5 Json.c o_1.2.2.2.1])])) (EW.block (EW.loop (EWL.less [0, 1, 2, 3] (spec_l71Json_l1_ok _ _ _ _ _ _ _ hl r9 g C _ (fun _ h => h)) hf ⟨.c (.pt rfl rfl rfl), .c (.pt rfl rfl rfl), .c .fz, trivial⟩ ⟨rfl, .box (.all rfl), rfl, .box (.all rfl), rfl, .row, rfl, .box (.cons .fz (.cons .fz (.cons .fz (.cons (.ow rfl rfl rfl) (.cons .fz .nil))))), rfl⟩))) ?_
            rintro _ ⟨f, hf, rfl⟩
            obtain rfl := sj_ hh1
            exact Up.at [0, 1, 2, 3] (fun _ h => h) hf ⟨.c (.pt rfl rfl rfl), .c (.pt rfl rfl rfl), trivial⟩ ⟨rfl, .box (.all rfl), rfl, .box (.all rfl), rfl, .row, rfl, .box (.cons .fz (.cons .fz (.cons .fz (.cons (.ow rfl rfl rfl) (.cons .fz .nil))))), rfl⟩
          · refine EW.condF rfl rfl hb ?_
            refine EW.seq ?_
            refine EW.region ?_
            refine .p rfl (D.eqI rfl rfl) ?_
            refine .p rfl (D.as (x := aB (r4.1 == 4)) rfl) ?_
            refine .nil ?_
            rcases it hh1 with ⟨hb, hh1⟩ | ⟨hb, hh1⟩
            · refine EW.condT rfl rfl hb ?_
              refine EW.seq ?_
              refine EW.region ?_
              refine .p rfl (D.mv rfl) ?_
              obtain ⟨r10, h_r10, hh1⟩ := bs_ hh1
              refine .c rfl (D.callG (eff := [(0, ⟨_, .box 51 [aL 1 eU r10.2.b, aI r10.2.p]⟩)]) (spec_l6Rd_pick_ok h_r10 g) C13 rfl [(0, 0)] [] [0] (.cons (.c (.pt rfl rfl rfl rfl)) (.cons (.c .fz) .nil)) rfl rfl (.cons rfl (.box (.all rfl)) .nil) rfl rfl rfl (.same rfl rfl rfl (.box (.all rfl)) .nil) .nil (.v (.c .fz))) ?_
              refine .p rfl (D.add rfl rfl) ?_
              obtain ⟨out4, h_out4, hh1⟩ := bs_ hh1
              refine .w rfl (D.mk 4 rfl (enc := Json.c) Tryd.underlying25 ZB27 rfl rfl ⟨rfl, rfl⟩ ⟨rfl, rfl⟩ (.eqc (Json.c_eq _) (.cons .fz (.cons .fz (.cons .fz (.cons .nil (.cons .nil .nil)))))) h_out4) ?_
              refine .p rfl (D.build FS27 ZF27 rfl (.cons rfl (.cons rfl .nil)) rfl) ?_
              refine .st rfl (D.st T27 rfl rfl rfl rfl rfl rfl) ?_
              refine .nil ?_
              refine EW.seq ?_
              refine EW.region ?_
              refine .p rfl (D.as (x := aI 0) rfl) ?_
              refine .nil ?_
              obtain ⟨o_2, hl, hh1⟩ := bs_ hh1
              refine EW.bjU (At g [0] (fun f => [(2, .pt 1 (f 1) 0), (3, .pt 3 (f 3) 0)]) (fun f => [(0, .box 51 [aL 1 eU r10.2.b, aI r10.2.p]), (1, .box 27 [aI 0, aB false, aS [], nilA, nilA]), (3, .box 27 [aI 5, aB false, aS [], nilA, .ow 4 (f 4)]), (4, oR 27 5 Json.c o_2)])) (EW.block (EW.loop (EWL.less [0, 1, 3, 4] (spec_l71Json_l3_ok _ _ _ hl r10 g C _ (fun _ h => h)) hf ⟨.c (.pt rfl rfl rfl), .c (.pt rfl rfl rfl), .c .fz, trivial⟩ ⟨rfl, .box (.all rfl), rfl, .box (.all rfl), rfl, .box (.cons .fz (.cons .fz (.cons .fz (.cons .fz (.cons (.ow rfl rfl rfl) .nil))))), rfl, .row, rfl⟩))) ?_
              rintro _ ⟨f, hf, rfl⟩
              obtain rfl := sj_ hh1
              refine Up.pr (.b 3 3 2 9 1 rfl rfl rfl rfl rfl) ?_
              exact Up.at [0, 1, 2, 3] (fun _ h => h) hf ⟨.c (.pt rfl rfl rfl), .c (.pt rfl rfl rfl), trivial⟩ ⟨rfl, .box (.all rfl), rfl, .box (.all rfl), rfl, .row, rfl, .box (.cons .fz (.cons .fz (.cons .fz (.cons (.ow rfl rfl rfl) (.cons (.row rfl rfl) .nil))))), rfl⟩
            · refine EW.condF rfl rfl hb ?_
              obtain rfl := sj_ hh1
              exact EW.skipA [0, 1, 2, 3] (fun _ h => h) hf ⟨.c (.pt rfl rfl rfl), .c (.pt rfl rfl rfl), trivial⟩ ⟨rfl, .box (.all rfl), rfl, .box (.all rfl), rfl, .row, rfl, .box (.cons .fz (.cons .fz (.cons .fz (.cons (.ow rfl rfl rfl) (.cons .fz .nil))))), rfl⟩
  · rintro _ ⟨f, hf, rfl⟩
    refine EW.seq ?_
    refine EW.region ?_
    refine .p rfl (D.ldN T27 rfl rfl rfl rfl) ?_
    refine .st rfl (D.st T27 rfl rfl rfl rfl rfl rfl) ?_
    refine .nil ?_
    obtain rfl := sj_ hh0
    exact EW.retA [0, 1] (fun _ h => ⟨.inr rfl, h⟩) hf ⟨.c (.pt rfl rfl rfl), trivial⟩ ⟨rfl, .box (.all rfl), rfl, .box (.cons .fz (.cons .fz (.cons .fz (.cons (.row rfl rfl) (.cons .fz .nil))))), rfl⟩

theorem spec_DrawJsonRead_ok {code : (List UInt8)} {y : Str} (hh0 : spec_DrawJsonRead code = some y) (g : Nat → Nat) : Fn Tryd.prog 4 (stoF g []) [aL 1 eU code] (stoF g []) (aS y) := by
  refine Fn.of0 (hs := []) (kl := []) (L := (fun f => [(2, aS y)])) (O := (fun f => [])) Tryd.func4 rfl Tryd.ntmps4 rfl (fun f hf => ⟨.nil, .one (Nat.le_of_ble_eq_true rfl) (.tmp rfl) (.c .fz)⟩) rfl rfl (fun C => ?_)
  have hf : agree g [] g := agree_refl g _
  refine EW.seq ?_
  refine EW.region ?_
  refine .p rfl (D.as (x := aS []) rfl) ?_
  refine .nil ?_
  refine EW.seq ?_
  refine EW.region ?_
  refine .p rfl (D.mv (x := aL 1 eU code) rfl) ?_
  obtain ⟨r, h_r, hh0⟩ := bs_ hh0
  refine .c rfl (D.callG (eff := [(0, ⟨_, .box 51 [aL 1 eU r.b, aI r.p]⟩)]) (spec_l6Open_ok h_r g) C10 rfl [] [(0, 0)] [0] (.cons (.c .fz) .nil) rfl rfl .nil rfl rfl rfl .nil (.more rfl rfl (.box (.all rfl)) .nil) (.v (.c (.pt rfl rfl rfl)))) ?_
  refine .p rfl (D.as rfl) ?_
  refine .nil ?_
  refine EW.seq ?_
  refine EW.region ?_
  refine .p rfl (D.mv rfl) ?_
  obtain ⟨r1, h_r1, hh0⟩ := bs_ hh0
  refine .c rfl (D.callG (eff := [(0, ⟨_, .box 51 [aL 1 eU r1.2.b, aI r1.2.p]⟩)]) (spec_l71Json_ok h_r1 g) C12 rfl [(0, 0)] [] [0] (.cons (.c (.pt rfl rfl rfl rfl)) .nil) rfl rfl (.cons rfl (.box (.all rfl)) .nil) rfl rfl rfl (.same rfl rfl rfl (.box (.all rfl)) .nil) .nil (.v (.ag (.all rfl)))) ?_
  obtain ⟨r2, h_r2, hh0⟩ := bs_ hh0
  refine .p rfl (D.call0 (spec_JsonWrite_ok h_r2 g) C11 rfl [] (.cons (.ag (.all rfl)) .nil) (.v (.c .fz))) ?_
  refine .p rfl (D.as (x := aS r2) rfl) ?_
  refine .nil ?_
  refine EW.seq ?_
  refine EW.seq ?_
  refine EW.region ?_
  refine .p rfl (D.mv rfl) ?_
  obtain ⟨r3, h_r3, hh0⟩ := bs_ hh0
  refine .c rfl (D.callG (eff := [(0, ⟨_, .box 51 [aL 1 eU r3.2.b, aI r3.2.p]⟩)]) (spec_l6Rd_pick_ok h_r3 g) C13 rfl [(0, 0)] [] [0] (.cons (.c (.pt rfl rfl rfl rfl)) (.cons (.c .fz) .nil)) rfl rfl (.cons rfl (.box (.all rfl)) .nil) rfl rfl rfl (.same rfl rfl rfl (.box (.all rfl)) .nil) .nil (.v (.c .fz))) ?_
  refine .p rfl (D.eqI rfl rfl) ?_
  refine .p rfl (D.mv (x := aB (r3.1 == 0)) rfl) ?_
  refine .fork2 [17, 16, 15] 18 (aB ((r3.1 == 0) || ((r2.length : Int) == 0))) 4 (r3.1 == 0) (fun hb3 K k3 => ?_) (fun hb3 K k3 => ?_) ?_
  ·
    refine .gn rfl rfl rfl (nF hb3) ?_
    refine .gn rfl rfl rfl (nF hb3) ?_
    refine .gn rfl rfl rfl (nF hb3) ?_
    refine .p rfl (D.orT (c := ((r2.length : Int) == 0)) rfl hb3 rfl) ?_
    exact .drp (.same (.drop (.drop (.drop .nil)))) k3
  ·
    refine .gy rfl rfl rfl hb3 rfl (D.mv (x := aS r2) rfl) ?_
    refine .gy rfl rfl rfl hb3 rfl (D.lenS S9 rfl) ?_
    refine .gy rfl rfl rfl hb3 rfl (D.eqI rfl rfl) ?_
    refine .p rfl (D.orF rfl hb3 rfl) ?_
    exact .drp (.same (.drop (.drop (.drop .nil)))) k3
  refine .nil ?_
  rcases it hh0 with ⟨hb, hh0⟩ | ⟨hb, hh0⟩
  · refine EW.condT rfl rfl hb ?_
    refine EW.seq ?_
    refine EW.region ?_
    refine .p rfl (D.mv (x := aS r2) rfl) ?_
    refine .p rfl (D.as (x := aS r2) rfl) ?_
    refine .nil ?_
    obtain rfl := sj_ hh0
    exact EW.retA [] (fun _ h => ⟨.inr rfl, h⟩) hf ⟨.c .fz, trivial⟩ rfl
  · refine EW.condF rfl rfl hb ?_
    refine EW.skip ?_
    refine EW.seq ?_
    refine EW.region ?_
    refine .p rfl (D.mv rfl) ?_
    refine .p rfl (D.mv (x := aS r2) rfl) ?_
    refine .p rfl (D.lenS S9 rfl) ?_
    obtain ⟨r4, h_r4, hh0⟩ := bs_ hh0
    refine .c rfl (D.callG (eff := [(0, ⟨_, .box 51 [aL 1 eU r4.2.b, aI r4.2.p]⟩)]) (spec_l6Rd_pick_ok h_r4 g) C13 rfl [(0, 0)] [] [0] (.cons (.c (.pt rfl rfl rfl rfl)) (.cons (.c .fz) .nil)) rfl rfl (.cons rfl (.box (.all rfl)) .nil) rfl rfl rfl (.same rfl rfl rfl (.box (.all rfl)) .nil) .nil (.v (.c .fz))) ?_
    refine .p rfl (D.as (x := aI r4.1) rfl) ?_
    refine .nil ?_
    refine EW.seq ?_
    refine EW.seq ?_
    refine EW.region ?_
    refine .p rfl (D.mv rfl) ?_
    obtain ⟨r5, h_r5, hh0⟩ := bs_ hh0
    refine .c rfl (D.callG (eff := [(0, ⟨_, .box 51 [aL 1 eU r5.2.b, aI r5.2.p]⟩)]) (spec_l6Rd_pick_ok h_r5 g) C13 rfl [(0, 0)] [] [0] (.cons (.c (.pt rfl rfl rfl rfl)) (.cons (.c .fz) .nil)) rfl rfl (.cons rfl (.box (.all rfl)) .nil) rfl rfl rfl (.same rfl rfl rfl (.box (.all rfl)) .nil) .nil (.v (.c .fz))) ?_
    refine .nil ?_
    refine EW.block ?_
    refine EW.seq ?_
    refine EW.region ?_
    refine .p rfl (D.eqI rfl rfl) ?_
    refine .p rfl (D.as (x := aB (r5.1 == 0)) rfl) ?_
    refine .nil ?_
    rcases it hh0 with ⟨hb, hh0⟩ | ⟨hb, hh0⟩
    · refine EW.condT rfl rfl hb ?_
      refine EW.seq ?_
      refine EW.drawU MX ?_
      refine .p rfl (D.mv (x := aS r2) rfl) ?_
      refine .p rfl (D.mv (x := aI r4.1) rfl) ?_
      obtain ⟨s, h_s, hh0⟩ := bs_ hh0
      refine .p rfl (D.cutS S9 rfl (.inl ⟨rfl, rfl⟩) (.inr ⟨_, _, rfl, rfl⟩) h_s) ?_
      refine .p rfl (D.mv (x := aS r2) rfl) ?_
      refine .p rfl (D.mv (x := aI r4.1) rfl) ?_
      refine .p rfl (D.add rfl rfl) ?_
      obtain ⟨s1, h_s1, hh0⟩ := bs_ hh0
      refine .p rfl (D.cutS S9 rfl (.inr ⟨_, _, rfl, rfl⟩) (.inl ⟨rfl, rfl⟩) h_s1) ?_
      obtain ⟨s2, h_s2, hh0⟩ := bs_ hh0
      refine .p rfl (D.cat rfl rfl h_s2) ?_
      refine .p rfl (D.as (x := aS s2) rfl) ?_
      refine .nil (M := [0, 0, 3, 0, 0, 16, 56, 127, 255]) (by kernel_rfl) (Up.of ?_)
      obtain rfl := sj_ hh0
      exact EW.retA [] (fun _ h => ⟨.inr rfl, h⟩) hf ⟨.c .fz, trivial⟩ rfl
    · refine EW.condF rfl rfl hb ?_
      refine EW.seq ?_
      refine EW.region ?_
      refine .p rfl (D.eqI rfl rfl) ?_
      refine .p rfl (D.as (x := aB (r5.1 == 1)) rfl) ?_
      refine .nil ?_
      rcases it hh0 with ⟨hb, hh0⟩ | ⟨hb, hh0⟩
      · refine EW.condT rfl rfl hb ?_
        refine EW.seq ?_
        refine EW.drawU MX ?_
        refine .p rfl (D.mv (x := aS r2) rfl) ?_
        refine .p rfl (D.mv (x := aI r4.1) rfl) ?_
        obtain ⟨s3, h_s3, hh0⟩ := bs_ hh0
        refine .p rfl (D.cutS S9 rfl (.inl ⟨rfl, rfl⟩) (.inr ⟨_, _, rfl, rfl⟩) h_s3) ?_
        refine .p rfl (D.mv rfl) ?_
        refine .p rfl (D.litZ (l := ([[32], [44], [93], [125], [48], [45], [34], [110, 117, 108, 108], [58]] : List Str)) (enc := eS) Tryd.underlying24 ZB9 rfl rfl rfl (fun _ => rfl) (.cons (.one .fz) (.cons (.one .fz) (.cons (.one .fz) (.cons (.one .fz) (.cons (.one .fz) (.cons (.one .fz) (.cons (.one .fz) (.cons (.one .fz) (.cons (.one .fz) .nil)))))))))) ?_
        obtain ⟨r6, h_r6, hh0⟩ := bs_ hh0
        refine .c rfl (D.callG (eff := [(0, ⟨_, .box 51 [aL 1 eU r6.2.b, aI r6.2.p]⟩)]) (spec_l6Rd_of_ok h_r6 g) C14 rfl [(0, 0)] [] [0] (.cons (.c (.pt rfl rfl rfl rfl)) (.cons (.c .fz) .nil)) rfl rfl (.cons rfl (.box (.all rfl)) .nil) rfl rfl rfl (.same rfl rfl rfl (.box (.all rfl)) .nil) .nil (.v (.c .fz))) ?_
        obtain ⟨s4, h_s4, hh0⟩ := bs_ hh0
        refine .p rfl (D.cat rfl rfl h_s4) ?_
        refine .p rfl (D.mv (x := aS r2) rfl) ?_
        refine .p rfl (D.mv (x := aI r4.1) rfl) ?_
        obtain ⟨s5, h_s5, hh0⟩ := bs_ hh0
        refine .p rfl (D.cutS S9 rfl (.inr ⟨_, _, rfl, rfl⟩) (.inl ⟨rfl, rfl⟩) h_s5) ?_
        obtain ⟨s6, h_s6, hh0⟩ := bs_ hh0
        refine .p rfl (D.cat rfl rfl h_s6) ?_
        refine .p rfl (D.as (x := aS s6) rfl) ?_
        refine .nil (M := [0, 0, 3, 0, 0, 24, 63, 0, 0, 384, 1023, 2047]) (by kernel_rfl) (Up.of ?_)
        obtain rfl := sj_ hh0
        exact EW.retA [] (fun _ h => ⟨.inr rfl, h⟩) hf ⟨.c .fz, trivial⟩ rfl
      · refine EW.condF rfl rfl hb ?_
        refine EW.seq ?_
        refine EW.region ?_
        refine .p rfl (D.eqI rfl rfl) ?_
        refine .p rfl (D.as (x := aB (r5.1 == 2)) rfl) ?_
        refine .nil ?_
        rcases it hh0 with ⟨hb, hh0⟩ | ⟨hb, hh0⟩
        · refine EW.condT rfl rfl hb ?_
          refine EW.seq ?_
          refine EW.region ?_
          refine .p rfl (D.mv (x := aS r2) rfl) ?_
          refine .p rfl (D.mv (x := aS r2) rfl) ?_
          obtain ⟨s7, h_s7, hh0⟩ := bs_ hh0
          refine .p rfl (D.cat rfl rfl h_s7) ?_
          refine .p rfl (D.as (x := aS s7) rfl) ?_
          refine .nil ?_
          obtain rfl := sj_ hh0
          exact EW.retA [] (fun _ h => ⟨.inr rfl, h⟩) hf ⟨.c .fz, trivial⟩ rfl
        · refine EW.condF rfl rfl hb ?_
          refine EW.skip ?_
          refine EW.seq ?_
          refine EW.region ?_
          refine .p rfl (D.mv (x := aS r2) rfl) ?_
          refine .p rfl (D.mv (x := aI r4.1) rfl) ?_
          obtain ⟨s8, h_s8, hh0⟩ := bs_ hh0
          refine .p rfl (D.cutS S9 rfl (.inl ⟨rfl, rfl⟩) (.inr ⟨_, _, rfl, rfl⟩) h_s8) ?_
          refine .p rfl (D.as (x := aS s8) rfl) ?_
          refine .nil ?_
          obtain rfl := sj_ hh0
          exact EW.retA [] (fun _ h => ⟨.inr rfl, h⟩) hf ⟨.c .fz, trivial⟩ rfl

theorem spec_l1Fits_ok {text : Str} {p : Str} {y : Bool} (hh0 : spec_l1Fits text p = some y) (g : Nat → Nat) : Fn Tryd.prog 38 (stoF g []) [aS text, aS p] (stoF g []) (aB y) := by
  refine Fn.of0 (hs := []) (kl := []) (L := (fun f => [(4, aB y)])) (O := (fun f => [])) Tryd.func38 rfl Tryd.ntmps38 rfl (fun f hf => ⟨.nil, .one (Nat.le_of_ble_eq_true rfl) (.tmp rfl) (.c .fz)⟩) rfl rfl (fun C => ?_)
  have hf : agree g [] g := agree_refl g _
  refine EW.seq ?_
  refine EW.region ?_
  refine .p rfl (D.as (x := aB false) rfl) ?_
  refine .nil ?_
  refine EW.seq ?_
  refine EW.region ?_
  refine .p rfl (D.mv (x := aS p) rfl) ?_
  refine .p rfl (D.lenS S9 rfl) ?_
  refine .p rfl (D.mv (x := aS text) rfl) ?_
  refine .p rfl (D.lenS S9 rfl) ?_
  refine .p rfl (D.le rfl rfl) ?_
  refine .p rfl (D.mv (x := aB (decide ((p.length : Int) ≤ (text.length : Int)))) rfl) ?_
  obtain ⟨b, hh1, hh0⟩ := bs_ hh0
  refine .fork2 [16, 15, 14, 13, 12, 11] 17 (aB b) 7 (decide ((p.length : Int) ≤ (text.length : Int))) (fun hb5 K k5 => ?_) (fun hb5 K k5 => ?_) ?_
  ·
    replace hh1 := itT hh1 hb5
    refine .gy rfl rfl rfl hb5 rfl (D.mv (x := aS text) rfl) ?_
    refine .gy rfl rfl rfl hb5 rfl (D.mv (x := aS p) rfl) ?_
    refine .gy rfl rfl rfl hb5 rfl (D.lenS S9 rfl) ?_
    obtain ⟨s, h_s, hh1⟩ := bs_ hh1
    refine .gy rfl rfl rfl hb5 rfl (D.cutS S9 rfl (.inl ⟨rfl, rfl⟩) (.inr ⟨_, _, rfl, rfl⟩) h_s) ?_
    refine .gy rfl rfl rfl hb5 rfl (D.mv (x := aS p) rfl) ?_
    refine .gy rfl rfl rfl hb5 rfl (D.eqS rfl rfl) ?_
    obtain rfl := sj_ hh1
    refine .p rfl (D.pickT rfl hb5 rfl) ?_
    exact .drp (.same (.drop (.drop (.drop (.drop (.drop (.drop .nil))))))) k5
  ·
    replace hh1 := itF hh1 hb5
    refine .gn rfl rfl rfl (nT hb5) ?_
    refine .gn rfl rfl rfl (nT hb5) ?_
    refine .gn rfl rfl rfl (nT hb5) ?_
    refine .gn rfl rfl rfl (nT hb5) ?_
    refine .gn rfl rfl rfl (nT hb5) ?_
    refine .gn rfl rfl rfl (nT hb5) ?_
    obtain rfl := sj_ hh1
    refine .p rfl (D.pickF rfl hb5 rfl) ?_
    exact .drp (.same (.drop (.drop (.drop (.drop (.drop (.drop .nil))))))) k5
  refine .p rfl (D.as (x := aB b) rfl) ?_
  refine .nil ?_
  obtain rfl := sj_ hh0
  exact EW.retA [] (fun _ h => ⟨.inr rfl, h⟩) hf ⟨.c .fz, trivial⟩ rfl

theorem spec_l31Rd_take_ok {r : L31Rd} {s : Str} {y : Bool × L31Rd} (hh0 : spec_l31Rd_take r s = some y) (g : Nat → Nat) : Fn Tryd.prog 25 (stoF g [(0, .box 41 [aS r.s, aI r.at_, aB r.ok])]) [.pt 0 (g 0) 0, aS s] (stoF g [(0, .box 41 [aS y.2.s, aI y.2.at_, aB y.2.ok])]) (aB y.1) := by
  refine Fn.of0 (hs := [0]) (kl := [0]) (L := (fun f => [(4, aB y.1)])) (O := (fun f => [(0, .box 41 [aS y.2.s, aI y.2.at_, aB y.2.ok])])) Tryd.func25 rfl Tryd.ntmps25 rfl (fun f hf => ⟨(.same rfl hf.1 (.box (.all rfl)) .nil), .one (Nat.le_of_ble_eq_true rfl) (.tmp rfl) (.c .fz)⟩) rfl rfl (fun C => ?_)
  have hf : agree g [0] g := agree_refl g _
  refine EW.seq ?_
  refine EW.region ?_
  refine .p rfl (D.as (x := aB false) rfl) ?_
  refine .nil ?_
  refine EW.seq ?_
  refine EW.seq ?_
  obtain ⟨o_, hh1, hh0⟩ := bs_ hh0
  refine EW.bj (At g [0] (fun f => [(0, .pt 0 (f 0) 0), (1, aS s), (23, aB o_)]) (fun f => [(0, .box 41 [aS r.s, aI r.at_, aB r.ok])])) ?_ ?_
  · refine EW.drawU MX ?_
    refine .p rfl (D.mv rfl) ?_
    refine .p rfl (D.nck rfl rfl) ?_
    refine .p rfl (D.fld O41_2 rfl rfl rfl) ?_
    refine .p rfl (D.ld1 T4 rfl rfl rfl) ?_
    refine .p rfl (D.not rfl) ?_
    refine .p rfl (D.mv (x := aB (!r.ok)) rfl) ?_
    rcases it hh1 with ⟨hb5, hh1⟩ | ⟨hb5, hh1⟩
    ·
      refine .gn rfl rfl rfl (nF hb5) ?_
      refine .gn rfl rfl rfl (nF hb5) ?_
      refine .gn rfl rfl rfl (nF hb5) ?_
      refine .gn rfl rfl rfl (nF hb5) ?_
      refine .gn rfl rfl rfl (nF hb5) ?_
      refine .gn rfl rfl rfl (nF hb5) ?_
      refine .gn rfl rfl rfl (nF hb5) ?_
      refine .gn rfl rfl rfl (nF hb5) ?_
      refine .gn rfl rfl rfl (nF hb5) ?_
      refine .gn rfl rfl rfl (nF hb5) ?_
      refine .gn rfl rfl rfl (nF hb5) ?_
      refine .gn rfl rfl rfl (nF hb5) ?_
      refine .p rfl (D.pickT rfl hb5 rfl) ?_
      obtain rfl := sj_ hh1
      exact .nil (M := [0, 1, 3, 7, 15, 31, 63, 127, 255, 511, 63, 1087, 3135, 7231, 16383, 63, 65535, 131071, 262143]) (by kernel_rfl) (Up.at [0] (fun _ h => h) hf ⟨.c (.pt rfl rfl rfl), .c .fz, .c .fz, trivial⟩ ⟨rfl, .box (.all rfl), rfl⟩)
    ·
      refine .gy rfl rfl rfl hb5 rfl (D.mv rfl) ?_
      refine .gy rfl rfl rfl hb5 rfl (D.nck rfl rfl) ?_
      refine .gy rfl rfl rfl hb5 rfl (D.fld O41_0 rfl rfl rfl) ?_
      refine .gy rfl rfl rfl hb5 rfl (D.ld1 T9 rfl rfl rfl) ?_
      refine .gy rfl rfl rfl hb5 rfl (D.mv rfl) ?_
      refine .gy rfl rfl rfl hb5 rfl (D.nck rfl rfl) ?_
      refine .gy rfl rfl rfl hb5 rfl (D.fld O41_1 rfl rfl rfl) ?_
      refine .gy rfl rfl rfl hb5 rfl (D.ld1 T3 rfl rfl rfl) ?_
      obtain ⟨s1, h_s1, hh1⟩ := bs_ hh1
      refine .gy rfl rfl rfl hb5 rfl (D.cutS S9 rfl (.inr ⟨_, _, rfl, rfl⟩) (.inl ⟨rfl, rfl⟩) h_s1) ?_
      refine .gy rfl rfl rfl hb5 rfl (D.mv (x := aS s) rfl) ?_
      obtain ⟨r1, h_r1, hh1⟩ := bs_ hh1
      refine .gy rfl rfl rfl hb5 rfl (D.call0 (spec_l1Fits_ok h_r1 g) C38 rfl [] (.cons (.c .fz) (.cons (.c .fz) .nil)) (.v (.c .fz))) ?_
      refine .gy rfl rfl rfl hb5 rfl (D.not rfl) ?_
      refine .p rfl (D.pickF rfl hb5 rfl) ?_
      obtain rfl := sj_ hh1
      exact .nil (M := [0, 1, 3, 7, 15, 31, 63, 127, 255, 511, 63, 1087, 3135, 7231, 16383, 63, 65535, 131071, 262143]) (by kernel_rfl) (Up.at [0] (fun _ h => h) hf ⟨.c (.pt rfl rfl rfl), .c .fz, .c .fz, trivial⟩ ⟨rfl, .box (.all rfl), rfl⟩)
  · rintro _ ⟨f, hf, rfl⟩
    rcases it hh0 with ⟨hb, hh0⟩ | ⟨hb, hh0⟩
    · refine EW.condT rfl rfl hb ?_
      refine EW.seq ?_
      refine EW.region ?_
      refine .p rfl (D.as (x := aB false) rfl) ?_
      refine .nil ?_
      obtain rfl := sj_ hh0
      exact EW.retA [0] (fun _ h => ⟨.inr rfl, h⟩) hf ⟨.c .fz, trivial⟩ ⟨rfl, .box (.all rfl), rfl⟩
    · refine EW.condF rfl rfl hb ?_
      refine EW.skip ?_
      refine EW.seq ?_
      refine EW.region ?_
      refine .p rfl (D.mv rfl) ?_
      refine .p rfl (D.mv rfl) ?_
      refine .p rfl (D.nck rfl rfl) ?_
      refine .p rfl (D.fld O41_1 rfl rfl rfl) ?_
      refine .p rfl (D.ld1 T3 rfl rfl rfl) ?_
      refine .p rfl (D.mv (x := aS s) rfl) ?_
      refine .p rfl (D.lenS S9 rfl) ?_
      refine .p rfl (D.add rfl rfl) ?_
      refine .p rfl (D.nck rfl rfl) ?_
      refine .p rfl (D.fld O41_1 rfl rfl rfl) ?_
      refine .st rfl (D.st T3 rfl rfl rfl rfl rfl rfl) ?_
      refine .nil ?_
      refine EW.seq ?_
      refine EW.region ?_
      refine .p rfl (D.as (x := aB true) rfl) ?_
      refine .nil ?_
      obtain rfl := sj_ hh0
      exact EW.retA [0] (fun _ h => ⟨.inr rfl, h⟩) hf ⟨.c .fz, trivial⟩ ⟨rfl, .box (.all rfl), rfl⟩

theorem spec_l31Rd_quote_l0_ok (r1 : Bool × L31Rd) : ∀ (at_ : Int) (o : Int), spec_l31Rd_quote_l0 r1 at_ = some o →
    ∀ (g : Nat → Nat) (C : Ctx Tryd.prog) (Q : Exit → St → Prop), (∀ σ', At g [0] (fun f => [(0, .pt 0 (f 0) 0), (3, aI r1.2.at_)]) (fun f => [(0, .box 41 [aS r1.2.s, aI o, aB r1.2.ok])]) σ' → Q (.exit 0) σ') → ∀ σ, At g [0] (fun f => [(0, .pt 0 (f 0) 0), (3, aI r1.2.at_)]) (fun f => [(0, .box 41 [aS r1.2.s, aI at_, aB r1.2.ok])]) σ → EWL C 62 (bAt Tryd.f26 [1, 1, 1, 0, 0, 0]) σ Q := by
  refine spec_l31Rd_quote_l0.partial_correctness r1 (fun at_ o => ∀ (g : Nat → Nat) (C : Ctx Tryd.prog) (Q : Exit → St → Prop), (∀ σ', At g [0] (fun f => [(0, .pt 0 (f 0) 0), (3, aI r1.2.at_)]) (fun f => [(0, .box 41 [aS r1.2.s, aI o, aB r1.2.ok])]) σ' → Q (.exit 0) σ') → ∀ σ, At g [0] (fun f => [(0, .pt 0 (f 0) 0), (3, aI r1.2.at_)]) (fun f => [(0, .box 41 [aS r1.2.s, aI at_, aB r1.2.ok])]) σ → EWL C 62 (bAt Tryd.f26 [1, 1, 1, 0, 0, 0]) σ Q) ?_
  intro self ih at_ o hh0
  intro g C Q hx σ hσ
  obtain ⟨f, hf, rfl⟩ := hσ
  refine EWL.round ?_
  refine EW.seq ?_
  refine EW.seq ?_
  obtain ⟨o_, hh1, hh0⟩ := bs_ hh0
  refine EW.bj (At g [0] (fun f => [(0, .pt 0 (f 0) 0), (3, aI r1.2.at_), (36, aB o_)]) (fun f => [(0, .box 41 [aS r1.2.s, aI at_, aB r1.2.ok])])) ?_ ?_
  · refine EW.drawU MX ?_
    refine .p rfl (D.mv rfl) ?_
    refine .p rfl (D.nck rfl rfl) ?_
    refine .p rfl (D.fld O41_1 rfl rfl rfl) ?_
    refine .p rfl (D.ld1 T3 rfl rfl rfl) ?_
    refine .p rfl (D.mv rfl) ?_
    refine .p rfl (D.nck rfl rfl) ?_
    refine .p rfl (D.fld O41_0 rfl rfl rfl) ?_
    refine .p rfl (D.ld1 T9 rfl rfl rfl) ?_
    refine .p rfl (D.lenS S9 rfl) ?_
    refine .p rfl (D.lt rfl rfl) ?_
    refine .p rfl (D.mv (x := aB (decide (at_ < (r1.2.s.length : Int)))) rfl) ?_
    rcases it hh1 with ⟨hb10, hh1⟩ | ⟨hb10, hh1⟩
    ·
      refine .gy rfl rfl rfl hb10 rfl (D.mv rfl) ?_
      refine .gy rfl rfl rfl hb10 rfl (D.nck rfl rfl) ?_
      refine .gy rfl rfl rfl hb10 rfl (D.fld O41_0 rfl rfl rfl) ?_
      refine .gy rfl rfl rfl hb10 rfl (D.ld1 T9 rfl rfl rfl) ?_
      refine .gy rfl rfl rfl hb10 rfl (D.mv rfl) ?_
      refine .gy rfl rfl rfl hb10 rfl (D.nck rfl rfl) ?_
      refine .gy rfl rfl rfl hb10 rfl (D.fld O41_1 rfl rfl rfl) ?_
      refine .gy rfl rfl rfl hb10 rfl (D.ld1 T3 rfl rfl rfl) ?_
      obtain ⟨c, h_c, hh1⟩ := bs_ hh1
      refine .gy rfl rfl rfl hb10 rfl (D.idxS S9 rfl rfl h_c) ?_
      refine .gy rfl rfl rfl hb10 rfl (D.neI rfl rfl) ?_
      refine .p rfl (D.pickT rfl hb10 rfl) ?_
      obtain rfl := sj_ hh1
      exact .nil (M := [0, 1, 3, 7, 0, 16, 48, 112, 240, 511, 1023, 2047, 4095, 8191, 16383, 2047, 34815, 100351, 231423, 524287, 1048575, 2097151]) (by kernel_rfl) (Up.at [0] (fun _ h => h) hf ⟨.c (.pt rfl rfl rfl), .c .fz, .c .fz, trivial⟩ ⟨rfl, .box (.all rfl), rfl⟩)
    ·
      refine .gn rfl rfl rfl (nT hb10) ?_
      refine .gn rfl rfl rfl (nT hb10) ?_
      refine .gn rfl rfl rfl (nT hb10) ?_
      refine .gn rfl rfl rfl (nT hb10) ?_
      refine .gn rfl rfl rfl (nT hb10) ?_
      refine .gn rfl rfl rfl (nT hb10) ?_
      refine .gn rfl rfl rfl (nT hb10) ?_
      refine .gn rfl rfl rfl (nT hb10) ?_
      refine .gn rfl rfl rfl (nT hb10) ?_
      refine .gn rfl rfl rfl (nT hb10) ?_
      refine .p rfl (D.pickF rfl hb10 rfl) ?_
      obtain rfl := sj_ hh1
      exact .nil (M := [0, 1, 3, 7, 0, 16, 48, 112, 240, 511, 1023, 2047, 4095, 8191, 16383, 2047, 34815, 100351, 231423, 524287, 1048575, 2097151]) (by kernel_rfl) (Up.at [0] (fun _ h => h) hf ⟨.c (.pt rfl rfl rfl), .c .fz, .c .fz, trivial⟩ ⟨rfl, .box (.all rfl), rfl⟩)
  · rintro _ ⟨f, hf, rfl⟩
    rcases it hh0 with ⟨hb, hh0⟩ | ⟨hb, hh0⟩
    · refine EW.condT rfl rfl hb ?_
      refine EW.skip ?_
      refine EW.block ?_
      refine EW.region ?_
      refine .p rfl (D.mv rfl) ?_
      refine .p rfl (D.mv rfl) ?_
      refine .p rfl (D.nck rfl rfl) ?_
      refine .p rfl (D.fld O41_1 rfl rfl rfl) ?_
      refine .p rfl (D.ld1 T3 rfl rfl rfl) ?_
      refine .p rfl (D.add rfl rfl) ?_
      refine .p rfl (D.nck rfl rfl) ?_
      refine .p rfl (D.fld O41_1 rfl rfl rfl) ?_
      refine .st rfl (D.st T3 rfl rfl rfl rfl rfl rfl) ?_
      refine .nil ?_
      exact EWL.less [0] (ih _ _ hh0 _ _ _ hx) hf ⟨.c (.pt rfl rfl rfl), .c .fz, trivial⟩ ⟨rfl, .box (.all rfl), rfl⟩
    · refine EW.condF rfl rfl hb ?_
      obtain rfl := sj_ hh0
      exact EW.exitA [0] (fun _ h => hx _ h) hf ⟨.c (.pt rfl rfl rfl), .c .fz, trivial⟩ ⟨rfl, .box (.all rfl), rfl⟩

theorem spec_l31Rd_quote_ok {r : L31Rd} {y : Str × L31Rd} (hh0 : spec_l31Rd_quote r = some y) (g : Nat → Nat) : Fn Tryd.prog 26 (stoF g [(0, .box 41 [aS r.s, aI r.at_, aB r.ok])]) [.pt 0 (g 0) 0] (stoF g [(0, .box 41 [aS y.2.s, aI y.2.at_, aB y.2.ok])]) (aS y.1) := by
  refine Fn.of0 (hs := [0]) (kl := [0]) (L := (fun f => [(2, aS y.1)])) (O := (fun f => [(0, .box 41 [aS y.2.s, aI y.2.at_, aB y.2.ok])])) Tryd.func26 rfl Tryd.ntmps26 rfl (fun f hf => ⟨(.same rfl hf.1 (.box (.all rfl)) .nil), .one (Nat.le_of_ble_eq_true rfl) (.tmp rfl) (.c .fz)⟩) rfl rfl (fun C => ?_)
  have hf : agree g [0] g := agree_refl g _
  refine EW.seq ?_
  refine EW.region ?_
  refine .p rfl (D.as (x := aS []) rfl) ?_
  refine .nil ?_
  refine EW.seq ?_
  refine EW.seq ?_
  refine EW.region ?_
  refine .p rfl (D.mv rfl) ?_
  obtain ⟨r1, h_r1, hh0⟩ := bs_ hh0
  refine .c rfl (D.callG (eff := [(0, ⟨_, .box 41 [aS r1.2.s, aI r1.2.at_, aB r1.2.ok]⟩)]) (spec_l31Rd_take_ok h_r1 g) C25 rfl [(0, 0)] [] [0] (.cons (.c (.pt rfl rfl rfl rfl)) (.cons (.c .fz) .nil)) rfl rfl (.cons rfl (.box (.all rfl)) .nil) rfl rfl rfl (.same rfl rfl rfl (.box (.all rfl)) .nil) .nil (.v (.c .fz))) ?_
  refine .p rfl (D.not rfl) ?_
  refine .nil ?_
  rcases it hh0 with ⟨hb, hh0⟩ | ⟨hb, hh0⟩
  · refine EW.condT rfl rfl hb ?_
    refine EW.seq ?_
    refine EW.region ?_
    refine .p rfl (D.mv rfl) ?_
    refine .p rfl (D.nck rfl rfl) ?_
    refine .p rfl (D.fld O41_2 rfl rfl rfl) ?_
    refine .st rfl (D.st T4 rfl rfl rfl rfl rfl rfl) ?_
    refine .nil ?_
    refine EW.seq ?_
    refine EW.region ?_
    refine .p rfl (D.as (x := aS []) rfl) ?_
    refine .nil ?_
    obtain rfl := sj_ hh0
    exact EW.retA [0] (fun _ h => ⟨.inr rfl, h⟩) hf ⟨.c .fz, trivial⟩ ⟨rfl, .box (.all rfl), rfl⟩
  · refine EW.condF rfl rfl hb ?_
    refine EW.skip ?_
    refine EW.seq ?_
    refine EW.region ?_
    refine .p rfl (D.mv rfl) ?_
    refine .p rfl (D.nck rfl rfl) ?_
    refine .p rfl (D.fld O41_1 rfl rfl rfl) ?_
    refine .p rfl (D.ld1 T3 rfl rfl rfl) ?_
    refine .p rfl (D.as (x := aI r1.2.at_) rfl) ?_
    refine .nil ?_
    refine EW.seq ?_
    obtain ⟨o_1, hl, hh0⟩ := bs_ hh0
    refine EW.bj (At g [0] (fun f => [(0, .pt 0 (f 0) 0), (3, aI r1.2.at_)]) (fun f => [(0, .box 41 [aS r1.2.s, aI o_1, aB r1.2.ok])])) (EW.block (EW.loop (EWL.less [0] (spec_l31Rd_quote_l0_ok _ _ _ hl g C _ (fun _ h => h)) hf ⟨.c (.pt rfl rfl rfl), .c .fz, trivial⟩ ⟨rfl, .box (.all rfl), rfl⟩))) ?_
    rintro _ ⟨f, hf, rfl⟩
    refine EW.seq ?_
    refine EW.drawU MX ?_
    refine .p rfl (D.mv rfl) ?_
    refine .p rfl (D.nck rfl rfl) ?_
    refine .p rfl (D.fld O41_0 rfl rfl rfl) ?_
    refine .p rfl (D.ld1 T9 rfl rfl rfl) ?_
    refine .p rfl (D.mv (x := aI r1.2.at_) rfl) ?_
    refine .p rfl (D.mv rfl) ?_
    refine .p rfl (D.nck rfl rfl) ?_
    refine .p rfl (D.fld O41_1 rfl rfl rfl) ?_
    refine .p rfl (D.ld1 T3 rfl rfl rfl) ?_
    obtain ⟨s, h_s, hh0⟩ := bs_ hh0
    refine .p rfl (D.cutS S9 rfl (.inr ⟨_, _, rfl, rfl⟩) (.inr ⟨_, _, rfl, rfl⟩) h_s) ?_
    refine .p rfl (D.as (x := aS s) rfl) ?_
    refine .nil (M := [0, 1, 3, 7, 0, 0, 32, 96, 224, 511, 1023]) (by kernel_rfl) (Up.of ?_)
    refine EW.seq ?_
    refine EW.seq ?_
    refine EW.region ?_
    refine .p rfl (D.mv rfl) ?_
    obtain ⟨r2, h_r2, hh0⟩ := bs_ hh0
    refine .c rfl (D.callG (eff := [(0, ⟨_, .box 41 [aS r2.2.s, aI r2.2.at_, aB r2.2.ok]⟩)]) (spec_l31Rd_take_ok h_r2 g) C25 rfl [(0, 0)] [] [0] (.cons (.c (.pt rfl rfl rfl rfl)) (.cons (.c .fz) .nil)) rfl rfl (.cons rfl (.box (.all rfl)) .nil) rfl rfl rfl (.same rfl rfl rfl (.box (.all rfl)) .nil) .nil (.v (.c .fz))) ?_
    refine .p rfl (D.not rfl) ?_
    refine .nil ?_
    obtain ⟨o_2, hh1, hh0⟩ := bs_ hh0
    refine EW.bj (At g [0] (fun f => [(4, aS s)]) (fun f => [(0, .box 41 [aS r2.2.s, aI r2.2.at_, aB o_2])])) ?_ ?_
    · rcases it hh1 with ⟨hb, hh1⟩ | ⟨hb, hh1⟩
      · refine EW.condT rfl rfl hb ?_
        refine EW.region ?_
        refine .p rfl (D.mv rfl) ?_
        refine .p rfl (D.nck rfl rfl) ?_
        refine .p rfl (D.fld O41_2 rfl rfl rfl) ?_
        refine .st rfl (D.st T4 rfl rfl rfl rfl rfl rfl) ?_
        obtain rfl := sj_ hh1
        exact .nilA [0] (fun _ h => h) hf ⟨.c .fz, trivial⟩ ⟨rfl, .box (.all rfl), rfl⟩
      · refine EW.condF rfl rfl hb ?_
        obtain rfl := sj_ hh1
        exact EW.skipA [0] (fun _ h => h) hf ⟨.c .fz, trivial⟩ ⟨rfl, .box (.all rfl), rfl⟩
    · rintro _ ⟨f, hf, rfl⟩
      refine EW.seq ?_
      refine EW.region ?_
      refine .p rfl (D.mv (x := aS s) rfl) ?_
      refine .p rfl (D.as (x := aS s) rfl) ?_
      refine .nil ?_
      obtain rfl := sj_ hh0
      exact EW.retA [0] (fun _ h => ⟨.inr rfl, h⟩) hf ⟨.c .fz, trivial⟩ ⟨rfl, .box (.all rfl), rfl⟩

theorem spec_l31Rd_number_l0_ok (r : L31Rd) : ∀ (at_ : Int) (o : Int), spec_l31Rd_number_l0 r at_ = some o →
    ∀ (g : Nat → Nat) (C : Ctx Tryd.prog) (Q : Exit → St → Prop), (∀ σ', At g [0] (fun f => [(0, .pt 0 (f 0) 0), (3, aI r.at_)]) (fun f => [(0, .box 41 [aS r.s, aI o, aB r.ok])]) σ' → Q (.exit 0) σ') → ∀ σ, At g [0] (fun f => [(0, .pt 0 (f 0) 0), (3, aI r.at_)]) (fun f => [(0, .box 41 [aS r.s, aI at_, aB r.ok])]) σ → EWL C 72 (bAt Tryd.f28 [1, 1, 0, 0, 0]) σ Q := by
  refine spec_l31Rd_number_l0.partial_correctness r (fun at_ o => ∀ (g : Nat → Nat) (C : Ctx Tryd.prog) (Q : Exit → St → Prop), (∀ σ', At g [0] (fun f => [(0, .pt 0 (f 0) 0), (3, aI r.at_)]) (fun f => [(0, .box 41 [aS r.s, aI o, aB r.ok])]) σ' → Q (.exit 0) σ') → ∀ σ, At g [0] (fun f => [(0, .pt 0 (f 0) 0), (3, aI r.at_)]) (fun f => [(0, .box 41 [aS r.s, aI at_, aB r.ok])]) σ → EWL C 72 (bAt Tryd.f28 [1, 1, 0, 0, 0]) σ Q) ?_
  intro self ih at_ o hh0
  intro g C Q hx σ hσ
  obtain ⟨f, hf, rfl⟩ := hσ
  refine EWL.round ?_
  refine EW.seq ?_
  refine EW.seq ?_
  obtain ⟨o_, hh1, hh0⟩ := bs_ hh0
  refine EW.bj (At g [0] (fun f => [(0, .pt 0 (f 0) 0), (3, aI r.at_), (53, aB o_)]) (fun f => [(0, .box 41 [aS r.s, aI at_, aB r.ok])])) ?_ ?_
  · refine EW.drawU MX ?_
    refine .p rfl (D.mv rfl) ?_
    refine .p rfl (D.nck rfl rfl) ?_
    refine .p rfl (D.fld O41_1 rfl rfl rfl) ?_
    refine .p rfl (D.ld1 T3 rfl rfl rfl) ?_
    refine .p rfl (D.mv rfl) ?_
    refine .p rfl (D.nck rfl rfl) ?_
    refine .p rfl (D.fld O41_0 rfl rfl rfl) ?_
    refine .p rfl (D.ld1 T9 rfl rfl rfl) ?_
    refine .p rfl (D.lenS S9 rfl) ?_
    refine .p rfl (D.lt rfl rfl) ?_
    refine .p rfl (D.mv (x := aB (decide (at_ < (r.s.length : Int)))) rfl) ?_
    rcases it hh1 with ⟨hb10, hh1⟩ | ⟨hb10, hh1⟩
    ·
      refine .gy rfl rfl rfl hb10 rfl (D.mv rfl) ?_
      refine .gy rfl rfl rfl hb10 rfl (D.nck rfl rfl) ?_
      refine .gy rfl rfl rfl hb10 rfl (D.fld O41_0 rfl rfl rfl) ?_
      refine .gy rfl rfl rfl hb10 rfl (D.ld1 T9 rfl rfl rfl) ?_
      refine .gy rfl rfl rfl hb10 rfl (D.mv rfl) ?_
      refine .gy rfl rfl rfl hb10 rfl (D.nck rfl rfl) ?_
      refine .gy rfl rfl rfl hb10 rfl (D.fld O41_1 rfl rfl rfl) ?_
      refine .gy rfl rfl rfl hb10 rfl (D.ld1 T3 rfl rfl rfl) ?_
      obtain ⟨c, h_c, hh1⟩ := bs_ hh1
      refine .gy rfl rfl rfl hb10 rfl (D.idxS S9 rfl rfl h_c) ?_
      refine .gy rfl rfl rfl hb10 rfl (D.eqI rfl rfl) ?_
      refine .gy rfl rfl rfl hb10 rfl (D.mv (x := aB ((c.toNat : Int) == 45)) rfl) ?_
      rcases it hh1 with ⟨hb21, hh1⟩ | ⟨hb21, hh1⟩
      ·
        refine .gn rfl rfl rfl (nF hb21) ?_
        refine .gn rfl rfl rfl (nF hb21) ?_
        refine .gn rfl rfl rfl (nF hb21) ?_
        refine .gn rfl rfl rfl (nF hb21) ?_
        refine .gn rfl rfl rfl (nF hb21) ?_
        refine .gn rfl rfl rfl (nF hb21) ?_
        refine .gn rfl rfl rfl (nF hb21) ?_
        refine .gn rfl rfl rfl (nF hb21) ?_
        refine .gn rfl rfl rfl (nF hb21) ?_
        refine .gn rfl rfl rfl (nF hb21) ?_
        refine .gn rfl rfl rfl (nF hb21) ?_
        refine .gu rfl rfl rfl ?_
        refine .gu rfl rfl rfl ?_
        refine .gu rfl rfl rfl ?_
        refine .gu rfl rfl rfl ?_
        refine .gu rfl rfl rfl ?_
        refine .gu rfl rfl rfl ?_
        refine .gu rfl rfl rfl ?_
        refine .gu rfl rfl rfl ?_
        refine .gu rfl rfl rfl ?_
        refine .gu rfl rfl rfl ?_
        refine .gn rfl rfl rfl (nF hb21) ?_
        refine .gy rfl rfl rfl hb10 rfl (D.pickT rfl hb21 rfl) ?_
        refine .p rfl (D.pickT rfl hb10 rfl) ?_
        obtain rfl := sj_ hh1
        exact .nil (M := [0, 1, 3, 7, 0, 16, 48, 112, 240, 511, 1023, 2047, 4095, 8191, 16383, 2047, 34815, 100351, 231423, 524287, 1048575, 2097151, 4194303, 8388607, 16777215, 33554431, 4194303, 71303167, 205520895, 473956351, 1073741823, 2147483647, 4294967295, 8589934591, 17179869183, 34359738367, 68719476735, 8589934591, 146028888063, 420906795007, 970662608895, 2199023255551, 4398046511103, 8796093022207, 17592186044415, 35184372088831]) (by kernel_rfl) (Up.at [0] (fun _ h => h) hf ⟨.c (.pt rfl rfl rfl), .c .fz, .c .fz, trivial⟩ ⟨rfl, .box (.all rfl), rfl⟩)
      ·
        refine .gy rfl rfl rfl hb21 rfl (D.mv rfl) ?_
        refine .gy rfl rfl rfl hb21 rfl (D.nck rfl rfl) ?_
        refine .gy rfl rfl rfl hb21 rfl (D.fld O41_0 rfl rfl rfl) ?_
        refine .gy rfl rfl rfl hb21 rfl (D.ld1 T9 rfl rfl rfl) ?_
        refine .gy rfl rfl rfl hb21 rfl (D.mv rfl) ?_
        refine .gy rfl rfl rfl hb21 rfl (D.nck rfl rfl) ?_
        refine .gy rfl rfl rfl hb21 rfl (D.fld O41_1 rfl rfl rfl) ?_
        refine .gy rfl rfl rfl hb21 rfl (D.ld1 T3 rfl rfl rfl) ?_
        refine .gy rfl rfl rfl hb21 rfl (D.idxS S9 rfl rfl h_c) ?_
        refine .gy rfl rfl rfl hb21 rfl (D.ge rfl rfl) ?_
        refine .gy rfl rfl rfl hb21 rfl (D.mv (x := aB (decide (48 ≤ (c.toNat : Int)))) rfl) ?_
        rcases it hh1 with ⟨hb32, hh1⟩ | ⟨hb32, hh1⟩
        ·
          refine .gy rfl rfl rfl hb32 rfl (D.mv rfl) ?_
          refine .gy rfl rfl rfl hb32 rfl (D.nck rfl rfl) ?_
          refine .gy rfl rfl rfl hb32 rfl (D.fld O41_0 rfl rfl rfl) ?_
          refine .gy rfl rfl rfl hb32 rfl (D.ld1 T9 rfl rfl rfl) ?_
          refine .gy rfl rfl rfl hb32 rfl (D.mv rfl) ?_
          refine .gy rfl rfl rfl hb32 rfl (D.nck rfl rfl) ?_
          refine .gy rfl rfl rfl hb32 rfl (D.fld O41_1 rfl rfl rfl) ?_
          refine .gy rfl rfl rfl hb32 rfl (D.ld1 T3 rfl rfl rfl) ?_
          refine .gy rfl rfl rfl hb32 rfl (D.idxS S9 rfl rfl h_c) ?_
          refine .gy rfl rfl rfl hb32 rfl (D.le rfl rfl) ?_
          refine .gy rfl rfl rfl hb21 rfl (D.pickT rfl hb32 rfl) ?_
          refine .gy rfl rfl rfl hb10 rfl (D.pickF rfl hb21 rfl) ?_
          refine .p rfl (D.pickT rfl hb10 rfl) ?_
          obtain rfl := sj_ hh1
          exact .nil (M := [0, 1, 3, 7, 0, 16, 48, 112, 240, 511, 1023, 2047, 4095, 8191, 16383, 2047, 34815, 100351, 231423, 524287, 1048575, 2097151, 4194303, 8388607, 16777215, 33554431, 4194303, 71303167, 205520895, 473956351, 1073741823, 2147483647, 4294967295, 8589934591, 17179869183, 34359738367, 68719476735, 8589934591, 146028888063, 420906795007, 970662608895, 2199023255551, 4398046511103, 8796093022207, 17592186044415, 35184372088831]) (by kernel_rfl) (Up.at [0] (fun _ h => h) hf ⟨.c (.pt rfl rfl rfl), .c .fz, .c .fz, trivial⟩ ⟨rfl, .box (.all rfl), rfl⟩)
        ·
          refine .gn rfl rfl rfl (nT hb32) ?_
          refine .gn rfl rfl rfl (nT hb32) ?_
          refine .gn rfl rfl rfl (nT hb32) ?_
          refine .gn rfl rfl rfl (nT hb32) ?_
          refine .gn rfl rfl rfl (nT hb32) ?_
          refine .gn rfl rfl rfl (nT hb32) ?_
          refine .gn rfl rfl rfl (nT hb32) ?_
          refine .gn rfl rfl rfl (nT hb32) ?_
          refine .gn rfl rfl rfl (nT hb32) ?_
          refine .gn rfl rfl rfl (nT hb32) ?_
          refine .gy rfl rfl rfl hb21 rfl (D.pickF rfl hb32 rfl) ?_
          refine .gy rfl rfl rfl hb10 rfl (D.pickF rfl hb21 rfl) ?_
          refine .p rfl (D.pickT rfl hb10 rfl) ?_
          obtain rfl := sj_ hh1
          exact .nil (M := [0, 1, 3, 7, 0, 16, 48, 112, 240, 511, 1023, 2047, 4095, 8191, 16383, 2047, 34815, 100351, 231423, 524287, 1048575, 2097151, 4194303, 8388607, 16777215, 33554431, 4194303, 71303167, 205520895, 473956351, 1073741823, 2147483647, 4294967295, 8589934591, 17179869183, 34359738367, 68719476735, 8589934591, 146028888063, 420906795007, 970662608895, 2199023255551, 4398046511103, 8796093022207, 17592186044415, 35184372088831]) (by kernel_rfl) (Up.at [0] (fun _ h => h) hf ⟨.c (.pt rfl rfl rfl), .c .fz, .c .fz, trivial⟩ ⟨rfl, .box (.all rfl), rfl⟩)
    ·
      refine .gn rfl rfl rfl (nT hb10) ?_
      refine .gn rfl rfl rfl (nT hb10) ?_
      refine .gn rfl rfl rfl (nT hb10) ?_
      refine .gn rfl rfl rfl (nT hb10) ?_
      refine .gn rfl rfl rfl (nT hb10) ?_
      refine .gn rfl rfl rfl (nT hb10) ?_
      refine .gn rfl rfl rfl (nT hb10) ?_
      refine .gn rfl rfl rfl (nT hb10) ?_
      refine .gn rfl rfl rfl (nT hb10) ?_
      refine .gn rfl rfl rfl (nT hb10) ?_
      refine .gn rfl rfl rfl (nT hb10) ?_
      refine .gu rfl rfl rfl ?_
      refine .gu rfl rfl rfl ?_
      refine .gu rfl rfl rfl ?_
      refine .gu rfl rfl rfl ?_
      refine .gu rfl rfl rfl ?_
      refine .gu rfl rfl rfl ?_
      refine .gu rfl rfl rfl ?_
      refine .gu rfl rfl rfl ?_
      refine .gu rfl rfl rfl ?_
      refine .gu rfl rfl rfl ?_
      refine .gu rfl rfl rfl ?_
      refine .gu rfl rfl rfl ?_
      refine .gu rfl rfl rfl ?_
      refine .gu rfl rfl rfl ?_
      refine .gu rfl rfl rfl ?_
      refine .gu rfl rfl rfl ?_
      refine .gu rfl rfl rfl ?_
      refine .gu rfl rfl rfl ?_
      refine .gu rfl rfl rfl ?_
      refine .gu rfl rfl rfl ?_
      refine .gu rfl rfl rfl ?_
      refine .gu rfl rfl rfl ?_
      refine .gn rfl rfl rfl (nT hb10) ?_
      refine .p rfl (D.pickF rfl hb10 rfl) ?_
      obtain rfl := sj_ hh1
      exact .nil (M := [0, 1, 3, 7, 0, 16, 48, 112, 240, 511, 1023, 2047, 4095, 8191, 16383, 2047, 34815, 100351, 231423, 524287, 1048575, 2097151, 4194303, 8388607, 16777215, 33554431, 4194303, 71303167, 205520895, 473956351, 1073741823, 2147483647, 4294967295, 8589934591, 17179869183, 34359738367, 68719476735, 8589934591, 146028888063, 420906795007, 970662608895, 2199023255551, 4398046511103, 8796093022207, 17592186044415, 35184372088831]) (by kernel_rfl) (Up.at [0] (fun _ h => h) hf ⟨.c (.pt rfl rfl rfl), .c .fz, .c .fz, trivial⟩ ⟨rfl, .box (.all rfl), rfl⟩)
  · rintro _ ⟨f, hf, rfl⟩
    rcases it hh0 with ⟨hb, hh0⟩ | ⟨hb, hh0⟩
    · refine EW.condT rfl rfl hb ?_
      refine EW.skip ?_
      refine EW.block ?_
      refine EW.region ?_
      refine .p rfl (D.mv rfl) ?_
      refine .p rfl (D.mv rfl) ?_
      refine .p rfl (D.nck rfl rfl) ?_
      refine .p rfl (D.fld O41_1 rfl rfl rfl) ?_
      refine .p rfl (D.ld1 T3 rfl rfl rfl) ?_
      refine .p rfl (D.add rfl rfl) ?_
      refine .p rfl (D.nck rfl rfl) ?_
      refine .p rfl (D.fld O41_1 rfl rfl rfl) ?_
      refine .st rfl (D.st T3 rfl rfl rfl rfl rfl rfl) ?_
      refine .nil ?_
      exact EWL.less [0] (ih _ _ hh0 _ _ _ hx) hf ⟨.c (.pt rfl rfl rfl), .c .fz, trivial⟩ ⟨rfl, .box (.all rfl), rfl⟩
    · refine EW.condF rfl rfl hb ?_
      obtain rfl := sj_ hh0
      exact EW.exitA [0] (fun _ h => hx _ h) hf ⟨.c (.pt rfl rfl rfl), .c .fz, trivial⟩ ⟨rfl, .box (.all rfl), rfl⟩

theorem spec_l31Rd_number_ok {r : L31Rd} {y : Str × L31Rd} (hh0 : spec_l31Rd_number r = some y) (g : Nat → Nat) : Fn Tryd.prog 28 (stoF g [(0, .box 41 [aS r.s, aI r.at_, aB r.ok])]) [.pt 0 (g 0) 0] (stoF g [(0, .box 41 [aS y.2.s, aI y.2.at_, aB y.2.ok])]) (aS y.1) := by
  refine Fn.of0 (hs := [0]) (kl := [0]) (L := (fun f => [(2, aS y.1)])) (O := (fun f => [(0, .box 41 [aS y.2.s, aI y.2.at_, aB y.2.ok])])) Tryd.func28 rfl Tryd.ntmps28 rfl (fun f hf => ⟨(.same rfl hf.1 (.box (.all rfl)) .nil), .one (Nat.le_of_ble_eq_true rfl) (.tmp rfl) (.c .fz)⟩) rfl rfl (fun C => ?_)
  have hf : agree g [0] g := agree_refl g _
  refine EW.seq ?_
  refine EW.region ?_
  refine .p rfl (D.as (x := aS []) rfl) ?_
  refine .nil ?_
  refine EW.seq ?_
  refine EW.region ?_
  refine .p rfl (D.mv rfl) ?_
  refine .p rfl (D.nck rfl rfl) ?_
  refine .p rfl (D.fld O41_1 rfl rfl rfl) ?_
  refine .p rfl (D.ld1 T3 rfl rfl rfl) ?_
  refine .p rfl (D.as (x := aI r.at_) rfl) ?_
  refine .nil ?_
  refine EW.seq ?_
  obtain ⟨o_1, hl, hh0⟩ := bs_ hh0
  refine EW.bj (At g [0] (fun f => [(0, .pt 0 (f 0) 0), (3, aI r.at_)]) (fun f => [(0, .box 41 [aS r.s, aI o_1, aB r.ok])])) (EW.block (EW.loop (EWL.less [0] (spec_l31Rd_number_l0_ok _ _ _ hl g C _ (fun _ h => h)) hf ⟨.c (.pt rfl rfl rfl), .c .fz, trivial⟩ ⟨rfl, .box (.all rfl), rfl⟩))) ?_
  rintro _ ⟨f, hf, rfl⟩
  refine EW.seq ?_
  refine EW.drawU MX ?_
  refine .p rfl (D.mv rfl) ?_
  refine .p rfl (D.nck rfl rfl) ?_
  refine .p rfl (D.fld O41_0 rfl rfl rfl) ?_
  refine .p rfl (D.ld1 T9 rfl rfl rfl) ?_
  refine .p rfl (D.mv (x := aI r.at_) rfl) ?_
  refine .p rfl (D.mv rfl) ?_
  refine .p rfl (D.nck rfl rfl) ?_
  refine .p rfl (D.fld O41_1 rfl rfl rfl) ?_
  refine .p rfl (D.ld1 T3 rfl rfl rfl) ?_
  obtain ⟨s, h_s, hh0⟩ := bs_ hh0
  refine .p rfl (D.cutS S9 rfl (.inr ⟨_, _, rfl, rfl⟩) (.inr ⟨_, _, rfl, rfl⟩) h_s) ?_
  refine .p rfl (D.as (x := aS s) rfl) ?_
  refine .nil (M := [0, 1, 3, 7, 0, 0, 32, 96, 224, 511, 1023]) (by kernel_rfl) (Up.of ?_)
  obtain rfl := sj_ hh0
  exact EW.retA [0] (fun _ h => ⟨.inr rfl, h⟩) hf ⟨.c .fz, trivial⟩ ⟨rfl, .box (.all rfl), rfl⟩

theorem spec_l31Rd_value_all : (∀ (r : L31Rd) (deep : Int) (y : Json × L31Rd), spec_l31Rd_value r deep = some y → ∀ g : Nat → Nat, Fn Tryd.prog 15 (stoF g [(0, .box 41 [aS r.s, aI r.at_, aB r.ok])]) [.pt 0 (g 0) 0, aI deep] (stoF g [(0, .box 41 [aS y.2.s, aI y.2.at_, aB y.2.ok])]) (.ag [aI y.1.Kind, aB y.1.Flag, aS y.1.Text, aL 1 eS y.1.Names, aL 5 Json.c y.1.Kids]))
   ∧ (∀ (r : L31Rd) (j : Json) (end_ : Str) (deep : Int) (y : Json × L31Rd), spec_l31Rd_kids r j end_ deep = some y → ∀ g : Nat → Nat, Fn Tryd.prog 27 (stoF g [(0, .box 41 [aS r.s, aI r.at_, aB r.ok])]) [.pt 0 (g 0) 0, .ag [aI j.Kind, aB j.Flag, aS j.Text, nilA, nilA], aS end_, aI deep] (stoF g [(0, .box 41 [aS y.2.s, aI y.2.at_, aB y.2.ok])]) (.ag [aI y.1.Kind, aB y.1.Flag, aS y.1.Text, aL 1 eS y.1.Names, aL 5 Json.c y.1.Kids]))
   ∧ (∀ (j : Json) (end_ : Str) (deep : Int) (s : Str) (at_ : Int) (ok : Bool) (out : (List Str)) (out1 : (List Json)) (o : (Str × Int × Bool × (List Str) × (List Json)) ⊕ (Json × L31Rd)), spec_l31Rd_kids_l0 j end_ deep s at_ ok out out1 = some o → ∀ (g : Nat → Nat) (C : Ctx Tryd.prog) (Q : Exit → St → Prop), (∀ v, o = .inl v → ∀ σ', At g [0] (fun f => [(0, .pt 0 (f 0) 0), (5, .pt 2 (f 2) 0), (8, .pt 1 (f 1) 0)]) (fun f => [(0, .box 41 [aS v.1, aI v.2.1, aB v.2.2.1]), (1, .box 27 [aI 0, aB false, aS [], nilA, nilA]), (2, .box 27 [aI j.Kind, aB j.Flag, aS j.Text, .ow 3 (f 3), .ow 4 (f 4)]), (3, oR 9 1 eS v.2.2.2.1), (4, oR 27 5 Json.c v.2.2.2.2)]) σ' → Q (.exit 0) σ') → (∀ r, o = .inr r → ∀ σ', At g [0] (fun f => [(8, .pt 1 (f 1) 0)]) (fun f => [(0, .box 41 [aS r.2.s, aI r.2.at_, aB r.2.ok]), (1, .box 27 [aI r.1.Kind, aB r.1.Flag, aS r.1.Text, aL 1 eS r.1.Names, aL 5 Json.c r.1.Kids])]) σ' → Q .ret σ') → ∀ σ, At g [0] (fun f => [(0, .pt 0 (f 0) 0), (2, aS end_), (3, aI deep), (5, .pt 2 (f 2) 0), (8, .pt 1 (f 1) 0)]) (fun f => [(0, .box 41 [aS s, aI at_, aB ok]), (1, .box 27 [aI 0, aB false, aS [], nilA, nilA]), (2, .box 27 [aI j.Kind, aB j.Flag, aS j.Text, .ow 3 (f 3), .ow 4 (f 4)]), (3, oR 9 1 eS out), (4, oR 27 5 Json.c out1)]) σ → EWL C 60 (bAt Tryd.f27 [1, 1, 0, 0, 0]) σ Q) := by
  refine spec_l31Rd_value.mpc (fun r deep y => ∀ g : Nat → Nat, Fn Tryd.prog 15 (stoF g [(0, .box 41 [aS r.s, aI r.at_, aB r.ok])]) [.pt 0 (g 0) 0, aI deep] (stoF g [(0, .box 41 [aS y.2.s, aI y.2.at_, aB y.2.ok])]) (.ag [aI y.1.Kind, aB y.1.Flag, aS y.1.Text, aL 1 eS y.1.Names, aL 5 Json.c y.1.Kids]))
    (fun r j end_ deep y => ∀ g : Nat → Nat, Fn Tryd.prog 27 (stoF g [(0, .box 41 [aS r.s, aI r.at_, aB r.ok])]) [.pt 0 (g 0) 0, .ag [aI j.Kind, aB j.Flag, aS j.Text, nilA, nilA], aS end_, aI deep] (stoF g [(0, .box 41 [aS y.2.s, aI y.2.at_, aB y.2.ok])]) (.ag [aI y.1.Kind, aB y.1.Flag, aS y.1.Text, aL 1 eS y.1.Names, aL 5 Json.c y.1.Kids]))
    (fun j end_ deep s at_ ok out out1 o => ∀ (g : Nat → Nat) (C : Ctx Tryd.prog) (Q : Exit → St → Prop), (∀ v, o = .inl v → ∀ σ', At g [0] (fun f => [(0, .pt 0 (f 0) 0), (5, .pt 2 (f 2) 0), (8, .pt 1 (f 1) 0)]) (fun f => [(0, .box 41 [aS v.1, aI v.2.1, aB v.2.2.1]), (1, .box 27 [aI 0, aB false, aS [], nilA, nilA]), (2, .box 27 [aI j.Kind, aB j.Flag, aS j.Text, .ow 3 (f 3), .ow 4 (f 4)]), (3, oR 9 1 eS v.2.2.2.1), (4, oR 27 5 Json.c v.2.2.2.2)]) σ' → Q (.exit 0) σ') → (∀ r, o = .inr r → ∀ σ', At g [0] (fun f => [(8, .pt 1 (f 1) 0)]) (fun f => [(0, .box 41 [aS r.2.s, aI r.2.at_, aB r.2.ok]), (1, .box 27 [aI r.1.Kind, aB r.1.Flag, aS r.1.Text, aL 1 eS r.1.Names, aL 5 Json.c r.1.Kids])]) σ' → Q .ret σ') → ∀ σ, At g [0] (fun f => [(0, .pt 0 (f 0) 0), (2, aS end_), (3, aI deep), (5, .pt 2 (f 2) 0), (8, .pt 1 (f 1) 0)]) (fun f => [(0, .box 41 [aS s, aI at_, aB ok]), (1, .box 27 [aI 0, aB false, aS [], nilA, nilA]), (2, .box 27 [aI j.Kind, aB j.Flag, aS j.Text, .ow 3 (f 3), .ow 4 (f 4)]), (3, oR 9 1 eS out), (4, oR 27 5 Json.c out1)]) σ → EWL C 60 (bAt Tryd.f27 [1, 1, 0, 0, 0]) σ Q) ?_ ?_ ?_
  · intro sf_spec_l31Rd_kids ih_spec_l31Rd_kids r deep y hh0
    intro g
    refine Fn.of0 (hs := [0]) (kl := [0]) (L := (fun f => [(4, .pt 1 (f 1) 0)])) (O := (fun f => [(0, .box 41 [aS y.2.s, aI y.2.at_, aB y.2.ok]), (1, .box 27 [aI y.1.Kind, aB y.1.Flag, aS y.1.Text, aL 1 eS y.1.Names, aL 5 Json.c y.1.Kids])])) Tryd.func15 rfl Tryd.ntmps15 rfl (fun f hf => ⟨(.same rfl hf.1 (.box (.all rfl)) .nil), .one (Nat.le_of_ble_eq_true rfl) (.cellN rfl rfl T27 (Nat.le_of_ble_eq_true rfl)) (.ag (.all rfl))⟩) rfl rfl (fun C => ?_)
    have hf : agree g [0] g := agree_refl g _
    refine EW.seq ?_
    refine EW.region ?_
    refine .w rfl (D.alloc 1 rfl ZF27 rfl rfl) ?_
    refine .nil ?_
    refine EW.seq ?_
    refine EW.seq ?_
    refine EW.region ?_
    refine .p rfl (D.mv (x := aI deep) rfl) ?_
    refine .p rfl (D.lt rfl rfl) ?_
    refine .nil ?_
    obtain ⟨o_, hh1, hh0⟩ := bs_ hh0
    refine EW.bj (At g [0] (fun f => [(0, .pt 0 (f 0) 0), (1, aI deep), (4, .pt 1 (f 1) 0)]) (fun f => [(0, .box 41 [aS r.s, aI r.at_, aB o_]), (1, .box 27 [aI 0, aB false, aS [], nilA, nilA])])) ?_ ?_
    · rcases it hh1 with ⟨hb, hh1⟩ | ⟨hb, hh1⟩
      · refine EW.condT rfl rfl hb ?_
        refine EW.region ?_
        refine .p rfl (D.mv rfl) ?_
        refine .p rfl (D.nck rfl rfl) ?_
        refine .p rfl (D.fld O41_2 rfl rfl rfl) ?_
        refine .st rfl (D.st T4 rfl rfl rfl rfl rfl rfl) ?_
        obtain rfl := sj_ hh1
        exact .nilA [0, 1] (fun _ h => h) hf ⟨.c (.pt rfl rfl rfl), .c .fz, .c (.pt rfl rfl rfl), trivial⟩ ⟨rfl, .box (.all rfl), rfl, .box (.all rfl), rfl⟩
      · refine EW.condF rfl rfl hb ?_
        obtain rfl := sj_ hh1
        exact EW.skipA [0, 1] (fun _ h => h) hf ⟨.c (.pt rfl rfl rfl), .c .fz, .c (.pt rfl rfl rfl), trivial⟩ ⟨rfl, .box (.all rfl), rfl, .box (.all rfl), rfl⟩
    · rintro _ ⟨f, hf, rfl⟩
      refine EW.seq ?_
      refine EW.block ?_
      refine EW.seq ?_
      obtain ⟨o_1, hh1, hh0⟩ := bs_ hh0
      refine EW.bj (At g [0] (fun f => [(0, .pt 0 (f 0) 0), (1, aI deep), (4, .pt 1 (f 1) 0), (10, aB o_1)]) (fun f => [(0, .box 41 [aS r.s, aI r.at_, aB o_]), (1, .box 27 [aI 0, aB false, aS [], nilA, nilA])])) ?_ ?_
      · refine EW.drawU MX ?_
        refine .p rfl (D.mv rfl) ?_
        refine .p rfl (D.nck rfl rfl) ?_
        refine .p rfl (D.fld O41_2 rfl rfl rfl) ?_
        refine .p rfl (D.ld1 T4 rfl rfl rfl) ?_
        refine .p rfl (D.not rfl) ?_
        refine .p rfl (D.mv (x := aB (!o_)) rfl) ?_
        rcases it hh1 with ⟨hb5, hh1⟩ | ⟨hb5, hh1⟩
        ·
          refine .gn rfl rfl rfl (nF hb5) ?_
          refine .gn rfl rfl rfl (nF hb5) ?_
          refine .gn rfl rfl rfl (nF hb5) ?_
          refine .gn rfl rfl rfl (nF hb5) ?_
          refine .gn rfl rfl rfl (nF hb5) ?_
          refine .gn rfl rfl rfl (nF hb5) ?_
          refine .gn rfl rfl rfl (nF hb5) ?_
          refine .gn rfl rfl rfl (nF hb5) ?_
          refine .gn rfl rfl rfl (nF hb5) ?_
          refine .gn rfl rfl rfl (nF hb5) ?_
          refine .p rfl (D.pickT rfl hb5 rfl) ?_
          refine .p rfl (D.as (x := aB true) rfl) ?_
          obtain rfl := sj_ hh1
          exact .nil (M := [0, 1, 3, 7, 15, 31, 63, 127, 255, 511, 63, 1087, 3135, 7231, 15423, 32767, 65535, 131071]) (by kernel_rfl) (Up.at [0, 1] (fun _ h => h) hf ⟨.c (.pt rfl rfl rfl), .c .fz, .c (.pt rfl rfl rfl), .c .fz, trivial⟩ ⟨rfl, .box (.all rfl), rfl, .box (.all rfl), rfl⟩)
        ·
          refine .gy rfl rfl rfl hb5 rfl (D.mv rfl) ?_
          refine .gy rfl rfl rfl hb5 rfl (D.nck rfl rfl) ?_
          refine .gy rfl rfl rfl hb5 rfl (D.fld O41_1 rfl rfl rfl) ?_
          refine .gy rfl rfl rfl hb5 rfl (D.ld1 T3 rfl rfl rfl) ?_
          refine .gy rfl rfl rfl hb5 rfl (D.mv rfl) ?_
          refine .gy rfl rfl rfl hb5 rfl (D.nck rfl rfl) ?_
          refine .gy rfl rfl rfl hb5 rfl (D.fld O41_0 rfl rfl rfl) ?_
          refine .gy rfl rfl rfl hb5 rfl (D.ld1 T9 rfl rfl rfl) ?_
          refine .gy rfl rfl rfl hb5 rfl (D.lenS S9 rfl) ?_
          refine .gy rfl rfl rfl hb5 rfl (D.ge rfl rfl) ?_
          refine .p rfl (D.pickF rfl hb5 rfl) ?_
          refine .p rfl (D.as (x := aB (decide ((r.s.length : Int) ≤ r.at_))) rfl) ?_
          obtain rfl := sj_ hh1
          exact .nil (M := [0, 1, 3, 7, 15, 31, 63, 127, 255, 511, 63, 1087, 3135, 7231, 15423, 32767, 65535, 131071]) (by kernel_rfl) (Up.at [0, 1] (fun _ h => h) hf ⟨.c (.pt rfl rfl rfl), .c .fz, .c (.pt rfl rfl rfl), .c .fz, trivial⟩ ⟨rfl, .box (.all rfl), rfl, .box (.all rfl), rfl⟩)
      · rintro _ ⟨f, hf, rfl⟩
        rcases it hh0 with ⟨hb, hh0⟩ | ⟨hb, hh0⟩
        · refine EW.condT rfl rfl hb ?_
          refine EW.seq ?_
          refine EW.region ?_
          refine .p rfl (D.mv rfl) ?_
          refine .p rfl (D.nck rfl rfl) ?_
          refine .p rfl (D.fld O41_2 rfl rfl rfl) ?_
          refine .st rfl (D.st T4 rfl rfl rfl rfl rfl rfl) ?_
          refine .nil ?_
          refine EW.seq ?_
          refine EW.region ?_
          refine .p rfl (D.build FS27 ZF27 rfl .nil rfl) ?_
          refine .st rfl (D.st T27 rfl rfl rfl rfl rfl rfl) ?_
          refine .nil ?_
          obtain rfl := sj_ hh0
          exact EW.retA [0, 1] (fun _ h => ⟨.inr rfl, h⟩) hf ⟨.c (.pt rfl rfl rfl), trivial⟩ ⟨rfl, .box (.all rfl), rfl, .box (.cons .fz (.cons .fz (.cons .fz (.cons .nil (.cons .nil .nil))))), rfl⟩
        · refine EW.condF rfl rfl hb ?_
          refine EW.seq ?_
          refine EW.region ?_
          refine .p rfl (D.mv rfl) ?_
          obtain ⟨r1, h_r1, hh0⟩ := bs_ hh0
          refine .c rfl (D.callG (eff := [(0, ⟨_, .box 41 [aS r1.2.s, aI r1.2.at_, aB r1.2.ok]⟩)]) (spec_l31Rd_take_ok h_r1 g) C25 rfl [(0, 0)] [] [0] (.cons (.c (.pt rfl rfl rfl rfl)) (.cons (.c .fz) .nil)) rfl rfl (.cons rfl (.box (.all rfl)) .nil) rfl rfl rfl (.same rfl rfl rfl (.box (.all rfl)) .nil) .nil (.v (.c .fz))) ?_
          refine .p rfl (D.as (x := aB r1.1) rfl) ?_
          refine .nil ?_
          rcases it hh0 with ⟨hb, hh0⟩ | ⟨hb, hh0⟩
          · refine EW.condT rfl rfl hb ?_
            refine EW.seq ?_
            refine EW.region ?_
            refine .p rfl (D.build FS27 ZF27 rfl (.cons rfl .nil) rfl) ?_
            refine .st rfl (D.st T27 rfl rfl rfl rfl rfl rfl) ?_
            refine .nil ?_
            obtain rfl := sj_ hh0
            exact EW.retA [0, 1] (fun _ h => ⟨.inr rfl, h⟩) hf ⟨.c (.pt rfl rfl rfl), trivial⟩ ⟨rfl, .box (.all rfl), rfl, .box (.cons .fz (.cons .fz (.cons .fz (.cons .nil (.cons .nil .nil))))), rfl⟩
          · refine EW.condF rfl rfl hb ?_
            refine EW.seq ?_
            refine EW.region ?_
            refine .p rfl (D.mv rfl) ?_
            obtain ⟨r2, h_r2, hh0⟩ := bs_ hh0
            refine .c rfl (D.callG (eff := [(0, ⟨_, .box 41 [aS r2.2.s, aI r2.2.at_, aB r2.2.ok]⟩)]) (spec_l31Rd_take_ok h_r2 g) C25 rfl [(0, 0)] [] [0] (.cons (.c (.pt rfl rfl rfl rfl)) (.cons (.c .fz) .nil)) rfl rfl (.cons rfl (.box (.all rfl)) .nil) rfl rfl rfl (.same rfl rfl rfl (.box (.all rfl)) .nil) .nil (.v (.c .fz))) ?_
            refine .p rfl (D.as (x := aB r2.1) rfl) ?_
            refine .nil ?_
            rcases it hh0 with ⟨hb, hh0⟩ | ⟨hb, hh0⟩
            · refine EW.condT rfl rfl hb ?_
              refine EW.seq ?_
              refine EW.region ?_
              refine .p rfl (D.build FS27 ZF27 rfl (.cons rfl (.cons rfl .nil)) rfl) ?_
              refine .st rfl (D.st T27 rfl rfl rfl rfl rfl rfl) ?_
              refine .nil ?_
              obtain rfl := sj_ hh0
              exact EW.retA [0, 1] (fun _ h => ⟨.inr rfl, h⟩) hf ⟨.c (.pt rfl rfl rfl), trivial⟩ ⟨rfl, .box (.all rfl), rfl, .box (.cons .fz (.cons .fz (.cons .fz (.cons .nil (.cons .nil .nil))))), rfl⟩
            · refine EW.condF rfl rfl hb ?_
              refine EW.seq ?_
              refine EW.region ?_
              refine .p rfl (D.mv rfl) ?_
              obtain ⟨r3, h_r3, hh0⟩ := bs_ hh0
              refine .c rfl (D.callG (eff := [(0, ⟨_, .box 41 [aS r3.2.s, aI r3.2.at_, aB r3.2.ok]⟩)]) (spec_l31Rd_take_ok h_r3 g) C25 rfl [(0, 0)] [] [0] (.cons (.c (.pt rfl rfl rfl rfl)) (.cons (.c .fz) .nil)) rfl rfl (.cons rfl (.box (.all rfl)) .nil) rfl rfl rfl (.same rfl rfl rfl (.box (.all rfl)) .nil) .nil (.v (.c .fz))) ?_
              refine .p rfl (D.as (x := aB r3.1) rfl) ?_
              refine .nil ?_
              rcases it hh0 with ⟨hb, hh0⟩ | ⟨hb, hh0⟩
              · refine EW.condT rfl rfl hb ?_
                refine EW.seq ?_
                refine EW.region ?_
                refine .p rfl (D.build FS27 ZF27 rfl (.cons rfl .nil) rfl) ?_
                refine .st rfl (D.st T27 rfl rfl rfl rfl rfl rfl) ?_
                refine .nil ?_
                obtain rfl := sj_ hh0
                exact EW.retA [0, 1] (fun _ h => ⟨.inr rfl, h⟩) hf ⟨.c (.pt rfl rfl rfl), trivial⟩ ⟨rfl, .box (.all rfl), rfl, .box (.cons .fz (.cons .fz (.cons .fz (.cons .nil (.cons .nil .nil))))), rfl⟩
              · refine EW.condF rfl rfl hb ?_
                refine EW.seq ?_
                refine EW.drawU MX ?_
                refine .p rfl (D.mv rfl) ?_
                refine .p rfl (D.nck rfl rfl) ?_
                refine .p rfl (D.fld O41_0 rfl rfl rfl) ?_
                refine .p rfl (D.ld1 T9 rfl rfl rfl) ?_
                refine .p rfl (D.mv rfl) ?_
                refine .p rfl (D.nck rfl rfl) ?_
                refine .p rfl (D.fld O41_1 rfl rfl rfl) ?_
                refine .p rfl (D.ld1 T3 rfl rfl rfl) ?_
                obtain ⟨c, h_c, hh0⟩ := bs_ hh0
                refine .p rfl (D.idxS S9 rfl rfl h_c) ?_
                refine .p rfl (D.eqI rfl rfl) ?_
                refine .p rfl (D.as (x := aB ((c.toNat : Int) == 34)) rfl) ?_
                refine .nil (M := [0, 1, 3, 7, 0, 16, 48, 112, 255, 511, 1023]) (by kernel_rfl) (Up.of ?_)
                rcases it hh0 with ⟨hb, hh0⟩ | ⟨hb, hh0⟩
                · refine EW.condT rfl rfl hb ?_
                  refine EW.seq ?_
                  refine EW.region ?_
                  refine .p rfl (D.mv rfl) ?_
                  obtain ⟨r4, h_r4, hh0⟩ := bs_ hh0
                  refine .c rfl (D.callG (eff := [(0, ⟨_, .box 41 [aS r4.2.s, aI r4.2.at_, aB r4.2.ok]⟩)]) (spec_l31Rd_quote_ok h_r4 g) C26 rfl [(0, 0)] [] [0] (.cons (.c (.pt rfl rfl rfl rfl)) .nil) rfl rfl (.cons rfl (.box (.all rfl)) .nil) rfl rfl rfl (.same rfl rfl rfl (.box (.all rfl)) .nil) .nil (.v (.c .fz))) ?_
                  refine .p rfl (D.build FS27 ZF27 rfl (.cons rfl (.cons rfl .nil)) rfl) ?_
                  refine .st rfl (D.st T27 rfl rfl rfl rfl rfl rfl) ?_
                  refine .nil ?_
                  obtain rfl := sj_ hh0
                  exact EW.retA [0, 1] (fun _ h => ⟨.inr rfl, h⟩) hf ⟨.c (.pt rfl rfl rfl), trivial⟩ ⟨rfl, .box (.all rfl), rfl, .box (.cons .fz (.cons .fz (.cons .fz (.cons .nil (.cons .nil .nil))))), rfl⟩
                · refine EW.condF rfl rfl hb ?_
                  refine EW.seq ?_
                  refine EW.region ?_
                  refine .p rfl (D.mv rfl) ?_
                  obtain ⟨r5, h_r5, hh0⟩ := bs_ hh0
                  refine .c rfl (D.callG (eff := [(0, ⟨_, .box 41 [aS r5.2.s, aI r5.2.at_, aB r5.2.ok]⟩)]) (spec_l31Rd_take_ok h_r5 g) C25 rfl [(0, 0)] [] [0] (.cons (.c (.pt rfl rfl rfl rfl)) (.cons (.c .fz) .nil)) rfl rfl (.cons rfl (.box (.all rfl)) .nil) rfl rfl rfl (.same rfl rfl rfl (.box (.all rfl)) .nil) .nil (.v (.c .fz))) ?_
                  refine .p rfl (D.as (x := aB r5.1) rfl) ?_
                  refine .nil ?_
                  rcases it hh0 with ⟨hb, hh0⟩ | ⟨hb, hh0⟩
                  · refine EW.condT rfl rfl hb ?_
                    refine EW.seq ?_
                    refine EW.region ?_
                    refine .p rfl (D.mv rfl) ?_
                    refine .p rfl (D.build FS27 ZF27 rfl (.cons rfl .nil) rfl) ?_
                    refine .p rfl (D.mv (x := aI deep) rfl) ?_
                    obtain ⟨r6, h_r6, hh0⟩ := bs_ hh0
                    refine .c rfl (D.callG (eff := [(0, ⟨_, .box 41 [aS r6.2.s, aI r6.2.at_, aB r6.2.ok]⟩)]) (ih_spec_l31Rd_kids _ _ _ _ _ h_r6 g) C27 rfl [(0, 0)] [] [0] (.cons (.c (.pt rfl rfl rfl rfl)) (.cons (.ag (.cons .fz (.cons .fz (.cons .fz (.cons .fz (.cons .fz .nil)))))) (.cons (.c .fz) (.cons (.c .fz) .nil)))) rfl rfl (.cons rfl (.box (.all rfl)) .nil) rfl rfl rfl (.same rfl rfl rfl (.box (.all rfl)) .nil) .nil (.v (.ag (.all rfl)))) ?_
                    refine .st rfl (D.st T27 rfl rfl rfl rfl rfl rfl) ?_
                    refine .nil ?_
                    obtain rfl := sj_ hh0
                    exact EW.retA [0, 1] (fun _ h => ⟨.inr rfl, h⟩) hf ⟨.c (.pt rfl rfl rfl), trivial⟩ ⟨rfl, .box (.all rfl), rfl, .box (.all rfl), rfl⟩
                  · refine EW.condF rfl rfl hb ?_
                    refine EW.seq ?_
                    refine EW.region ?_
                    refine .p rfl (D.mv rfl) ?_
                    obtain ⟨r7, h_r7, hh0⟩ := bs_ hh0
                    refine .c rfl (D.callG (eff := [(0, ⟨_, .box 41 [aS r7.2.s, aI r7.2.at_, aB r7.2.ok]⟩)]) (spec_l31Rd_take_ok h_r7 g) C25 rfl [(0, 0)] [] [0] (.cons (.c (.pt rfl rfl rfl rfl)) (.cons (.c .fz) .nil)) rfl rfl (.cons rfl (.box (.all rfl)) .nil) rfl rfl rfl (.same rfl rfl rfl (.box (.all rfl)) .nil) .nil (.v (.c .fz))) ?_
                    refine .p rfl (D.as (x := aB r7.1) rfl) ?_
                    refine .nil ?_
                    rcases it hh0 with ⟨hb, hh0⟩ | ⟨hb, hh0⟩
                    · refine EW.condT rfl rfl hb ?_
                      refine EW.seq ?_
                      refine EW.region ?_
                      refine .p rfl (D.mv rfl) ?_
                      refine .p rfl (D.build FS27 ZF27 rfl (.cons rfl .nil) rfl) ?_
                      refine .p rfl (D.mv (x := aI deep) rfl) ?_
                      obtain ⟨r8, h_r8, hh0⟩ := bs_ hh0
                      refine .c rfl (D.callG (eff := [(0, ⟨_, .box 41 [aS r8.2.s, aI r8.2.at_, aB r8.2.ok]⟩)]) (ih_spec_l31Rd_kids _ _ _ _ _ h_r8 g) C27 rfl [(0, 0)] [] [0] (.cons (.c (.pt rfl rfl rfl rfl)) (.cons (.ag (.cons .fz (.cons .fz (.cons .fz (.cons .fz (.cons .fz .nil)))))) (.cons (.c .fz) (.cons (.c .fz) .nil)))) rfl rfl (.cons rfl (.box (.all rfl)) .nil) rfl rfl rfl (.same rfl rfl rfl (.box (.all rfl)) .nil) .nil (.v (.ag (.all rfl)))) ?_
                      refine .st rfl (D.st T27 rfl rfl rfl rfl rfl rfl) ?_
                      refine .nil ?_
                      obtain rfl := sj_ hh0
                      exact EW.retA [0, 1] (fun _ h => ⟨.inr rfl, h⟩) hf ⟨.c (.pt rfl rfl rfl), trivial⟩ ⟨rfl, .box (.all rfl), rfl, .box (.all rfl), rfl⟩
                    · refine EW.condF rfl rfl hb ?_
                      refine EW.skip ?_
                      refine EW.seq ?_
                      refine EW.region ?_
                      refine .p rfl (D.mv rfl) ?_
                      obtain ⟨r9, h_r9, hh0⟩ := bs_ hh0
                      refine .c rfl (D.callG (eff := [(0, ⟨_, .box 41 [aS r9.2.s, aI r9.2.at_, aB r9.2.ok]⟩)]) (spec_l31Rd_number_ok h_r9 g) C28 rfl [(0, 0)] [] [0] (.cons (.c (.pt rfl rfl rfl rfl)) .nil) rfl rfl (.cons rfl (.box (.all rfl)) .nil) rfl rfl rfl (.same rfl rfl rfl (.box (.all rfl)) .nil) .nil (.v (.c .fz))) ?_
                      refine .p rfl (D.build FS27 ZF27 rfl (.cons rfl (.cons rfl .nil)) rfl) ?_
                      refine .st rfl (D.st T27 rfl rfl rfl rfl rfl rfl) ?_
                      refine .nil ?_
                      obtain rfl := sj_ hh0
                      exact EW.retA [0, 1] (fun _ h => ⟨.inr rfl, h⟩) hf ⟨.c (.pt rfl rfl rfl), trivial⟩ ⟨rfl, .box (.all rfl), rfl, .box (.cons .fz (.cons .fz (.cons .fz (.cons .nil (.cons .nil .nil))))), rfl⟩
  · intro sf_spec_l31Rd_kids_l0 ih_spec_l31Rd_kids_l0 r j end_ deep y hh0
    intro g
    refine Fn.of0 (hs := [0]) (kl := [0]) (L := (fun f => [(8, .pt 1 (f 1) 0)])) (O := (fun f => [(0, .box 41 [aS y.2.s, aI y.2.at_, aB y.2.ok]), (1, .box 27 [aI y.1.Kind, aB y.1.Flag, aS y.1.Text, aL 1 eS y.1.Names, aL 5 Json.c y.1.Kids])])) Tryd.func27 rfl Tryd.ntmps27 rfl (fun f hf => ⟨(.same rfl hf.1 (.box (.all rfl)) .nil), .one (Nat.le_of_ble_eq_true rfl) (.cellN rfl rfl T27 (Nat.le_of_ble_eq_true rfl)) (.ag (.all rfl))⟩) rfl rfl (fun C => ?_)
    have hf : agree g [0] g := agree_refl g _
    refine EW.seq ?_
    refine EW.region ?_
    refine .w rfl (D.box 2 rfl rfl) ?_
    refine .w rfl (D.alloc 1 rfl ZF27 rfl rfl) ?_
    refine .nil ?_
    refine EW.seq ?_
    refine EW.seq ?_
    refine EW.region ?_
    refine .p rfl (D.mv rfl) ?_
    refine .p rfl (D.mv (x := aS end_) rfl) ?_
    obtain ⟨r1, h_r1, hh0⟩ := bs_ hh0
    refine .c rfl (D.callG (eff := [(0, ⟨_, .box 41 [aS r1.2.s, aI r1.2.at_, aB r1.2.ok]⟩)]) (spec_l31Rd_take_ok h_r1 g) C25 rfl [(0, 0)] [] [0] (.cons (.c (.pt rfl rfl rfl rfl)) (.cons (.c .fz) .nil)) rfl rfl (.cons rfl (.box (.all rfl)) .nil) rfl rfl rfl (.same rfl rfl rfl (.box (.all rfl)) .nil) .nil (.v (.c .fz))) ?_
    refine .nil ?_
    rcases it hh0 with ⟨hb, hh0⟩ | ⟨hb, hh0⟩
    · refine EW.condT rfl rfl hb ?_
      refine EW.seq ?_
      refine EW.region ?_
      refine .p rfl (D.ldN T27 rfl rfl rfl rfl) ?_
      refine .st rfl (D.st T27 rfl rfl rfl rfl rfl rfl) ?_
      refine .nil ?_
      obtain rfl := sj_ hh0
      exact EW.retA [0, 1] (fun _ h => ⟨.inr rfl, h⟩) hf ⟨.c (.pt rfl rfl rfl), trivial⟩ ⟨rfl, .box (.all rfl), rfl, .box (.cons .fz (.cons .fz (.cons .fz (.cons .nil (.cons .nil .nil))))), rfl⟩
    · refine EW.condF rfl rfl hb ?_
      refine EW.skip ?_
      refine EW.seq ?_
      obtain ⟨o_1, hl, hh0⟩ := bs_ hh0
      refine EW.bj (fun σ' => ∃ v, o_1 = .inl v ∧ At g [0] (fun f => [(0, .pt 0 (f 0) 0), (5, .pt 2 (f 2) 0), (8, .pt 1 (f 1) 0)]) (fun f => [(0, .box 41 [aS v.1, aI v.2.1, aB v.2.2.1]), (1, .box 27 [aI 0, aB false, aS [], nilA, nilA]), (2, .box 27 [aI j.Kind, aB j.Flag, aS j.Text, .ow 3 (f 3), .ow 4 (f 4)]), (3, oR 9 1 eS v.2.2.2.1), (4, oR 27 5 Json.c v.2.2.2.2)]) σ') (EW.block (EW.loop (EWL.pr (.b 2 3 3 9 1 rfl rfl rfl rfl rfl) (EWL.pr (.b 2 4 4 27 5 rfl rfl rfl rfl rfl) (EWL.less [0, 1, 2, 3, 4] (ih_spec_l31Rd_kids_l0 _ _ _ _ _ _ _ _ _ hl g C _ (fun _ e _ h => ⟨_, e, h⟩) ?_) hf ⟨.c (.pt rfl rfl rfl), .c .fz, .c .fz, .c (.pt rfl rfl rfl), .c (.pt rfl rfl rfl), trivial⟩ ⟨rfl, .box (.all rfl), rfl, .box (.all rfl), rfl, .box (.cons .fz (.cons .fz (.cons .fz (.cons (.ow rfl rfl rfl) (.cons (.ow rfl rfl rfl) .nil))))), rfl, .row, rfl, .row, rfl⟩))))) ?_
      · rintro r7 rfl σ' h
        obtain rfl := sj_ hh0
        exact ⟨.inr rfl, h⟩
      rintro _ ⟨v, rfl, f, hf, rfl⟩
      refine EW.seq ?_
      refine EW.region ?_
      refine .p rfl (D.mv rfl) ?_
      refine .p rfl (D.nck rfl rfl) ?_
      refine .p rfl (D.fld O41_2 rfl rfl rfl) ?_
      refine .st rfl (D.st T4 rfl rfl rfl rfl rfl rfl) ?_
      refine .nil ?_
      refine EW.seq ?_
      refine EW.region ?_
      refine .p rfl (D.ldN T27 rfl rfl rfl rfl) ?_
      refine .st rfl (D.st T27 rfl rfl rfl rfl rfl rfl) ?_
      refine .nil ?_
      obtain rfl := sj_ hh0
      exact EW.retA [0, 1] (fun _ h => ⟨.inr rfl, h⟩) hf ⟨.c (.pt rfl rfl rfl), trivial⟩ ⟨rfl, .box (.all rfl), rfl, .box (.cons .fz (.cons .fz (.cons .fz (.cons (.row rfl rfl) (.cons (.row rfl rfl) .nil))))), rfl⟩
  · intro sf_spec_l31Rd_value sf_spec_l31Rd_kids_l0 ih_spec_l31Rd_value ih_spec_l31Rd_kids_l0 j end_ deep s at_ ok out out1 o hh0
    intro g C Q hx hr σ hσ
    obtain ⟨f, hf, rfl⟩ := hσ
    refine EWL.round ?_
    refine EW.seq ?_
    refine EW.seq ?_
    refine EW.region ?_
    refine .p rfl (D.mv rfl) ?_
    refine .p rfl (D.nck rfl rfl) ?_
    refine .p rfl (D.fld O41_2 rfl rfl rfl) ?_
    refine .p rfl (D.ld1 T4 rfl rfl rfl) ?_
    refine .p rfl (D.mv (x := aB ok) rfl) ?_
    refine .fork2 [21, 20, 19, 18] 22 (aB (ok && (decide ((out1.length : Int) < 40)))) 5 ok (fun hb4 K k4 => ?_) (fun hb4 K k4 => ?_) ?_
    ·
      refine .gy rfl rfl rfl hb4 rfl (D.fld O27_4 rfl rfl rfl) ?_
      refine .gy rfl rfl rfl hb4 rfl (D.ld1 T25 rfl rfl rfl) ?_
      refine .gy rfl rfl rfl hb4 rfl (D.lenO E25 rfl rfl) ?_
      refine .gy rfl rfl rfl hb4 rfl (D.lt rfl rfl) ?_
      refine .p rfl (D.andT rfl hb4 rfl) ?_
      exact .drp (.same (.drop (.drop (.drop (.drop .nil))))) k4
    ·
      refine .gn rfl rfl rfl (nT hb4) ?_
      refine .gn rfl rfl rfl (nT hb4) ?_
      refine .gn rfl rfl rfl (nT hb4) ?_
      refine .gn rfl rfl rfl (nT hb4) ?_
      refine .p rfl (D.andF (c := (decide ((out1.length : Int) < 40))) rfl hb4 rfl) ?_
      exact .drp (.same (.drop (.drop (.drop (.drop .nil))))) k4
    refine .nil ?_
    rcases it hh0 with ⟨hb, hh0⟩ | ⟨hb, hh0⟩
    · refine EW.condT rfl rfl hb ?_
      refine EW.skip ?_
      refine EW.block ?_
      refine EW.seq ?_
      refine EW.seq ?_
      refine EW.region ?_
      refine .p rfl (D.fld O27_0 rfl rfl rfl) ?_
      refine .p rfl (D.ld1 T3 rfl rfl rfl) ?_
      refine .p rfl (D.eqI rfl rfl) ?_
      refine .nil ?_
      obtain ⟨o_, hh1, hh0⟩ := bs_ hh0
      refine EW.bj (At g [0] (fun f => [(0, .pt 0 (f 0) 0), (2, aS end_), (3, aI deep), (5, .pt 2 (f 2) 0), (8, .pt 1 (f 1) 0)]) (fun f => [(0, .box 41 [aS o_.1, aI o_.2.1, aB o_.2.2.1]), (1, .box 27 [aI 0, aB false, aS [], nilA, nilA]), (2, .box 27 [aI j.Kind, aB j.Flag, aS j.Text, .ow 3 (f 3), .ow 4 (f 4)]), (3, oR 9 1 eS o_.2.2.2), (4, oR 27 5 Json.c out1)])) ?_ ?_
      · rcases it hh1 with ⟨hb, hh1⟩ | ⟨hb, hh1⟩
        · refine EW.condT rfl rfl hb ?_
          refine EW.seq ?_
          refine EW.drawU MX ?_
          refine .p rfl (D.fld O27_3 rfl rfl rfl) ?_
          refine .p rfl (D.ld1 T24 rfl rfl rfl) ?_
          refine .p rfl (D.mv rfl) ?_
          obtain ⟨r2, h_r2, hh1⟩ := bs_ hh1
          refine .c rfl (D.callG (eff := [(0, ⟨_, .box 41 [aS r2.2.s, aI r2.2.at_, aB r2.2.ok]⟩)]) (spec_l31Rd_quote_ok h_r2 g) C26 rfl [(0, 0)] [] [0] (.cons (.c (.pt rfl rfl rfl rfl)) .nil) rfl rfl (.cons rfl (.box (.all rfl)) .nil) rfl rfl rfl (.same rfl rfl rfl (.box (.all rfl)) .nil) .nil (.v (.c .fz))) ?_
          refine .p rfl (D.litZ (l := ([r2.1] : List Str)) (enc := eS) Tryd.underlying24 ZB9 rfl rfl rfl (fun _ => rfl) (.cons (.one .fz) .nil)) ?_
          obtain ⟨out5, h_out5, hh1⟩ := bs_ hh1
          refine .w rfl (D.app (enc := eS) (ks := []) Tryd.underlying24 Z9 rfl rfl (.fz) h_out5) ?_
          refine .p rfl (D.fld O27_3 rfl rfl rfl) ?_
          refine .st rfl (D.st T24 rfl rfl rfl rfl rfl rfl) ?_
          refine .nil (M := [0, 1, 0, 4, 12, 31, 63, 127]) (by kernel_rfl) (Up.of ?_)
          refine EW.region ?_
          refine .p rfl (D.mv rfl) ?_
          refine .p rfl (D.mv rfl) ?_
          obtain ⟨r3, h_r3, hh1⟩ := bs_ hh1
          refine .c rfl (D.callG (eff := [(0, ⟨_, .box 41 [aS r3.2.s, aI r3.2.at_, aB r3.2.ok]⟩)]) (spec_l31Rd_take_ok h_r3 g) C25 rfl [(0, 0)] [] [0] (.cons (.c (.pt rfl rfl rfl rfl)) (.cons (.c .fz) .nil)) rfl rfl (.cons rfl (.box (.all rfl)) .nil) rfl rfl rfl (.same rfl rfl rfl (.box (.all rfl)) .nil) .nil (.v (.c .fz))) ?_
          refine .p rfl (D.nck rfl rfl) ?_
          refine .p rfl (D.fld O41_2 rfl rfl rfl) ?_
          refine .st rfl (D.st T4 rfl rfl rfl rfl rfl rfl) ?_
          obtain rfl := sj_ hh1
          exact .nilA [0, 1, 2, 3, 4] (fun _ h => h) hf ⟨.c (.pt rfl rfl rfl), .c .fz, .c .fz, .c (.pt rfl rfl rfl), .c (.pt rfl rfl rfl), trivial⟩ ⟨rfl, .box (.all rfl), rfl, .box (.all rfl), rfl, .box (.cons .fz (.cons .fz (.cons .fz (.cons (.ow rfl rfl rfl) (.cons (.ow rfl rfl rfl) .nil))))), rfl, .row, rfl, .row, rfl⟩
        · refine EW.condF rfl rfl hb ?_
          obtain rfl := sj_ hh1
          exact EW.skipA [0, 1, 2, 3, 4] (fun _ h => h) hf ⟨.c (.pt rfl rfl rfl), .c .fz, .c .fz, .c (.pt rfl rfl rfl), .c (.pt rfl rfl rfl), trivial⟩ ⟨rfl, .box (.all rfl), rfl, .box (.all rfl), rfl, .box (.cons .fz (.cons .fz (.cons .fz (.cons (.ow rfl rfl rfl) (.cons (.ow rfl rfl rfl) .nil))))), rfl, .row, rfl, .row, rfl⟩
      · rintro _ ⟨f, hf, rfl⟩
        refine EW.seq ?_
        refine EW.drawU MX ?_
        refine .p rfl (D.fld O27_4 rfl rfl rfl) ?_
        refine .p rfl (D.ld1 T25 rfl rfl rfl) ?_
        refine .p rfl (D.mv rfl) ?_
        refine .p rfl (D.mv (x := aI deep) rfl) ?_
        refine .p rfl (D.sub rfl rfl) ?_
        obtain ⟨r4, h_r4, hh0⟩ := bs_ hh0
        refine .c rfl (D.callG (eff := [(0, ⟨_, .box 41 [aS r4.2.s, aI r4.2.at_, aB r4.2.ok]⟩)]) (ih_spec_l31Rd_value _ _ _ h_r4 g) C15 rfl [(0, 0)] [] [0] (.cons (.c (.pt rfl rfl rfl rfl)) (.cons (.c .fz) .nil)) rfl rfl (.cons rfl (.box (.all rfl)) .nil) rfl rfl rfl (.same rfl rfl rfl (.box (.all rfl)) .nil) .nil (.v (.ag (.all rfl)))) ?_
        refine .p rfl (D.litZ (l := ([r4.1] : List Json)) (enc := Json.c) Tryd.underlying25 ZB27 rfl rfl rfl (Json.c_len) (.cons (.agE (Json.c_eq _) (.ofE rfl)) .nil)) ?_
        obtain ⟨out6, h_out6, hh0⟩ := bs_ hh0
        refine .w rfl (D.app (enc := Json.c) (ks := []) Tryd.underlying25 Z27 rfl rfl (.fz) h_out6) ?_
        refine .p rfl (D.fld O27_4 rfl rfl rfl) ?_
        refine .st rfl (D.st T25 rfl rfl rfl rfl rfl rfl) ?_
        refine .nil (M := [0, 1, 0, 0, 8, 28, 60, 127, 255, 511]) (by kernel_rfl) (Up.of ?_)
        refine EW.seq ?_
        refine EW.seq ?_
        refine EW.region ?_
        refine .p rfl (D.mv rfl) ?_
        refine .p rfl (D.mv (x := aS end_) rfl) ?_
        obtain ⟨r5, h_r5, hh0⟩ := bs_ hh0
        refine .c rfl (D.callG (eff := [(0, ⟨_, .box 41 [aS r5.2.s, aI r5.2.at_, aB r5.2.ok]⟩)]) (spec_l31Rd_take_ok h_r5 g) C25 rfl [(0, 0)] [] [0] (.cons (.c (.pt rfl rfl rfl rfl)) (.cons (.c .fz) .nil)) rfl rfl (.cons rfl (.box (.all rfl)) .nil) rfl rfl rfl (.same rfl rfl rfl (.box (.all rfl)) .nil) .nil (.v (.c .fz))) ?_
        refine .nil ?_
        rcases it hh0 with ⟨hb, hh0⟩ | ⟨hb, hh0⟩
        · refine EW.condT rfl rfl hb ?_
          refine EW.seq ?_
          refine EW.region ?_
          refine .p rfl (D.ldN T27 rfl rfl rfl rfl) ?_
          refine .st rfl (D.st T27 rfl rfl rfl rfl rfl rfl) ?_
          refine .nil ?_
          obtain rfl := sj_ hh0
          exact EW.retA [0, 1] (fun _ h => hr _ rfl _ h) hf ⟨.c (.pt rfl rfl rfl), trivial⟩ ⟨rfl, .box (.all rfl), rfl, .box (.cons .fz (.cons .fz (.cons .fz (.cons (.row rfl rfl) (.cons (.row rfl rfl) .nil))))), rfl⟩
        · refine EW.condF rfl rfl hb ?_
          refine EW.skip ?_
          refine EW.region ?_
          refine .p rfl (D.mv rfl) ?_
          refine .p rfl (D.mv rfl) ?_
          obtain ⟨r6, h_r6, hh0⟩ := bs_ hh0
          refine .c rfl (D.callG (eff := [(0, ⟨_, .box 41 [aS r6.2.s, aI r6.2.at_, aB r6.2.ok]⟩)]) (spec_l31Rd_take_ok h_r6 g) C25 rfl [(0, 0)] [] [0] (.cons (.c (.pt rfl rfl rfl rfl)) (.cons (.c .fz) .nil)) rfl rfl (.cons rfl (.box (.all rfl)) .nil) rfl rfl rfl (.same rfl rfl rfl (.box (.all rfl)) .nil) .nil (.v (.c .fz))) ?_
          refine .p rfl (D.nck rfl rfl) ?_
          refine .p rfl (D.fld O41_2 rfl rfl rfl) ?_
          refine .st rfl (D.st T4 rfl rfl rfl rfl rfl rfl) ?_
          refine .nil ?_
          exact EWL.less [0, 1, 2, 3, 4] (ih_spec_l31Rd_kids_l0 _ _ _ _ _ _ _ _ _ hh0 _ _ _ hx hr) hf ⟨.c (.pt rfl rfl rfl), .c .fz, .c .fz, .c (.pt rfl rfl rfl), .c (.pt rfl rfl rfl), trivial⟩ ⟨rfl, .box (.all rfl), rfl, .box (.all rfl), rfl, .box (.cons .fz (.cons .fz (.cons .fz (.cons (.ow rfl rfl rfl) (.cons (.ow rfl rfl rfl) .nil))))), rfl, .row, rfl, .row, rfl⟩
    · refine EW.condF rfl rfl hb ?_
      obtain rfl := sj_ hh0
      exact EW.exitA [0, 1, 2, 3, 4] (fun _ h => hx _ rfl _ h) hf ⟨.c (.pt rfl rfl rfl), .c (.pt rfl rfl rfl), .c (.pt rfl rfl rfl), trivial⟩ ⟨rfl, .box (.all rfl), rfl, .box (.all rfl), rfl, .box (.cons .fz (.cons .fz (.cons .fz (.cons (.ow rfl rfl rfl) (.cons (.ow rfl rfl rfl) .nil))))), rfl, .row, rfl, .row, rfl⟩

end Fw
