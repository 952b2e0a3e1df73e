/- Each function does what its plain words tell. -/
import Derived.Test.YtopmcncaanjboaaWLb
namespace Go.Proofs.Ytopmcncaanjboaa
open Go Go.Sy Go.RowKit
set_option linter.unusedVariables false
open Go.Mir
theorem m_domain_narrow_sp {F : PH} {g : Nat} {a0 : List (List Int)} {a1 : List DLimit} {pA0 : Option Addr} {pc0 : Nat} {pA1 : Option Addr} {pc1 : Nat} (ph0 : Fsl 24 (Kind.sl 8 (Kind.int .i64)) F pA0 pc0 a0) (ph1 : Fsl 88 KDLimit F pA1 pc1 a1) {r : List (List Int) × Bool} (hm : m_domain_narrow g a0 a1 = some r) :
    CallSp Try.prog 28 #[.slice pA0 a0.length pc0, .slice pA1 a1.length pc1] F [] (fun u F' H' => ∃ (B0 : Option Addr) (d0 : Nat), u = (.tuple #[.slice B0 r.1.length d0, .bool r.2]) ∧ Fsl 24 (Kind.sl 8 (Kind.int .i64)) F' B0 d0 r.1 ∧ H' = []) := by
  unfold m_domain_narrow at hm
  refine CallSp.enter (args := [.slice pA0 a0.length pc0, .slice pA1 a1.length pc1]) Try.func28 rfl rfl ?_
  intro w0 m0 hm0
  refine St.seq ?_
  refine St.region ?_
  refine St.val (v := (.slice none 0 0)) (Yields.assign rfl) trivial rfl rfl ?_
  refine St.val (v := (.bool false)) (Yields.assign rfl) trivial rfl rfl ?_
  refine St.nil ?_
  refine St.norm ?_
  refine St.seq ?_
  refine St.region ?_
  refine St.val (v := (.slice pA0 a0.length pc0)) (Yields.move rfl) trivial rfl rfl ?_
  refine St.val (v := (.int .i64 ((a0.length : Nat) : Int))) (Yields.lenSlice tu22 rfl) trivial rfl rfl ?_
  obtain ⟨x3, e4, hm⟩ := bS hm
  refine St.makeK (D := (Kind.sl 8 (Kind.int .i64))) e4 ts22 tz26 rfl rfl ⟨_, _, rfl, Fsl.nil⟩ rfl rfl rfl trivial ?_
  intro g5 c6 cells7 h8 b9
  refine St.val (v := (.slice (some ⟨g5, 0, none⟩) x3.length c6)) (Yields.assign rfl) trivial rfl rfl ?_
  refine St.nil ?_
  refine St.norm ?_
  obtain ⟨o20, hm, ho21⟩ := jS hm
  refine St.cutI (fun a w => ∃ z11 : List (List Int), o20 = .inl z11 ∧ ∃ (A15 : Option Addr) (c16 : Nat) (cells18 : List Value) (F12 : PH), PH.le F F12 ∧ Cat (Kind.sl 8 (Kind.int .i64)) F12 cells18 z11 ∧ Bnd 24 z11 ∧ Has Try.f28.ntmps a [(1, .slice pA1 a1.length pc1), (6, .slice A15 z11.length c16)] ∧ Sat ⟨w0, fun b => m0 b ≠ none, F⟩ F12 [rowo A15 z11.length c16 26 1 cells18] w) ?_ ?_
  · skip
    refine St.seq ?_
    refine St.region ?_
    refine St.val (v := (.slice pA0 a0.length pc0)) (Yields.move rfl) trivial rfl rfl ?_
    refine St.val (v := (.int .i64 ((a0.length : Nat) : Int))) (Yields.lenSlice tu22 rfl) trivial rfl rfl ?_
    refine St.val (v := (.int .i64 0)) (Yields.move rfl) trivial rfl rfl ?_
    refine St.nil ?_
    refine St.norm ?_
    refine St.block ?_
    refine St.loopM hm (fun s31 a w => ∃ (A36 : Option Addr) (c37 : Nat) (cells39 : List Value) (F41 : PH), PH.le F F41 ∧ Cat (Kind.sl 8 (Kind.int .i64)) F41 cells39 s31.1 ∧ Bnd 24 s31.1 ∧ Has Try.f28.ntmps a [(1, .slice pA1 a1.length pc1), (6, .slice A36 s31.1.length c37), (21, .slice pA0 a0.length pc0), (22, .int .i64 ((a0.length : Nat) : Int)), (23, .int .i64 ((s31.2 : Nat) : Int))] ∧ Sat ⟨w0, fun b => m0 b ≠ none, F⟩ F41 [rowo A36 s31.1.length c37 26 1 cells39] w) ?_ ?_
    · skip
      intro a w ha hs
      exact ⟨(some ⟨g5, 0, none⟩), c6, cells7, F, (PH.le_refl _), h8, b9, ha.covers ⟨rfl, rfl, rfl, rfl, rfl, trivial⟩, (Among.of (Among.take 0 rfl rfl Among.none) _ hs)⟩
    · rintro s31 o32 co33 hm ho34 a w ⟨A36, c37, cells39, F41, l42, h38, b40, ha, hs⟩
      refine St.use (?_ : St _ _ _ _ _ _) ha hs
      clear ha hs a w
      refine St.seq ?_
      refine St.region ?_
      refine St.val (v := (.bool (decide (((s31.2 : Nat) : Int) < ((a0.length : Nat) : Int))))) (Yields.lt rfl rfl) trivial rfl rfl ?_
      refine St.nil ?_
      refine St.norm ?_
      refine St.seq ?_
      refine St.cond_b rfl ?_ ?_
      · intro q43
        replace q43 : ((s31.2 : Nat) : Int) < ((a0.length : Nat) : Int) := of_decide_eq_true q43
        replace hm := iT hm q43
        refine St.skip ?_
        refine St.norm ?_
        refine St.seq ?_
        refine St.block ?_
        refine St.seq ?_
        refine St.region ?_
        refine St.val (v := (.int .i64 ((s31.2 : Nat) : Int))) (Yields.move rfl) trivial rfl rfl ?_
        obtain ⟨x44, e45, hm⟩ := bS hm
        obtain ⟨p46, cs47, jx48, R49, k50⟩ := (Fsl.mono l42 ph0).nidx e45
        obtain ⟨A51, c52, rfl, h53⟩ := R49
        refine St.val (v := (.pointer (some p46))) (Yields.idx jx48 ts22 rfl rfl) trivial rfl rfl ?_
        refine St.val (v := (.slice A51 x44.length c52)) (Yields.load rfl (Loads.Fat k50 tc26 rfl)) trivial rfl rfl ?_
        refine St.val (v := (.int .i64 ((s31.2 : Nat) : Int))) (Yields.assign rfl) trivial rfl rfl ?_
        refine St.val (v := (.slice A51 x44.length c52)) (Yields.assign rfl) trivial rfl rfl ?_
        refine St.nil ?_
        refine St.norm ?_
        refine St.seq ?_
        refine St.region ?_
        refine St.val (v := (.slice A36 s31.1.length c37)) (Yields.move rfl) trivial rfl rfl ?_
        refine St.val (v := (.int .i64 ((s31.2 : Nat) : Int))) (Yields.move rfl) trivial rfl rfl ?_
        refine St.val (v := (.slice A51 x44.length c52)) (Yields.move rfl) trivial rfl rfl ?_
        refine St.rowo_new 3 1 ?_
        obtain ⟨x60, e61, hm⟩ := bS hm
        refine St.pushS (R := [rowo A36 s31.1.length c37 26 1 cells39]) e61 ts26 rfl rfl rfl rfl 0 rfl rfl (show Cat (Kind.int .i64) _ [] [] from rfl) h53 rfl trivial ?_
        intro A56 c57 cells58 h59
        obtain ⟨x63, e64, hm⟩ := bS hm
        obtain ⟨jx65, jx66, cs67, R68, k69⟩ := h38.nidx e64
        obtain ⟨A70, c71, rfl, h72⟩ := R68
        refine St.rowo_at 1 rfl (by omega) ?_
        intro hA74
        refine St.val (v := (.pointer (some ⟨bk A36, bo A36 + (s31.2 : Int).toNat * 1, none⟩))) (Yields.idx (IdxAt.own hA74 jx65 jx66) ts22 rfl rfl) trivial rfl rfl ?_
        refine St.frz 0 rfl rfl rfl h59 (Bnd.of_push e61) ?_
        intro F75 l76 h77
        obtain ⟨x80, e81, hm⟩ := bS hm
        refine St.putK1 (R := []) e81 (Cat.mono l76 h38) (show ((Kind.sl 8 (Kind.int .i64))).R _ [.slice A56 x60.length c57] x60 from ⟨_, _, rfl, h77⟩) rfl rfl rfl 0 rfl rfl tc26 rfl trivial ?_
        intro cells79 h78
        try rw [upd_len e81]
        refine St.nil ?_
        refine St.norm ?_
        refine St.seq ?_
        refine St.region ?_
        refine St.val (v := (.slice A51 x44.length c52)) (Yields.move rfl) trivial rfl rfl ?_
        refine St.val (v := (.int .i64 ((x44.length : Nat) : Int))) (Yields.lenSlice tu26 rfl) trivial rfl rfl ?_
        refine St.val (v := (.bool (decide (((x44.length : Nat) : Int) = 0)))) (Yields.eq rfl rfl) trivial rfl rfl ?_
        refine St.nil ?_
        refine St.norm ?_
        refine St.cond_b rfl ?_ ?_
        · intro q82
          replace q82 : ((x44.length : Nat) : Int) = 0 := of_decide_eq_true q82
          replace hm := iT hm q82
          refine St.seq ?_
          refine St.region ?_
          refine St.val (v := (.slice none 0 0)) (Yields.assign rfl) trivial rfl rfl ?_
          refine St.val (v := (.bool false)) (Yields.assign rfl) trivial rfl rfl ?_
          refine St.nil ?_
          refine St.norm ?_
          refine St.ret ?_
          refine St.inret ?_
          refine St.thenret ?_
          refine St.thenret ?_
          refine St.inret ?_
          refine St.thenret ?_
          obtain rfl := sI hm
          obtain rfl := aR ho34
          obtain rfl := aR ho21
          exact St.doneR2 rfl rfl rfl ⟨none, 0, rfl, Fsl.nil, rfl⟩ (fun w hs => Among.of Among.none w hs)
        · intro q83
          replace q83 : ¬ (((x44.length : Nat) : Int) = 0) := of_decide_eq_false q83
          replace hm := iF hm q83
          refine St.skip ?_
          refine St.innorm ?_
          refine St.norm ?_
          refine St.region ?_
          refine St.val (v := (.int .i64 ((s31.2 + 1 : Nat) : Int))) (Yields.addn (j := 1) rfl rfl rfl (by have q_0 := q43; have q_1 := ph0.bnd.2; omega)) trivial rfl rfl ?_
          refine St.val (v := (.int .i64 ((s31.2 + 1 : Nat) : Int))) (Yields.move rfl) trivial rfl rfl ?_
          refine St.nil ?_
          refine St.norm ?_
          obtain rfl := sI hm
          intro a w ha hs
          exact ⟨(x80, s31.2 + 1), aL ho34, A36, c37, cells79, F75, (PH.le_trans l42 l76), h78, (Bnd.of_upd b40 e81), ha.covers ⟨rfl, rfl, rfl, rfl, rfl, trivial⟩, (Among.of (Among.take 0 rfl rfl Among.none) _ hs)⟩
      · intro q84
        replace q84 : ¬ (((s31.2 : Nat) : Int) < ((a0.length : Nat) : Int)) := of_decide_eq_false q84
        replace hm := iF hm q84
        refine St.exit ?_
        refine St.thenexit ?_
        refine St.thenexit ?_
        refine St.inexit ?_
        obtain rfl := sI hm
        obtain rfl := aR ho34
        intro a w ha hs
        exact ⟨s31.1, rfl, A36, c37, cells39, F41, l42, h38, b40, ha.covers ⟨rfl, rfl, trivial⟩, (Among.of (Among.take 0 rfl rfl Among.none) _ hs)⟩
  · rintro a w ⟨z11, rfl, A15, c16, cells18, F12, l13, h17, b19, ha, hs⟩
    replace hm := aL ho21
    refine St.use (?_ : St _ _ _ _ _ _) ha hs
    clear ha hs a w
    obtain ⟨o94, hm, ho95⟩ := jS hm
    refine St.cutI (fun a w => ∃ z85 : List (List Int), o94 = .inl z85 ∧ ∃ (A89 : Option Addr) (c90 : Nat) (cells92 : List Value) (F86 : PH), PH.le F12 F86 ∧ Cat (Kind.sl 8 (Kind.int .i64)) F86 cells92 z85 ∧ Bnd 24 z85 ∧ Has Try.f28.ntmps a [(6, .slice A89 z85.length c90)] ∧ Sat ⟨w0, fun b => m0 b ≠ none, F⟩ F86 [rowo A89 z85.length c90 26 1 cells92] w) ?_ ?_
    · skip
      refine St.seq ?_
      refine St.region ?_
      refine St.val (v := (.bool true)) (Yields.assign rfl) trivial rfl rfl ?_
      refine St.nil ?_
      refine St.norm ?_
      refine St.block ?_
      refine St.loopM hm (fun s105 a w => ∃ (A110 : Option Addr) (c111 : Nat) (cells113 : List Value) (F115 : PH), PH.le F12 F115 ∧ Cat (Kind.sl 8 (Kind.int .i64)) F115 cells113 s105.1 ∧ Bnd 24 s105.1 ∧ Has Try.f28.ntmps a [(1, .slice pA1 a1.length pc1), (6, .slice A110 s105.1.length c111), (9, .bool s105.2)] ∧ Sat ⟨w0, fun b => m0 b ≠ none, F⟩ F115 [rowo A110 s105.1.length c111 26 1 cells113] w) ?_ ?_
      · skip
        intro a w ha hs
        exact ⟨A15, c16, cells18, F12, (PH.le_refl _), h17, b19, ha.covers ⟨rfl, rfl, rfl, trivial⟩, (Among.of (Among.take 0 rfl rfl Among.none) _ hs)⟩
      · rintro s105 o106 co107 hm ho108 a w ⟨A110, c111, cells113, F115, l116, h112, b114, ha, hs⟩
        refine St.use (?_ : St _ _ _ _ _ _) ha hs
        clear ha hs a w
        refine St.seq ?_
        refine St.seq ?_
        refine St.region ?_
        refine St.val (v := (.bool s105.2)) (Yields.move rfl) trivial rfl rfl ?_
        refine St.nil ?_
        refine St.norm ?_
        refine St.cond_b rfl ?_ ?_
        · intro q117
          replace q117 : s105.2 = true := q117
          replace hm := iT hm q117
          refine St.skip ?_
          refine St.norm ?_
          refine St.block ?_
          refine St.seq ?_
          refine St.region ?_
          refine St.val (v := (.bool false)) (Yields.assign rfl) trivial rfl rfl ?_
          refine St.nil ?_
          refine St.norm ?_
          refine St.seq ?_
          refine St.region ?_
          refine St.val (v := (.slice pA1 a1.length pc1)) (Yields.move rfl) trivial rfl rfl ?_
          refine St.val (v := (.int .i64 ((a1.length : Nat) : Int))) (Yields.lenSlice tu23 rfl) trivial rfl rfl ?_
          refine St.val (v := (.int .i64 0)) (Yields.move rfl) trivial rfl rfl ?_
          refine St.nil ?_
          refine St.norm ?_
          refine St.block ?_
          refine St.loopM hm (fun s128 a w => ∃ (A133 : Option Addr) (c134 : Nat) (cells136 : List Value) (F138 : PH), PH.le F115 F138 ∧ Cat (Kind.sl 8 (Kind.int .i64)) F138 cells136 s128.1 ∧ Bnd 24 s128.1 ∧ Has Try.f28.ntmps a [(1, .slice pA1 a1.length pc1), (6, .slice A133 s128.1.length c134), (9, .bool s128.2.1), (38, .slice pA1 a1.length pc1), (39, .int .i64 ((a1.length : Nat) : Int)), (40, .int .i64 ((s128.2.2 : Nat) : Int))] ∧ Sat ⟨w0, fun b => m0 b ≠ none, F⟩ F138 [rowo A133 s128.1.length c134 26 1 cells136] w) ?_ ?_
          · skip
            intro a w ha hs
            exact ⟨A110, c111, cells113, F115, (PH.le_refl _), h112, b114, ha.covers ⟨rfl, rfl, rfl, rfl, rfl, rfl, trivial⟩, (Among.of (Among.take 0 rfl rfl Among.none) _ hs)⟩
          · rintro s128 o129 co130 hm ho131 a w ⟨A133, c134, cells136, F138, l139, h135, b137, ha, hs⟩
            refine St.use (?_ : St _ _ _ _ _ _) ha hs
            clear ha hs a w
            refine St.seq ?_
            refine St.region ?_
            refine St.val (v := (.bool (decide (((s128.2.2 : Nat) : Int) < ((a1.length : Nat) : Int))))) (Yields.lt rfl rfl) trivial rfl rfl ?_
            refine St.nil ?_
            refine St.norm ?_
            refine St.seq ?_
            refine St.cond_b rfl ?_ ?_
            · intro q140
              replace q140 : ((s128.2.2 : Nat) : Int) < ((a1.length : Nat) : Int) := of_decide_eq_true q140
              replace hm := iT hm q140
              refine St.skip ?_
              refine St.norm ?_
              obtain ⟨o150, hm, ho151⟩ := jS hm
              refine St.cutI (fun a w => ∃ z141 : List (List Int) × Bool, o150 = .inl z141 ∧ ∃ (A145 : Option Addr) (c146 : Nat) (cells148 : List Value) (F142 : PH), PH.le F138 F142 ∧ Cat (Kind.sl 8 (Kind.int .i64)) F142 cells148 z141.1 ∧ Bnd 24 z141.1 ∧ Has Try.f28.ntmps a [(1, .slice pA1 a1.length pc1), (6, .slice A145 z141.1.length c146), (9, .bool z141.2), (38, .slice pA1 a1.length pc1), (39, .int .i64 ((a1.length : Nat) : Int)), (40, .int .i64 ((s128.2.2 : Nat) : Int))] ∧ Sat ⟨w0, fun b => m0 b ≠ none, F⟩ F142 [rowo A145 z141.1.length c146 26 1 cells148] w) ?_ ?_
              · skip
                refine St.block ?_
                refine St.seq ?_
                refine St.region ?_
                obtain ⟨x152, e153, hm⟩ := bS hm
                obtain ⟨p154, cs155, jx156, R157, k158⟩ := (Fsl.mono (PH.le_trans l13 (PH.le_trans l116 l139)) ph1).nidx e153
                obtain ⟨A159, c160, A162, c163, A165, c166, rfl, h161, h164, h167⟩ := DLimit.opn R157
                refine St.val (v := (.pointer (some p154))) (Yields.idx jx156 ts23 rfl rfl) trivial rfl rfl ?_
                refine St.val (v := (.agg #[.int .i64 x152.Kind, .slice A159 x152.Vars.length c160, .slice A162 x152.A.length c163, .int .i64 x152.B, .slice A165 x152.Rows.length c166])) (Yields.load rfl (Loads.Fatn0 k158 ta28)) trivial rfl rfl ?_
                refine St.alloc tz28 trivial rfl ?_
                intro b171
                refine St.storen (R := [rowo A133 s128.1.length c134 26 1 cells136]) rfl rfl 0 rfl rfl ta28 rfl rfl rfl trivial (cs' := #[.int .i64 x152.Kind, .slice A159 x152.Vars.length c160, .slice A162 x152.A.length c163, .int .i64 x152.B, .slice A165 x152.Rows.length c166]) rfl ?_
                refine St.nil ?_
                refine St.norm ?_
                refine St.seq ?_
                refine St.seq ?_
                refine St.region ?_
                refine St.val (v := (.pointer (some ⟨b171, 1, none⟩))) (Yields.fieldAddr (v := (.pointer (some ⟨b171, 1, none⟩))) rfl (fun _ => by kernel_rfl)) trivial rfl rfl ?_
                refine St.val (v := (.slice A159 x152.Vars.length c160)) (Yields.load rfl (Loads.H1 0 rfl tc26 rfl)) trivial rfl rfl ?_
                refine St.val (v := (.int .i64 ((x152.Vars.length : Nat) : Int))) (Yields.lenSlice tu26 rfl) trivial rfl rfl ?_
                refine St.val (v := (.bool (decide (((x152.Vars.length : Nat) : Int) = 0)))) (Yields.eq rfl rfl) trivial rfl rfl ?_
                refine St.nil ?_
                refine St.norm ?_
                refine St.cond_b rfl ?_ ?_
                · intro q172
                  replace q172 : ((x152.Vars.length : Nat) : Int) = 0 := of_decide_eq_true q172
                  replace hm := iT hm q172
                  obtain ⟨o176, hm, ho177⟩ := jS hm
                  refine St.cutI (fun a w => ∃ z173 : Unit, o176 = .inl z173 ∧ ∃ (F174 : PH), PH.le F138 F174 ∧ Has Try.f28.ntmps a [(1, .slice pA1 a1.length pc1), (6, .slice A133 s128.1.length c134), (9, .bool s128.2.1), (38, .slice pA1 a1.length pc1), (39, .int .i64 ((a1.length : Nat) : Int)), (40, .int .i64 ((s128.2.2 : Nat) : Int))] ∧ Sat ⟨w0, fun b => m0 b ≠ none, F⟩ F174 [rowo A133 s128.1.length c134 26 1 cells136] w) ?_ ?_
                  · skip
                    refine St.seq ?_
                    refine St.region ?_
                    refine St.val (v := (.agg #[.int .i64 x152.Kind, .slice A159 x152.Vars.length c160, .slice A162 x152.A.length c163, .int .i64 x152.B, .slice A165 x152.Rows.length c166])) (Yields.load rfl (Loads.Hk (vs := [.int .i64 x152.Kind, .slice A159 x152.Vars.length c160, .slice A162 x152.A.length c163, .int .i64 x152.B, .slice A165 x152.Rows.length c166]) 0 rfl ta28 rfl rfl)) trivial rfl rfl ?_
                    obtain ⟨q178, e179, hm⟩ := bS hm
                    refine St.call [blk b171 (.cells #[.int .i64 x152.Kind, .slice A159 x152.Vars.length c160, .slice A162 x152.A.length c163, .int .i64 x152.B, .slice A165 x152.Rows.length c166] 28 (0, 0)), rowo A133 s128.1.length c134 26 1 cells136] (m_domain_of_sp (a0 := x152) h161 h164 h167 e179) rfl (fun _ ha => ev1 ha rfl) rfl en34 rfl rfl trivial ?_
                    rintro v182 F180 _ ⟨_, rfl, h183, rfl⟩ l181
                    rcases ILimit.cases q178 with hx184 | ⟨y185, hx184⟩ | ⟨y186, hx184⟩ | ⟨y187, hx184⟩
                    · have h188 := h183
                      rw [hx184] at hm h188; rw [ILimit.on_nil] at hm
                      obtain rfl : v182 = .nilIface := h188
                      exact nomatch (show (none : Option _) = some _ from hm)
                    · have h188 := h183
                      rw [hx184] at hm h188; rw [ILimit.on_c78] at hm
                      obtain ⟨cs189, R190, rfl⟩ := Ival.agg h188
                      obtain rfl := DApart.opn R190
                      obtain ⟨q192, e193, hm⟩ := bS hm
                      refine St.invoke [blk b171 (.cells #[.int .i64 x152.Kind, .slice A159 x152.Vars.length c160, .slice A162 x152.A.length c163, .int .i64 x152.B, .slice A165 x152.Rows.length c166] 28 (0, 0)), rowo A133 s128.1.length c134 26 1 cells136] (m_domain_apart_holds_sp (a0 := (DApart.mk)) Fsl.nil e193) rfl (fun _ ha => ev1 ha rfl) rfl iv78_holds rfl rfl trivial ?_
                      rintro _ F194 _ ⟨rfl, rfl⟩ l195
                      refine St.val (v := (.bool (!q192))) (Yields.not rfl) trivial rfl rfl ?_
                      refine St.nil ?_
                      refine St.norm ?_
                      refine St.cond_b rfl ?_ ?_
                      · intro q196
                        replace q196 : ¬ (q192 = true) := nb_t q196
                        replace hm := iF hm q196
                        refine St.seq ?_
                        refine St.region ?_
                        refine St.val (v := (.slice none 0 0)) (Yields.assign rfl) trivial rfl rfl ?_
                        refine St.val (v := (.bool false)) (Yields.assign rfl) trivial rfl rfl ?_
                        refine St.nil ?_
                        refine St.norm ?_
                        refine St.ret ?_
                        refine St.thenret ?_
                        refine St.thenret ?_
                        refine St.inret ?_
                        refine St.thenret ?_
                        refine St.thenret ?_
                        refine St.inret ?_
                        refine St.inret ?_
                        refine St.thenret ?_
                        refine St.inret ?_
                        refine St.thenret ?_
                        obtain rfl := sI hm
                        obtain rfl := aR ho177
                        obtain rfl := aR ho151
                        obtain rfl := aR ho131
                        obtain rfl := aR ho108
                        obtain rfl := aR ho95
                        exact St.doneR2 rfl rfl rfl ⟨none, 0, rfl, Fsl.nil, rfl⟩ (fun w hs => Among.of Among.none w hs)
                      · intro q197
                        replace q197 : q192 = true := nb_f q197
                        replace hm := iT hm q197
                        refine St.skip ?_
                        obtain rfl := sI hm
                        intro a w ha hs
                        exact ⟨(), rfl, F194, (PH.le_trans l181 l195), ha.covers ⟨rfl, rfl, rfl, rfl, rfl, rfl, trivial⟩, (Among.of (Among.take 1 rfl rfl Among.none) _ hs)⟩
                    · have h188 := h183
                      rw [hx184] at hm h188; rw [ILimit.on_c80] at hm
                      obtain ⟨cs198, R199, rfl⟩ := Ival.agg h188
                      obtain ⟨A201, c202, rfl, h203⟩ := DTable.opn R199
                      obtain ⟨q205, e206, hm⟩ := bS hm
                      refine St.invoke [blk b171 (.cells #[.int .i64 x152.Kind, .slice A159 x152.Vars.length c160, .slice A162 x152.A.length c163, .int .i64 x152.B, .slice A165 x152.Rows.length c166] 28 (0, 0)), rowo A133 s128.1.length c134 26 1 cells136] (m_domain_table_holds_sp (a0 := y186) h203 Fsl.nil e206) rfl (fun _ ha => ev1 ha rfl) rfl iv80_holds rfl rfl trivial ?_
                      rintro _ F207 _ ⟨rfl, rfl⟩ l208
                      refine St.val (v := (.bool (!q205))) (Yields.not rfl) trivial rfl rfl ?_
                      refine St.nil ?_
                      refine St.norm ?_
                      refine St.cond_b rfl ?_ ?_
                      · intro q209
                        replace q209 : ¬ (q205 = true) := nb_t q209
                        replace hm := iF hm q209
                        refine St.seq ?_
                        refine St.region ?_
                        refine St.val (v := (.slice none 0 0)) (Yields.assign rfl) trivial rfl rfl ?_
                        refine St.val (v := (.bool false)) (Yields.assign rfl) trivial rfl rfl ?_
                        refine St.nil ?_
                        refine St.norm ?_
                        refine St.ret ?_
                        refine St.thenret ?_
                        refine St.thenret ?_
                        refine St.inret ?_
                        refine St.thenret ?_
                        refine St.thenret ?_
                        refine St.inret ?_
                        refine St.inret ?_
                        refine St.thenret ?_
                        refine St.inret ?_
                        refine St.thenret ?_
                        obtain rfl := sI hm
                        obtain rfl := aR ho177
                        obtain rfl := aR ho151
                        obtain rfl := aR ho131
                        obtain rfl := aR ho108
                        obtain rfl := aR ho95
                        exact St.doneR2 rfl rfl rfl ⟨none, 0, rfl, Fsl.nil, rfl⟩ (fun w hs => Among.of Among.none w hs)
                      · intro q210
                        replace q210 : q205 = true := nb_f q210
                        replace hm := iT hm q210
                        refine St.skip ?_
                        obtain rfl := sI hm
                        intro a w ha hs
                        exact ⟨(), rfl, F207, (PH.le_trans l181 l208), ha.covers ⟨rfl, rfl, rfl, rfl, rfl, rfl, trivial⟩, (Among.of (Among.take 1 rfl rfl Among.none) _ hs)⟩
                    · have h188 := h183
                      rw [hx184] at hm h188; rw [ILimit.on_c82] at hm
                      obtain ⟨cs211, R212, rfl⟩ := Ival.agg h188
                      obtain ⟨A214, c215, A217, c218, A220, c221, rfl, h216, h219, h222⟩ := DSum.opn R212
                      obtain ⟨q226, e227, hm⟩ := bS hm
                      refine St.invoke [blk b171 (.cells #[.int .i64 x152.Kind, .slice A159 x152.Vars.length c160, .slice A162 x152.A.length c163, .int .i64 x152.B, .slice A165 x152.Rows.length c166] 28 (0, 0)), rowo A133 s128.1.length c134 26 1 cells136] (m_domain_sum_holds_sp (a0 := y187) h216 h219 h222 Fsl.nil e227) rfl (fun _ ha => ev1 ha rfl) rfl iv82_holds rfl rfl trivial ?_
                      rintro _ F228 _ ⟨rfl, rfl⟩ l229
                      refine St.val (v := (.bool (!q226))) (Yields.not rfl) trivial rfl rfl ?_
                      refine St.nil ?_
                      refine St.norm ?_
                      refine St.cond_b rfl ?_ ?_
                      · intro q230
                        replace q230 : ¬ (q226 = true) := nb_t q230
                        replace hm := iF hm q230
                        refine St.seq ?_
                        refine St.region ?_
                        refine St.val (v := (.slice none 0 0)) (Yields.assign rfl) trivial rfl rfl ?_
                        refine St.val (v := (.bool false)) (Yields.assign rfl) trivial rfl rfl ?_
                        refine St.nil ?_
                        refine St.norm ?_
                        refine St.ret ?_
                        refine St.thenret ?_
                        refine St.thenret ?_
                        refine St.inret ?_
                        refine St.thenret ?_
                        refine St.thenret ?_
                        refine St.inret ?_
                        refine St.inret ?_
                        refine St.thenret ?_
                        refine St.inret ?_
                        refine St.thenret ?_
                        obtain rfl := sI hm
                        obtain rfl := aR ho177
                        obtain rfl := aR ho151
                        obtain rfl := aR ho131
                        obtain rfl := aR ho108
                        obtain rfl := aR ho95
                        exact St.doneR2 rfl rfl rfl ⟨none, 0, rfl, Fsl.nil, rfl⟩ (fun w hs => Among.of Among.none w hs)
                      · intro q231
                        replace q231 : q226 = true := nb_f q231
                        replace hm := iT hm q231
                        refine St.skip ?_
                        obtain rfl := sI hm
                        intro a w ha hs
                        exact ⟨(), rfl, F228, (PH.le_trans l181 l229), ha.covers ⟨rfl, rfl, rfl, rfl, rfl, rfl, trivial⟩, (Among.of (Among.take 1 rfl rfl Among.none) _ hs)⟩
                  · rintro a w ⟨z173, rfl, F174, l175, ha, hs⟩
                    replace hm := aL ho177
                    refine St.use (?_ : St _ _ _ _ _ _) ha hs
                    clear ha hs a w
                    refine St.exit ?_
                    refine St.thenexit ?_
                    refine St.inexit ?_
                    obtain rfl := sI hm
                    intro a w ha hs
                    exact ⟨(s128.1, s128.2.1), rfl, A133, c134, cells136, F174, l175, (Cat.mono l175 h135), b137, ha.covers ⟨rfl, rfl, rfl, rfl, rfl, rfl, trivial⟩, (Among.of (Among.take 0 rfl rfl Among.none) _ hs)⟩
                · intro q232
                  replace q232 : ¬ (((x152.Vars.length : Nat) : Int) = 0) := of_decide_eq_false q232
                  replace hm := iF hm q232
                  refine St.skip ?_
                  refine St.norm ?_
                  refine St.seq ?_
                  refine St.region ?_
                  refine St.val (v := (.slice A133 s128.1.length c134)) (Yields.move rfl) trivial rfl rfl ?_
                  refine St.val (v := (.agg #[.int .i64 x152.Kind, .slice A159 x152.Vars.length c160, .slice A162 x152.A.length c163, .int .i64 x152.B, .slice A165 x152.Rows.length c166])) (Yields.load rfl (Loads.Hk (vs := [.int .i64 x152.Kind, .slice A159 x152.Vars.length c160, .slice A162 x152.A.length c163, .int .i64 x152.B, .slice A165 x152.Rows.length c166]) 0 rfl ta28 rfl rfl)) trivial rfl rfl ?_
                  refine St.pick (R := [blk b171 (.cells #[.int .i64 x152.Kind, .slice A159 x152.Vars.length c160, .slice A162 x152.A.length c163, .int .i64 x152.B, .slice A165 x152.Rows.length c166] 28 (0, 0))]) 1 rfl rfl ?_
                  obtain ⟨q233, e234, hm⟩ := bS hm
                  refine St.call [blk b171 (.cells #[.int .i64 x152.Kind, .slice A159 x152.Vars.length c160, .slice A162 x152.A.length c163, .int .i64 x152.B, .slice A165 x152.Rows.length c166] 28 (0, 0))] (m_domain_support_sp (a1 := x152) h135 b137 h161 h164 h167 e234) rfl (fun _ ha => ev2 ha rfl rfl) rfl en52 rfl rfl trivial ?_
                  rintro _ F235 _ ⟨A237, c238, rfl, h239, rfl⟩ l236
                  refine St.val (v := (.int .i64 ((q233.length : Nat) : Int))) (Yields.lenSlice tu73 rfl) trivial rfl rfl ?_
                  refine St.val (v := (.int .i64 0)) (Yields.move rfl) trivial rfl rfl ?_
                  refine St.nil ?_
                  refine St.norm ?_
                  refine St.block ?_
                  refine St.loopM hm (fun s251 a w => ∃ (A256 : Option Addr) (c257 : Nat) (cells259 : List Value) (F261 : PH), PH.le F235 F261 ∧ Cat (Kind.sl 8 (Kind.int .i64)) F261 cells259 s251.1 ∧ Bnd 24 s251.1 ∧ Has Try.f28.ntmps a [(1, .slice pA1 a1.length pc1), (6, .slice A256 s251.1.length c257), (9, .bool s251.2.1), (11, .pointer (some ⟨b171, 0, none⟩)), (38, .slice pA1 a1.length pc1), (39, .int .i64 ((a1.length : Nat) : Int)), (40, .int .i64 ((s128.2.2 : Nat) : Int)), (54, .slice A237 q233.length c238), (55, .int .i64 ((q233.length : Nat) : Int)), (56, .int .i64 ((s251.2.2 : Nat) : Int))] ∧ Sat ⟨w0, fun b => m0 b ≠ none, F⟩ F261 [blk b171 (.cells #[.int .i64 x152.Kind, .slice A159 x152.Vars.length c160, .slice A162 x152.A.length c163, .int .i64 x152.B, .slice A165 x152.Rows.length c166] 28 (0, 0)), rowo A256 s251.1.length c257 26 1 cells259] w) ?_ ?_
                  · skip
                    intro a w ha hs
                    exact ⟨A133, c134, cells136, F235, (PH.le_refl _), (Cat.mono l236 h135), b137, ha.covers ⟨rfl, rfl, rfl, rfl, rfl, rfl, rfl, rfl, rfl, rfl, trivial⟩, (Among.of (Among.take 1 rfl rfl (Among.take 0 rfl rfl Among.none)) _ hs)⟩
                  · rintro s251 o252 co253 hm ho254 a w ⟨A256, c257, cells259, F261, l262, h258, b260, ha, hs⟩
                    refine St.use (?_ : St _ _ _ _ _ _) ha hs
                    clear ha hs a w
                    refine St.seq ?_
                    refine St.region ?_
                    refine St.val (v := (.bool (decide (((s251.2.2 : Nat) : Int) < ((q233.length : Nat) : Int))))) (Yields.lt rfl rfl) trivial rfl rfl ?_
                    refine St.nil ?_
                    refine St.norm ?_
                    refine St.seq ?_
                    refine St.cond_b rfl ?_ ?_
                    · intro q263
                      replace q263 : ((s251.2.2 : Nat) : Int) < ((q233.length : Nat) : Int) := of_decide_eq_true q263
                      replace hm := iT hm q263
                      refine St.skip ?_
                      refine St.norm ?_
                      refine St.seq ?_
                      refine St.block ?_
                      refine St.seq ?_
                      refine St.region ?_
                      refine St.val (v := (.int .i64 ((s251.2.2 : Nat) : Int))) (Yields.move rfl) trivial rfl rfl ?_
                      obtain ⟨x264, e265, hm⟩ := bS hm
                      obtain ⟨p266, cs267, jx268, R269, k270⟩ := (Fsl.mono l262 h239).nidx e265
                      obtain ⟨hl271, hC272⟩ := R269
                      refine St.val (v := (.pointer (some p266))) (Yields.idx jx268 ts73 rfl rfl) trivial rfl rfl ?_
                      refine St.val (v := (.agg cs267.toArray)) (Yields.load rfl (Loads.Fatm k270 (by have q_ := Cat.length hC272; have q_2 : (Kind.bool).sz = 1 := rfl; rw [q_2, hl271] at q_; omega) ta76)) trivial rfl rfl ?_
                      refine St.alloc tz76 trivial rfl ?_
                      intro b273
                      refine St.val (v := (.int .i64 ((s251.2.2 : Nat) : Int))) (Yields.assign rfl) trivial rfl rfl ?_
                      refine St.storeArr (R := [blk b171 (.cells #[.int .i64 x152.Kind, .slice A159 x152.Vars.length c160, .slice A162 x152.A.length c163, .int .i64 x152.B, .slice A165 x152.Rows.length c166] 28 (0, 0)), rowo A256 s251.1.length c257 26 1 cells259]) hC272 hl271 rfl rfl rfl 0 rfl rfl ta76 rfl rfl trivial ?_
                      refine St.nil ?_
                      refine St.norm ?_
                      refine St.seq ?_
                      refine St.region ?_
                      refine St.val (v := (.pointer (some ⟨b171, 1, none⟩))) (Yields.fieldAddr (v := (.pointer (some ⟨b171, 1, none⟩))) rfl (fun _ => by kernel_rfl)) trivial rfl rfl ?_
                      refine St.val (v := (.slice A159 x152.Vars.length c160)) (Yields.load rfl (Loads.H1 1 rfl tc26 rfl)) trivial rfl rfl ?_
                      refine St.val (v := (.int .i64 ((s251.2.2 : Nat) : Int))) (Yields.move rfl) trivial rfl rfl ?_
                      obtain ⟨x275, e276, hm⟩ := bS hm
                      obtain ⟨p277, cs278, jx279, R280, k281⟩ := (Fsl.mono (PH.le_trans l236 l262) h161).nidx e276
                      obtain rfl := R280
                      refine St.val (v := (.pointer (some p277))) (Yields.idx jx279 ts26 rfl rfl) trivial rfl rfl ?_
                      refine St.val (v := (.int .i64 x275)) (Yields.load rfl (Loads.Fat k281 tc3 rfl)) trivial rfl rfl ?_
                      refine St.val (v := (.int .i64 x275)) (Yields.assign rfl) trivial rfl rfl ?_
                      refine St.nil ?_
                      refine St.norm ?_
                      refine St.seq ?_
                      refine St.region ?_
                      refine St.val (v := (.slice none 0 0)) (Yields.assign rfl) trivial rfl rfl ?_
                      refine St.nil ?_
                      refine St.norm ?_
                      obtain ⟨z282, hm, hk289⟩ := bS hm
                      refine St.cutI (fun a w => ∃ (A284 : Option Addr) (c285 : Nat) (cells287 : List Value), Cat (Kind.int .i64) F261 cells287 z282 ∧ Bnd 8 z282 ∧ Has Try.f28.ntmps a [(1, .slice pA1 a1.length pc1), (6, .slice A256 s251.1.length c257), (9, .bool s251.2.1), (11, .pointer (some ⟨b171, 0, none⟩)), (14, .int .i64 x275), (15, .slice A284 z282.length c285), (38, .slice pA1 a1.length pc1), (39, .int .i64 ((a1.length : Nat) : Int)), (40, .int .i64 ((s128.2.2 : Nat) : Int)), (54, .slice A237 q233.length c238), (55, .int .i64 ((q233.length : Nat) : Int)), (56, .int .i64 ((s251.2.2 : Nat) : Int))] ∧ Sat ⟨w0, fun b => m0 b ≠ none, F⟩ F261 [blk b171 (.cells #[.int .i64 x152.Kind, .slice A159 x152.Vars.length c160, .slice A162 x152.A.length c163, .int .i64 x152.B, .slice A165 x152.Rows.length c166] 28 (0, 0)), rowo A256 s251.1.length c257 26 1 cells259, rowo A284 z282.length c285 3 1 cells287] w) ?_ ?_
                      · skip
                        refine St.seq ?_
                        refine St.region ?_
                        refine St.val (v := (.slice A256 s251.1.length c257)) (Yields.move rfl) trivial rfl rfl ?_
                        refine St.val (v := (.int .i64 x275)) (Yields.move rfl) trivial rfl rfl ?_
                        obtain ⟨x290, e291, hm⟩ := bS hm
                        obtain ⟨jx292, jx293, cs294, R295, k296⟩ := h258.idx e291
                        obtain ⟨A297, c298, rfl, h299⟩ := R295
                        refine St.rowo_at 2 rfl (by omega) ?_
                        intro hA301
                        refine St.val (v := (.pointer (some ⟨bk A256, bo A256 + x275.toNat * 1, none⟩))) (Yields.idx (IdxAt.own hA301 jx292 jx293) ts22 rfl rfl) trivial rfl rfl ?_
                        refine St.val (v := (.slice A297 x290.length c298)) (Yields.load rfl (Loads.rA1 2 rfl tc26 (k296 0 _ rfl))) trivial rfl rfl ?_
                        refine St.val (v := (.int .i64 ((x290.length : Nat) : Int))) (Yields.lenSlice tu26 rfl) trivial rfl rfl ?_
                        refine St.val (v := (.int .i64 0)) (Yields.move rfl) trivial rfl rfl ?_
                        refine St.nil ?_
                        refine St.norm ?_
                        refine St.block ?_
                        refine St.loopM hm (fun s310 a w => ∃ (A315 : Option Addr) (c316 : Nat) (cells318 : List Value), Cat (Kind.int .i64) F261 cells318 s310.1 ∧ Bnd 8 s310.1 ∧ Has Try.f28.ntmps a [(1, .slice pA1 a1.length pc1), (6, .slice A256 s251.1.length c257), (9, .bool s251.2.1), (11, .pointer (some ⟨b171, 0, none⟩)), (13, .pointer (some ⟨b273, 0, none⟩)), (14, .int .i64 x275), (15, .slice A315 s310.1.length c316), (38, .slice pA1 a1.length pc1), (39, .int .i64 ((a1.length : Nat) : Int)), (40, .int .i64 ((s128.2.2 : Nat) : Int)), (54, .slice A237 q233.length c238), (55, .int .i64 ((q233.length : Nat) : Int)), (56, .int .i64 ((s251.2.2 : Nat) : Int)), (69, .slice A297 x290.length c298), (70, .int .i64 ((x290.length : Nat) : Int)), (71, .int .i64 ((s310.2 : Nat) : Int))] ∧ Sat ⟨w0, fun b => m0 b ≠ none, F⟩ F261 [blk b171 (.cells #[.int .i64 x152.Kind, .slice A159 x152.Vars.length c160, .slice A162 x152.A.length c163, .int .i64 x152.B, .slice A165 x152.Rows.length c166] 28 (0, 0)), rowo A256 s251.1.length c257 26 1 cells259, rowo (some ⟨b273, 0, none⟩) x264.length 30 76 1 cs267, rowo A315 s310.1.length c316 3 1 cells318] w) ?_ ?_
                        · skip
                          refine St.rowo_new 3 1 ?_
                          intro a w ha hs
                          exact ⟨none, 0, [], (show Cat (Kind.int .i64) _ [] [] from rfl), Bnd.of_nil, ha.covers ⟨rfl, rfl, rfl, rfl, rfl, rfl, rfl, rfl, rfl, rfl, rfl, rfl, rfl, rfl, rfl, rfl, trivial⟩, (Among.of (Among.take 2 rfl rfl (Among.take 2 rfl rfl (Among.take 1 rfl rfl (Among.take 0 rfl rfl Among.none)))) _ hs)⟩
                        · rintro s310 o311 co312 hm ho313 a w ⟨A315, c316, cells318, h317, b319, ha, hs⟩
                          refine St.use (?_ : St _ _ _ _ _ _) ha hs
                          clear ha hs a w
                          refine St.seq ?_
                          refine St.region ?_
                          refine St.val (v := (.bool (decide (((s310.2 : Nat) : Int) < ((x290.length : Nat) : Int))))) (Yields.lt rfl rfl) trivial rfl rfl ?_
                          refine St.nil ?_
                          refine St.norm ?_
                          refine St.seq ?_
                          refine St.cond_b rfl ?_ ?_
                          · intro q321
                            replace q321 : ((s310.2 : Nat) : Int) < ((x290.length : Nat) : Int) := of_decide_eq_true q321
                            replace hm := iT hm q321
                            refine St.skip ?_
                            refine St.norm ?_
                            obtain ⟨z322, hm, hk329⟩ := bS hm
                            refine St.cutI (fun a w => ∃ (A324 : Option Addr) (c325 : Nat) (cells327 : List Value), Cat (Kind.int .i64) F261 cells327 z322 ∧ Bnd 8 z322 ∧ Has Try.f28.ntmps a [(1, .slice pA1 a1.length pc1), (6, .slice A256 s251.1.length c257), (9, .bool s251.2.1), (11, .pointer (some ⟨b171, 0, none⟩)), (13, .pointer (some ⟨b273, 0, none⟩)), (14, .int .i64 x275), (15, .slice A324 z322.length c325), (38, .slice pA1 a1.length pc1), (39, .int .i64 ((a1.length : Nat) : Int)), (40, .int .i64 ((s128.2.2 : Nat) : Int)), (54, .slice A237 q233.length c238), (55, .int .i64 ((q233.length : Nat) : Int)), (56, .int .i64 ((s251.2.2 : Nat) : Int)), (69, .slice A297 x290.length c298), (70, .int .i64 ((x290.length : Nat) : Int)), (71, .int .i64 ((s310.2 : Nat) : Int))] ∧ Sat ⟨w0, fun b => m0 b ≠ none, F⟩ F261 [blk b171 (.cells #[.int .i64 x152.Kind, .slice A159 x152.Vars.length c160, .slice A162 x152.A.length c163, .int .i64 x152.B, .slice A165 x152.Rows.length c166] 28 (0, 0)), rowo A256 s251.1.length c257 26 1 cells259, rowo (some ⟨b273, 0, none⟩) x264.length 30 76 1 cs267, rowo A324 z322.length c325 3 1 cells327] w) ?_ ?_
                            · skip
                              refine St.block ?_
                              refine St.seq ?_
                              refine St.region ?_
                              refine St.val (v := (.int .i64 ((s310.2 : Nat) : Int))) (Yields.move rfl) trivial rfl rfl ?_
                              obtain ⟨x330, e331, hm⟩ := bS hm
                              obtain ⟨p332, cs333, jx334, R335, k336⟩ := h299.nidx e331
                              obtain rfl := R335
                              refine St.val (v := (.pointer (some p332))) (Yields.idx jx334 ts26 rfl rfl) trivial rfl rfl ?_
                              refine St.val (v := (.int .i64 x330)) (Yields.load rfl (Loads.Fat k336 tc3 rfl)) trivial rfl rfl ?_
                              refine St.val (v := (.int .i64 ((s310.2 : Nat) : Int))) (Yields.assign rfl) trivial rfl rfl ?_
                              refine St.val (v := (.int .i64 x330)) (Yields.assign rfl) trivial rfl rfl ?_
                              refine St.nil ?_
                              refine St.norm ?_
                              refine St.seq ?_
                              refine St.region ?_
                              refine St.val (v := (.int .i64 ((s310.2 : Nat) : Int))) (Yields.move rfl) trivial rfl rfl ?_
                              obtain ⟨x337, e338, hm⟩ := bS hm
                              replace e338 := nlit e338
                              obtain ⟨jx339, jx340, cs341, R342, k343⟩ := Cat.idx hC272 e338
                              obtain rfl := R342
                              rw [hl271] at jx340
                              refine St.val (v := (.pointer (some ⟨bk (some ⟨b273, 0, none⟩), bo (some ⟨b273, 0, none⟩) + (s310.2 : Int).toNat * 1, none⟩))) (Yields.indexArr (p := ⟨bk (some ⟨b273, 0, none⟩), bo (some ⟨b273, 0, none⟩) + (s310.2 : Int).toNat * 1, none⟩) tr76 rfl rfl jx339 jx340 (add_off _ _ _)) trivial rfl rfl ?_
                              refine St.val (v := (.bool x337)) (Yields.load rfl (Loads.rA1 2 rfl tc4 (k343 0 _ rfl))) trivial rfl rfl ?_
                              refine St.nil ?_
                              refine St.norm ?_
                              refine St.cond_b rfl ?_ ?_
                              · intro q344
                                replace q344 : x337 = true := q344
                                replace hm := iT hm q344
                                refine St.region ?_
                                refine St.val (v := (.slice A315 s310.1.length c316)) (Yields.move rfl) trivial rfl rfl ?_
                                refine St.val (v := (.int .i64 x330)) (Yields.move rfl) trivial rfl rfl ?_
                                refine St.buildSlice (e := 3) (cells := #[.int .i64 x330]) (vs := #[(0, .int .i64 x330)]) (fun _ ha => evp1 ha rfl) (fun _ => by kernel_rfl) rfl trivial ?_
                                intro b345
                                obtain ⟨x350, e351, hm⟩ := bS hm
                                refine St.pushL (R := [blk b345 (.cells #[.int .i64 x330] 3 (0, 0)), blk b171 (.cells #[.int .i64 x152.Kind, .slice A159 x152.Vars.length c160, .slice A162 x152.A.length c163, .int .i64 x152.B, .slice A165 x152.Rows.length c166] 28 (0, 0)), rowo A256 s251.1.length c257 26 1 cells259, rowo (some ⟨b273, 0, none⟩) x264.length 30 76 1 cs267]) (R3 := [blk b171 (.cells #[.int .i64 x152.Kind, .slice A159 x152.Vars.length c160, .slice A162 x152.A.length c163, .int .i64 x152.B, .slice A165 x152.Rows.length c166] 28 (0, 0)), rowo A256 s251.1.length c257 26 1 cells259, rowo (some ⟨b273, 0, none⟩) x264.length 30 76 1 cs267]) e351 ts26 rfl rfl rfl rfl rfl 4 rfl rfl 0 rfl 0 rfl rfl h317 ⟨[.int .i64 x330], _, rfl, rfl, rfl⟩ rfl trivial ?_
                                intro A346 c347 cells348 h349
                                refine St.val (v := (.slice A346 x350.length c347)) (Yields.assign rfl) trivial rfl rfl ?_
                                refine St.nil ?_
                                refine St.innorm ?_
                                obtain rfl := sI hm
                                intro a w ha hs
                                exact ⟨A346, c347, cells348, h349, (Bnd.of_push e351), ha.covers ⟨rfl, rfl, rfl, rfl, rfl, rfl, rfl, rfl, rfl, rfl, rfl, rfl, rfl, rfl, rfl, rfl, trivial⟩, (Among.of (Among.take 1 rfl rfl (Among.take 1 rfl rfl (Among.take 1 rfl rfl (Among.take 0 rfl rfl Among.none)))) _ hs)⟩
                              · intro q353
                                replace q353 : ¬ (x337 = true) := bf q353
                                replace hm := iF hm q353
                                refine St.skip ?_
                                refine St.innorm ?_
                                obtain rfl := sI hm
                                intro a w ha hs
                                exact ⟨A315, c316, cells318, h317, b319, ha.covers ⟨rfl, rfl, rfl, rfl, rfl, rfl, rfl, rfl, rfl, rfl, rfl, rfl, rfl, rfl, rfl, rfl, trivial⟩, (Among.of (Among.take 0 rfl rfl (Among.take 0 rfl rfl (Among.take 0 rfl rfl (Among.take 0 rfl rfl Among.none)))) _ hs)⟩
                            · rintro a w ⟨A324, c325, cells327, h326, b328, ha, hs⟩
                              replace hm := hk329
                              refine St.use (?_ : St _ _ _ _ _ _) ha hs
                              clear ha hs a w
                              refine St.region ?_
                              refine St.val (v := (.int .i64 ((s310.2 + 1 : Nat) : Int))) (Yields.addn (j := 1) rfl rfl rfl (by have q_0 := q321; have q_1 := h299.bnd.2; omega)) trivial rfl rfl ?_
                              refine St.val (v := (.int .i64 ((s310.2 + 1 : Nat) : Int))) (Yields.move rfl) trivial rfl rfl ?_
                              refine St.nil ?_
                              refine St.norm ?_
                              obtain rfl := sI hm
                              intro a w ha hs
                              exact ⟨(z322, s310.2 + 1), aL ho313, A324, c325, cells327, h326, b328, ha.covers ⟨rfl, rfl, rfl, rfl, rfl, rfl, rfl, rfl, rfl, rfl, rfl, rfl, rfl, rfl, rfl, rfl, trivial⟩, (Among.of (Among.take 0 rfl rfl (Among.take 0 rfl rfl (Among.take 0 rfl rfl (Among.take 0 rfl rfl Among.none)))) _ hs)⟩
                          · intro q354
                            replace q354 : ¬ (((s310.2 : Nat) : Int) < ((x290.length : Nat) : Int)) := of_decide_eq_false q354
                            replace hm := iF hm q354
                            refine St.exit ?_
                            refine St.thenexit ?_
                            refine St.thenexit ?_
                            refine St.inexit ?_
                            obtain rfl := sI hm
                            obtain rfl := aR ho313
                            intro a w ha hs
                            exact ⟨A315, c316, cells318, h317, b319, ha.covers ⟨rfl, rfl, rfl, rfl, rfl, rfl, rfl, rfl, rfl, rfl, rfl, rfl, trivial⟩, (Among.of (Among.take 0 rfl rfl (Among.take 0 rfl rfl (Among.take 1 rfl rfl Among.none))) _ hs)⟩
                      · rintro a w ⟨A284, c285, cells287, h286, b288, ha, hs⟩
                        replace hm := hk289
                        refine St.use (?_ : St _ _ _ _ _ _) ha hs
                        clear ha hs a w
                        refine St.seq ?_
                        refine St.seq ?_
                        refine St.region ?_
                        refine St.val (v := (.slice A284 z282.length c285)) (Yields.move rfl) trivial rfl rfl ?_
                        refine St.val (v := (.int .i64 ((z282.length : Nat) : Int))) (Yields.lenSlice tu26 rfl) trivial rfl rfl ?_
                        refine St.val (v := (.bool (decide (((z282.length : Nat) : Int) = 0)))) (Yields.eq rfl rfl) trivial rfl rfl ?_
                        refine St.nil ?_
                        refine St.norm ?_
                        refine St.cond_b rfl ?_ ?_
                        · intro q355
                          replace q355 : ((z282.length : Nat) : Int) = 0 := of_decide_eq_true q355
                          replace hm := iT hm q355
                          refine St.seq ?_
                          refine St.region ?_
                          refine St.val (v := (.slice none 0 0)) (Yields.assign rfl) trivial rfl rfl ?_
                          refine St.val (v := (.bool false)) (Yields.assign rfl) trivial rfl rfl ?_
                          refine St.nil ?_
                          refine St.norm ?_
                          refine St.ret ?_
                          refine St.thenret ?_
                          refine St.inret ?_
                          refine St.thenret ?_
                          refine St.thenret ?_
                          refine St.inret ?_
                          refine St.inret ?_
                          refine St.thenret ?_
                          refine St.thenret ?_
                          refine St.inret ?_
                          refine St.inret ?_
                          refine St.thenret ?_
                          refine St.inret ?_
                          refine St.thenret ?_
                          obtain rfl := sI hm
                          obtain rfl := aR ho254
                          obtain rfl := aR ho151
                          obtain rfl := aR ho131
                          obtain rfl := aR ho108
                          obtain rfl := aR ho95
                          exact St.doneR2 rfl rfl rfl ⟨none, 0, rfl, Fsl.nil, rfl⟩ (fun w hs => Among.of Among.none w hs)
                        · intro q356
                          replace q356 : ¬ (((z282.length : Nat) : Int) = 0) := of_decide_eq_false q356
                          replace hm := iF hm q356
                          refine St.skip ?_
                          refine St.norm ?_
                          obtain ⟨z357, hm, hk358⟩ := bS hm
                          refine St.cutI (fun a w => Has Try.f28.ntmps a [(1, .slice pA1 a1.length pc1), (6, .slice A256 s251.1.length c257), (9, .bool z357), (11, .pointer (some ⟨b171, 0, none⟩)), (14, .int .i64 x275), (15, .slice A284 z282.length c285), (38, .slice pA1 a1.length pc1), (39, .int .i64 ((a1.length : Nat) : Int)), (40, .int .i64 ((s128.2.2 : Nat) : Int)), (54, .slice A237 q233.length c238), (55, .int .i64 ((q233.length : Nat) : Int)), (56, .int .i64 ((s251.2.2 : Nat) : Int))] ∧ Sat ⟨w0, fun b => m0 b ≠ none, F⟩ F261 [blk b171 (.cells #[.int .i64 x152.Kind, .slice A159 x152.Vars.length c160, .slice A162 x152.A.length c163, .int .i64 x152.B, .slice A165 x152.Rows.length c166] 28 (0, 0)), rowo A256 s251.1.length c257 26 1 cells259, rowo A284 z282.length c285 3 1 cells287] w) ?_ ?_
                          · skip
                            refine St.region ?_
                            by_cases q359 : s251.2.1 = true
                            · replace hm := iT hm q359
                              have hb360 : (s251.2.1) = true := q359
                              try rw [hb360]
                              refine St.val (v := (.bool true)) (Yields.move rfl) trivial rfl rfl ?_
                              refine St.val (v := (.bool true)) (Yields.move rfl) trivial rfl rfl ?_
                              refine St.unwanted rfl rfl rfl ?_
                              refine St.unwanted rfl rfl rfl ?_
                              refine St.unwanted rfl rfl rfl ?_
                              refine St.unwanted rfl rfl rfl ?_
                              refine St.unwanted rfl rfl rfl ?_
                              refine St.unwanted rfl rfl rfl ?_
                              refine St.unwanted rfl rfl rfl ?_
                              refine St.unwanted rfl rfl rfl ?_
                              refine St.val (v := (.bool true)) (Yields.pick_t rfl rfl) trivial rfl rfl ?_
                              refine St.val (v := (.bool true)) (Yields.assign rfl) trivial rfl rfl ?_
                              refine St.nil ?_
                              obtain rfl := sI hm
                              intro a w ha hs
                              exact ⟨ha.covers ⟨rfl, rfl, rfl, rfl, rfl, rfl, rfl, rfl, rfl, rfl, rfl, rfl, trivial⟩, (Among.of (Among.take 0 rfl rfl (Among.take 0 rfl rfl (Among.take 0 rfl rfl Among.none))) _ hs)⟩
                            · replace hm := iF hm q359
                              have hb361 : (s251.2.1) = false := eq_false_of_ne_true q359
                              try rw [hb361]
                              refine St.val (v := (.bool false)) (Yields.move rfl) trivial rfl rfl ?_
                              refine St.val (v := (.bool false)) (Yields.move rfl) trivial rfl rfl ?_
                              refine St.val (v := (.slice A284 z282.length c285)) (Yields.move rfl) rfl rfl rfl ?_
                              refine St.val (v := (.int .i64 ((z282.length : Nat) : Int))) (Yields.lenSlice tu26 rfl) rfl rfl rfl ?_
                              refine St.val (v := (.slice A256 s251.1.length c257)) (Yields.move rfl) rfl rfl rfl ?_
                              refine St.val (v := (.int .i64 x275)) (Yields.move rfl) rfl rfl rfl ?_
                              obtain ⟨x362, e363, hm⟩ := bS hm
                              obtain ⟨jx364, jx365, cs366, R367, k368⟩ := h258.idx e363
                              obtain ⟨A369, c370, rfl, h371⟩ := R367
                              refine St.rowo_at 1 rfl (by omega) ?_
                              intro hA373
                              refine St.val (v := (.pointer (some ⟨bk A256, bo A256 + x275.toNat * 1, none⟩))) (Yields.idx (IdxAt.own hA373 jx364 jx365) ts22 rfl rfl) rfl rfl rfl ?_
                              refine St.val (v := (.slice A369 x362.length c370)) (Yields.load rfl (Loads.rA1 1 rfl tc26 (k368 0 _ rfl))) rfl rfl rfl ?_
                              refine St.val (v := (.int .i64 ((x362.length : Nat) : Int))) (Yields.lenSlice tu26 rfl) rfl rfl rfl ?_
                              refine St.val (v := (.bool (decide (((z282.length : Nat) : Int) < ((x362.length : Nat) : Int))))) (Yields.lt rfl rfl) rfl rfl rfl ?_
                              refine St.val (v := (.bool (decide (((z282.length : Nat) : Int) < ((x362.length : Nat) : Int))))) (Yields.pick_f rfl rfl) trivial rfl rfl ?_
                              refine St.val (v := (.bool (decide (((z282.length : Nat) : Int) < ((x362.length : Nat) : Int))))) (Yields.assign rfl) trivial rfl rfl ?_
                              refine St.nil ?_
                              obtain rfl := sI hm
                              intro a w ha hs
                              exact ⟨ha.covers ⟨rfl, rfl, rfl, rfl, rfl, rfl, rfl, rfl, rfl, rfl, rfl, rfl, trivial⟩, (Among.of (Among.take 0 rfl rfl (Among.take 0 rfl rfl (Among.take 0 rfl rfl Among.none))) _ hs)⟩
                          · rintro a w ⟨ha, hs⟩
                            replace hm := hk358
                            refine St.use (?_ : St _ _ _ _ _ _) ha hs
                            clear ha hs a w
                            refine St.region ?_
                            refine St.val (v := (.slice A256 s251.1.length c257)) (Yields.move rfl) trivial rfl rfl ?_
                            refine St.val (v := (.int .i64 x275)) (Yields.move rfl) trivial rfl rfl ?_
                            refine St.val (v := (.slice A284 z282.length c285)) (Yields.move rfl) trivial rfl rfl ?_
                            obtain ⟨x374, e375, hm⟩ := bS hm
                            obtain ⟨jx376, jx377, cs378, R379, k380⟩ := h258.idx e375
                            obtain ⟨A381, c382, rfl, h383⟩ := R379
                            refine St.rowo_at 1 rfl (by omega) ?_
                            intro hA385
                            refine St.val (v := (.pointer (some ⟨bk A256, bo A256 + x275.toNat * 1, none⟩))) (Yields.idx (IdxAt.own hA385 jx376 jx377) ts22 rfl rfl) trivial rfl rfl ?_
                            refine St.frz 2 rfl rfl rfl h286 b288 ?_
                            intro F386 l387 h388
                            obtain ⟨x391, e392, hm⟩ := bS hm
                            refine St.putK1 (R := [blk b171 (.cells #[.int .i64 x152.Kind, .slice A159 x152.Vars.length c160, .slice A162 x152.A.length c163, .int .i64 x152.B, .slice A165 x152.Rows.length c166] 28 (0, 0))]) e392 (Cat.mono l387 h258) (show ((Kind.sl 8 (Kind.int .i64))).R _ [.slice A284 z282.length c285] z282 from ⟨_, _, rfl, h388⟩) rfl rfl rfl 1 rfl rfl tc26 rfl trivial ?_
                            intro cells390 h389
                            try rw [upd_len e392]
                            refine St.nil ?_
                            refine St.innorm ?_
                            refine St.norm ?_
                            refine St.region ?_
                            refine St.val (v := (.int .i64 ((s251.2.2 + 1 : Nat) : Int))) (Yields.addn (j := 1) rfl rfl rfl (by have q_0 := q263; have q_1 := h239.bnd.2; omega)) trivial rfl rfl ?_
                            refine St.val (v := (.int .i64 ((s251.2.2 + 1 : Nat) : Int))) (Yields.move rfl) trivial rfl rfl ?_
                            refine St.nil ?_
                            refine St.norm ?_
                            obtain rfl := sI hm
                            intro a w ha hs
                            exact ⟨(x391, z357, s251.2.2 + 1), aL ho254, A256, c257, cells390, F386, (PH.le_trans l262 l387), h389, (Bnd.of_upd b260 e392), ha.covers ⟨rfl, rfl, rfl, rfl, rfl, rfl, rfl, rfl, rfl, rfl, trivial⟩, (Among.of (Among.take 1 rfl rfl (Among.take 0 rfl rfl Among.none)) _ hs)⟩
                    · intro q393
                      replace q393 : ¬ (((s251.2.2 : Nat) : Int) < ((q233.length : Nat) : Int)) := of_decide_eq_false q393
                      replace hm := iF hm q393
                      refine St.exit ?_
                      refine St.thenexit ?_
                      refine St.thenexit ?_
                      refine St.inexit ?_
                      refine St.innorm ?_
                      obtain rfl := sI hm
                      obtain rfl := aR ho254
                      intro a w ha hs
                      exact ⟨(s251.1, s251.2.1), rfl, A256, c257, cells259, F261, (PH.le_trans l236 l262), h258, b260, ha.covers ⟨rfl, rfl, rfl, rfl, rfl, rfl, trivial⟩, (Among.of (Among.take 1 rfl rfl Among.none) _ hs)⟩
              · rintro a w ⟨z141, rfl, A145, c146, cells148, F142, l143, h147, b149, ha, hs⟩
                replace hm := aL ho151
                refine St.use (?_ : St _ _ _ _ _ _) ha hs
                clear ha hs a w
                refine St.region ?_
                refine St.val (v := (.int .i64 ((s128.2.2 + 1 : Nat) : Int))) (Yields.addn (j := 1) rfl rfl rfl (by have q_0 := q140; have q_1 := ph1.bnd.2; omega)) trivial rfl rfl ?_
                refine St.val (v := (.int .i64 ((s128.2.2 + 1 : Nat) : Int))) (Yields.move rfl) trivial rfl rfl ?_
                refine St.nil ?_
                refine St.norm ?_
                obtain rfl := sI hm
                intro a w ha hs
                exact ⟨(z141.1, z141.2, s128.2.2 + 1), aL ho131, A145, c146, cells148, F142, (PH.le_trans l139 l143), h147, b149, ha.covers ⟨rfl, rfl, rfl, rfl, rfl, rfl, trivial⟩, (Among.of (Among.take 0 rfl rfl Among.none) _ hs)⟩
            · intro q394
              replace q394 : ¬ (((s128.2.2 : Nat) : Int) < ((a1.length : Nat) : Int)) := of_decide_eq_false q394
              replace hm := iF hm q394
              refine St.exit ?_
              refine St.thenexit ?_
              refine St.thenexit ?_
              refine St.inexit ?_
              refine St.innorm ?_
              refine St.norm ?_
              obtain rfl := sI hm
              obtain rfl := aR ho131
              intro a w ha hs
              exact ⟨(s128.1, s128.2.1), aL ho108, A133, c134, cells136, F138, (PH.le_trans l116 l139), h135, b137, ha.covers ⟨rfl, rfl, rfl, trivial⟩, (Among.of (Among.take 0 rfl rfl Among.none) _ hs)⟩
        · intro q395
          replace q395 : ¬ (s105.2 = true) := bf q395
          replace hm := iF hm q395
          refine St.exit ?_
          refine St.thenexit ?_
          refine St.thenexit ?_
          refine St.inexit ?_
          obtain rfl := sI hm
          obtain rfl := aR ho108
          intro a w ha hs
          exact ⟨s105.1, rfl, A110, c111, cells113, F115, l116, h112, b114, ha.covers ⟨rfl, trivial⟩, (Among.of (Among.take 0 rfl rfl Among.none) _ hs)⟩
    · rintro a w ⟨z85, rfl, A89, c90, cells92, F86, l87, h91, b93, ha, hs⟩
      replace hm := aL ho95
      refine St.use (?_ : St _ _ _ _ _ _) ha hs
      clear ha hs a w
      refine St.seq ?_
      refine St.region ?_
      refine St.val (v := (.slice A89 z85.length c90)) (Yields.move rfl) trivial rfl rfl ?_
      refine St.val (v := (.slice A89 z85.length c90)) (Yields.assign rfl) trivial rfl rfl ?_
      refine St.val (v := (.bool true)) (Yields.assign rfl) trivial rfl rfl ?_
      refine St.nil ?_
      refine St.norm ?_
      refine St.ret ?_
      refine St.frz 0 rfl rfl rfl h91 b93 ?_
      intro F396 l397 h398
      obtain rfl := sI hm
      exact St.doneR2 rfl rfl rfl ⟨A89, c90, rfl, h398, rfl⟩ (fun w hs => Among.of Among.none w hs)

theorem m_domain_Narrow_sp {F : PH} {g : Nat} {a0 : DProblem} {pA0_0 : Option Addr} {pc0_0 : Nat} {pA0_1 : Option Addr} {pc0_1 : Nat} (ph0_0 : Fsl 24 (Kind.sl 8 (Kind.int .i64)) F pA0_0 pc0_0 a0.Doms) (ph0_1 : Fsl 88 KDLimit F pA0_1 pc0_1 a0.Limits) {r : List (List Int) × Bool × Int} (hm : m_domain_Narrow g a0 = some r) :
    CallSp Try.prog 9 #[.agg #[.slice pA0_0 a0.Doms.length pc0_0, .slice pA0_1 a0.Limits.length pc0_1]] F [] (fun u F' H' => ∃ (B0 : Option Addr) (d0 : Nat), u = (.tuple #[.slice B0 r.1.length d0, .bool r.2.1, .int .i64 r.2.2]) ∧ Fsl 24 (Kind.sl 8 (Kind.int .i64)) F' B0 d0 r.1 ∧ H' = []) := by
  unfold m_domain_Narrow at hm
  refine CallSp.enter (args := [.agg #[.slice pA0_0 a0.Doms.length pc0_0, .slice pA0_1 a0.Limits.length pc0_1]]) Try.func9 rfl rfl ?_
  intro w0 m0 hm0
  refine St.seq ?_
  refine St.region ?_
  refine St.box rfl trivial rfl ?_
  intro b3
  refine St.val (v := (.slice none 0 0)) (Yields.assign rfl) trivial rfl rfl ?_
  refine St.val (v := (.bool false)) (Yields.assign rfl) trivial rfl rfl ?_
  refine St.val (v := (.int .i64 0)) (Yields.assign rfl) trivial rfl rfl ?_
  refine St.nil ?_
  refine St.norm ?_
  refine St.seq ?_
  refine St.seq ?_
  refine St.region ?_
  refine St.val (v := (.agg #[.slice pA0_0 a0.Doms.length pc0_0, .slice pA0_1 a0.Limits.length pc0_1])) (Yields.load rfl (Loads.Hk (vs := [.slice pA0_0 a0.Doms.length pc0_0, .slice pA0_1 a0.Limits.length pc0_1]) 0 rfl ta25 rfl rfl)) trivial rfl rfl ?_
  obtain ⟨q4, e5, hm⟩ := bS hm
  refine St.call [blk b3 (.cells #[.slice pA0_0 a0.Doms.length pc0_0, .slice pA0_1 a0.Limits.length pc0_1] 25 (0, 0))] (m_domain_Validate_sp (a0 := a0) ph0_0 ph0_1 e5) rfl (fun _ ha => ev1 ha rfl) rfl en6 rfl rfl trivial ?_
  rintro _ F6 _ ⟨rfl, rfl⟩ l7
  refine St.val (v := (.int .i64 q4)) (Yields.assign rfl) trivial rfl rfl ?_
  refine St.nil ?_
  refine St.norm ?_
  refine St.seq ?_
  refine St.region ?_
  refine St.val (v := (.int .i64 q4)) (Yields.move rfl) trivial rfl rfl ?_
  refine St.val (v := (.bool (!decide (q4 = 0)))) (Yields.ne rfl rfl) trivial rfl rfl ?_
  refine St.nil ?_
  refine St.norm ?_
  refine St.cond_b rfl ?_ ?_
  · intro q8
    replace q8 : ¬ (q4 = 0) := nd_t q8
    replace hm := iF hm q8
    refine St.seq ?_
    refine St.region ?_
    refine St.val (v := (.int .i64 q4)) (Yields.move rfl) trivial rfl rfl ?_
    refine St.val (v := (.slice none 0 0)) (Yields.assign rfl) trivial rfl rfl ?_
    refine St.val (v := (.bool false)) (Yields.assign rfl) trivial rfl rfl ?_
    refine St.val (v := (.int .i64 q4)) (Yields.assign rfl) trivial rfl rfl ?_
    refine St.nil ?_
    refine St.norm ?_
    refine St.ret ?_
    refine St.thenret ?_
    obtain rfl := sI hm
    exact St.doneR3 rfl rfl rfl rfl ⟨none, 0, rfl, Fsl.nil, rfl⟩ (fun w hs => Among.of Among.none w hs)
  · intro q9
    replace q9 : q4 = 0 := nd_f q9
    replace hm := iT hm q9
    refine St.skip ?_
    refine St.norm ?_
    refine St.seq ?_
    refine St.seq ?_
    refine St.region ?_
    refine St.val (v := (.agg #[.slice pA0_0 a0.Doms.length pc0_0, .slice pA0_1 a0.Limits.length pc0_1])) (Yields.load rfl (Loads.Hk (vs := [.slice pA0_0 a0.Doms.length pc0_0, .slice pA0_1 a0.Limits.length pc0_1]) 0 rfl ta25 rfl rfl)) trivial rfl rfl ?_
    obtain ⟨q10, e11, hm⟩ := bS hm
    refine St.call [blk b3 (.cells #[.slice pA0_0 a0.Doms.length pc0_0, .slice pA0_1 a0.Limits.length pc0_1] 25 (0, 0))] (m_domain_isCostly_sp (a0 := a0) (Fsl.mono l7 ph0_0) (Fsl.mono l7 ph0_1) e11) rfl (fun _ ha => ev1 ha rfl) rfl en27 rfl rfl trivial ?_
    rintro _ F12 _ ⟨rfl, rfl⟩ l13
    refine St.nil ?_
    refine St.norm ?_
    refine St.cond_b rfl ?_ ?_
    · intro q14
      replace q14 : q10 = true := q14
      replace hm := iT hm q14
      refine St.seq ?_
      refine St.region ?_
      refine St.val (v := (.slice none 0 0)) (Yields.assign rfl) trivial rfl rfl ?_
      refine St.val (v := (.bool false)) (Yields.assign rfl) trivial rfl rfl ?_
      refine St.val (v := (.int .i64 3)) (Yields.assign rfl) trivial rfl rfl ?_
      refine St.nil ?_
      refine St.norm ?_
      refine St.ret ?_
      refine St.thenret ?_
      obtain rfl := sI hm
      exact St.doneR3 rfl rfl rfl rfl ⟨none, 0, rfl, Fsl.nil, rfl⟩ (fun w hs => Among.of Among.none w hs)
    · intro q15
      replace q15 : ¬ (q10 = true) := bf q15
      replace hm := iF hm q15
      refine St.skip ?_
      refine St.norm ?_
      refine St.seq ?_
      refine St.region ?_
      refine St.val (v := (.pointer (some ⟨b3, 0, none⟩))) (Yields.fieldAddr (v := (.pointer (some ⟨b3, 0, none⟩))) rfl (fun _ => by kernel_rfl)) trivial rfl rfl ?_
      refine St.val (v := (.slice pA0_0 a0.Doms.length pc0_0)) (Yields.load rfl (Loads.H1 0 rfl tc22 rfl)) trivial rfl rfl ?_
      refine St.val (v := (.pointer (some ⟨b3, 1, none⟩))) (Yields.fieldAddr (v := (.pointer (some ⟨b3, 1, none⟩))) rfl (fun _ => by kernel_rfl)) trivial rfl rfl ?_
      refine St.val (v := (.slice pA0_1 a0.Limits.length pc0_1)) (Yields.load rfl (Loads.H1 0 rfl tc23 rfl)) trivial rfl rfl ?_
      obtain ⟨q16, e17, hm⟩ := bS hm
      refine St.call [blk b3 (.cells #[.slice pA0_0 a0.Doms.length pc0_0, .slice pA0_1 a0.Limits.length pc0_1] 25 (0, 0))] (m_domain_narrow_sp (Fsl.mono (PH.le_trans l7 l13) ph0_0) (Fsl.mono (PH.le_trans l7 l13) ph0_1) e17) rfl (fun _ ha => ev2 ha rfl rfl) rfl en28 rfl rfl trivial ?_
      rintro _ F18 _ ⟨A20, c21, rfl, h22, rfl⟩ l19
      refine St.val (v := (.tuple #[.slice A20 q16.1.length c21, .bool q16.2])) (Yields.move rfl) trivial rfl rfl ?_
      refine St.val (v := (.slice A20 q16.1.length c21)) (Yields.extract rfl rfl) trivial rfl rfl ?_
      refine St.val (v := (.bool q16.2)) (Yields.extract rfl rfl) trivial rfl rfl ?_
      refine St.val (v := (.slice A20 q16.1.length c21)) (Yields.assign rfl) trivial rfl rfl ?_
      refine St.val (v := (.bool q16.2)) (Yields.assign rfl) trivial rfl rfl ?_
      refine St.nil ?_
      refine St.norm ?_
      refine St.seq ?_
      refine St.region ?_
      refine St.val (v := (.slice A20 q16.1.length c21)) (Yields.move rfl) trivial rfl rfl ?_
      refine St.val (v := (.bool q16.2)) (Yields.move rfl) trivial rfl rfl ?_
      refine St.val (v := (.slice A20 q16.1.length c21)) (Yields.assign rfl) trivial rfl rfl ?_
      refine St.val (v := (.bool q16.2)) (Yields.assign rfl) trivial rfl rfl ?_
      refine St.val (v := (.int .i64 0)) (Yields.assign rfl) trivial rfl rfl ?_
      refine St.nil ?_
      refine St.norm ?_
      refine St.ret ?_
      obtain rfl := sI hm
      exact St.doneR3 rfl rfl rfl rfl ⟨A20, c21, rfl, h22, rfl⟩ (fun w hs => Among.of Among.none w hs)

theorem m_ref01_SameInts_sp {F : PH} {g : Nat} {a0 : List Int} {a1 : List Int} {pA0 : Option Addr} {pc0 : Nat} {pA1 : Option Addr} {pc1 : Nat} (ph0 : Fsl 8 (Kind.int .i64) F pA0 pc0 a0) (ph1 : Fsl 8 (Kind.int .i64) F pA1 pc1 a1) {r : Bool} (hm : m_ref01_SameInts g a0 a1 = some r) :
    CallSp Try.prog 29 #[.slice pA0 a0.length pc0, .slice pA1 a1.length pc1] F [] (fun u F' H' => u = (.bool r) ∧ H' = []) := by
  unfold m_ref01_SameInts at hm
  refine CallSp.enter (args := [.slice pA0 a0.length pc0, .slice pA1 a1.length pc1]) Try.func29 rfl rfl ?_
  intro w0 m0 hm0
  refine St.seq ?_
  refine St.region ?_
  refine St.val (v := (.bool false)) (Yields.assign rfl) trivial rfl rfl ?_
  refine St.nil ?_
  refine St.norm ?_
  refine St.seq ?_
  refine St.seq ?_
  refine St.region ?_
  refine St.val (v := (.slice pA0 a0.length pc0)) (Yields.move rfl) trivial rfl rfl ?_
  refine St.val (v := (.int .i64 ((a0.length : Nat) : Int))) (Yields.lenSlice tu26 rfl) trivial rfl rfl ?_
  refine St.val (v := (.slice pA1 a1.length pc1)) (Yields.move rfl) trivial rfl rfl ?_
  refine St.val (v := (.int .i64 ((a1.length : Nat) : Int))) (Yields.lenSlice tu26 rfl) trivial rfl rfl ?_
  refine St.val (v := (.bool (!decide (((a0.length : Nat) : Int) = ((a1.length : Nat) : Int))))) (Yields.ne rfl rfl) trivial rfl rfl ?_
  refine St.nil ?_
  refine St.norm ?_
  refine St.cond_b rfl ?_ ?_
  · intro q3
    replace q3 : ¬ (((a0.length : Nat) : Int) = ((a1.length : Nat) : Int)) := nd_t q3
    replace hm := iF hm q3
    refine St.seq ?_
    refine St.region ?_
    refine St.val (v := (.bool false)) (Yields.assign rfl) trivial rfl rfl ?_
    refine St.nil ?_
    refine St.norm ?_
    refine St.ret ?_
    refine St.thenret ?_
    obtain rfl := sI hm
    exact St.doneR1 rfl rfl ⟨rfl, rfl⟩ (fun w hs => Among.of Among.none w hs)
  · intro q4
    replace q4 : ((a0.length : Nat) : Int) = ((a1.length : Nat) : Int) := nd_f q4
    replace hm := iT hm q4
    refine St.skip ?_
    refine St.norm ?_
    obtain ⟨o6, hm, ho7⟩ := jS hm
    refine St.cutI (fun a w => ∃ z5 : Unit, o6 = .inl z5 ∧ Has Try.f29.ntmps a [] ∧ Sat ⟨w0, fun b => m0 b ≠ none, F⟩ F [] w) ?_ ?_
    · skip
      refine St.seq ?_
      refine St.region ?_
      refine St.val (v := (.int .i64 0)) (Yields.assign rfl) trivial rfl rfl ?_
      refine St.nil ?_
      refine St.norm ?_
      refine St.block ?_
      refine St.loopM hm (fun s9 a w => Has Try.f29.ntmps a [(0, .slice pA0 a0.length pc0), (1, .slice pA1 a1.length pc1), (5, .int .i64 ((s9 : Nat) : Int))] ∧ Sat ⟨w0, fun b => m0 b ≠ none, F⟩ F [] w) ?_ ?_
      · skip
        intro a w ha hs
        exact ⟨ha.covers ⟨rfl, rfl, rfl, trivial⟩, (Among.of Among.none _ hs)⟩
      · rintro s9 o10 co11 hm ho12 a w ⟨ha, hs⟩
        refine St.use (?_ : St _ _ _ _ _ _) ha hs
        clear ha hs a w
        refine St.seq ?_
        refine St.seq ?_
        refine St.region ?_
        refine St.val (v := (.int .i64 ((s9 : Nat) : Int))) (Yields.move rfl) trivial rfl rfl ?_
        refine St.val (v := (.slice pA0 a0.length pc0)) (Yields.move rfl) trivial rfl rfl ?_
        refine St.val (v := (.int .i64 ((a0.length : Nat) : Int))) (Yields.lenSlice tu26 rfl) trivial rfl rfl ?_
        refine St.val (v := (.bool (decide (((s9 : Nat) : Int) < ((a0.length : Nat) : Int))))) (Yields.lt rfl rfl) trivial rfl rfl ?_
        refine St.nil ?_
        refine St.norm ?_
        refine St.cond_b rfl ?_ ?_
        · intro q13
          replace q13 : ((s9 : Nat) : Int) < ((a0.length : Nat) : Int) := of_decide_eq_true q13
          replace hm := iT hm q13
          refine St.skip ?_
          refine St.norm ?_
          refine St.seq ?_
          refine St.block ?_
          refine St.seq ?_
          refine StD.start [] [] hmix ?_
          refine StD.takeP (i := 0) (v := (.slice pA0 a0.length pc0)) rfl (fun _ => Yields.move rfl) rfl rfl trivial (by rintro _ _ _ ⟨_, _, _, _, h, _⟩; cases h) (by kernel_rfl) (listed' := #[true, false, false, false, false, false, false, false, false]) rfl ?_
          refine StD.takeP (i := 1) (v := (.int .i64 ((s9 : Nat) : Int))) rfl (fun _ => Yields.move rfl) rfl rfl trivial (by rintro _ _ _ ⟨_, _, _, _, h, _⟩; cases h) (by kernel_rfl) (listed' := #[true, true, false, false, false, false, false, false, false]) rfl ?_
          obtain ⟨x14, e15, hm⟩ := bS hm
          obtain ⟨p16, cs17, jx18, R19, k20⟩ := ph0.nidx e15
          obtain rfl := R19
          refine StD.takeP (i := 2) (v := (.pointer (some p16))) rfl (fun _ => Yields.idx jx18 ts26 rfl rfl) rfl rfl trivial (by rintro _ _ _ ⟨_, _, _, _, h, _⟩; cases h) (by kernel_rfl) (listed' := #[true, true, true, false, false, false, false, false, false]) rfl ?_
          refine StD.take [0, 1, 2, 4, 5, 6, 8] (i := 3) (v := (.int .i64 x14)) rfl (Yields.load rfl (Loads.Fat k20 tc3 rfl)) rfl rfl trivial Among.refl (by rintro _ _ _ ⟨_, _, _, _, h, _⟩; cases h) (by kernel_rfl) (listed' := #[true, true, true, true, false, false, false, false, false]) rfl ?_
          refine StD.takeP (i := 4) (v := (.slice pA1 a1.length pc1)) rfl (fun _ => Yields.move rfl) rfl rfl trivial (by rintro _ _ _ ⟨_, _, _, _, h, _⟩; cases h) (by kernel_rfl) (listed' := #[true, true, true, true, true, false, false, false, false]) rfl ?_
          refine StD.takeP (i := 5) (v := (.int .i64 ((s9 : Nat) : Int))) rfl (fun _ => Yields.move rfl) rfl rfl trivial (by rintro _ _ _ ⟨_, _, _, _, h, _⟩; cases h) (by kernel_rfl) (listed' := #[true, true, true, true, true, true, false, false, false]) rfl ?_
          obtain ⟨x21, e22, hm⟩ := bS hm
          obtain ⟨p23, cs24, jx25, R26, k27⟩ := ph1.nidx e22
          obtain rfl := R26
          refine StD.takeP (i := 6) (v := (.pointer (some p23))) rfl (fun _ => Yields.idx jx25 ts26 rfl rfl) rfl rfl trivial (by rintro _ _ _ ⟨_, _, _, _, h, _⟩; cases h) (by kernel_rfl) (listed' := #[true, true, true, true, true, true, true, false, false]) rfl ?_
          refine StD.take [0, 1, 2, 4, 5, 6, 8] (i := 7) (v := (.int .i64 x21)) rfl (Yields.load rfl (Loads.Fat k27 tc3 rfl)) rfl rfl trivial Among.refl (by rintro _ _ _ ⟨_, _, _, _, h, _⟩; cases h) (by kernel_rfl) (listed' := #[true, true, true, true, true, true, true, true, false]) rfl ?_
          refine StD.takeP (i := 8) (v := (.bool (!decide (x14 = x21)))) rfl (fun _ => Yields.ne rfl rfl) rfl rfl trivial (by rintro _ _ _ ⟨_, _, _, _, h, _⟩; cases h) (by kernel_rfl) (listed' := #[true, true, true, true, true, true, true, true, true]) rfl ?_
          refine StD.done (by kernel_rfl) ?_
          refine St.norm ?_
          refine St.cond_b rfl ?_ ?_
          · intro q28
            replace q28 : ¬ (x14 = x21) := nd_t q28
            replace hm := iF hm q28
            refine St.seq ?_
            refine St.region ?_
            refine St.val (v := (.bool false)) (Yields.assign rfl) trivial rfl rfl ?_
            refine St.nil ?_
            refine St.norm ?_
            refine St.ret ?_
            refine St.inret ?_
            refine St.thenret ?_
            refine St.thenret ?_
            refine St.inret ?_
            refine St.thenret ?_
            obtain rfl := sI hm
            obtain rfl := aR ho12
            obtain rfl := aR ho7
            exact St.doneR1 rfl rfl ⟨rfl, rfl⟩ (fun w hs => Among.of Among.none w hs)
          · intro q29
            replace q29 : x14 = x21 := nd_f q29
            replace hm := iT hm q29
            refine St.skip ?_
            refine St.innorm ?_
            refine St.norm ?_
            refine St.region ?_
            refine St.val (v := (.int .i64 ((s9 : Nat) : Int))) (Yields.move rfl) trivial rfl rfl ?_
            refine St.val (v := (.int .i64 ((s9 + 1 : Nat) : Int))) (Yields.addn (j := 1) rfl rfl rfl (by have q_0 := q13; have q_1 := ph0.bnd.2; omega)) trivial rfl rfl ?_
            refine St.val (v := (.int .i64 ((s9 + 1 : Nat) : Int))) (Yields.assign rfl) trivial rfl rfl ?_
            refine St.nil ?_
            refine St.norm ?_
            obtain rfl := sI hm
            intro a w ha hs
            exact ⟨s9 + 1, aL ho12, ha.covers ⟨rfl, rfl, rfl, trivial⟩, (Among.of Among.none _ hs)⟩
        · intro q30
          replace q30 : ¬ (((s9 : Nat) : Int) < ((a0.length : Nat) : Int)) := of_decide_eq_false q30
          replace hm := iF hm q30
          refine St.exit ?_
          refine St.thenexit ?_
          refine St.thenexit ?_
          refine St.inexit ?_
          obtain rfl := sI hm
          obtain rfl := aR ho12
          intro a w ha hs
          exact ⟨(), rfl, ha.covers trivial, (Among.of Among.none _ hs)⟩
    · rintro a w ⟨z5, rfl, ha, hs⟩
      replace hm := aL ho7
      refine St.use (?_ : St _ _ _ _ _ _) ha hs
      clear ha hs a w
      refine St.seq ?_
      refine St.region ?_
      refine St.val (v := (.bool true)) (Yields.assign rfl) trivial rfl rfl ?_
      refine St.nil ?_
      refine St.norm ?_
      refine St.ret ?_
      obtain rfl := sI hm
      exact St.doneR1 rfl rfl ⟨rfl, rfl⟩ (fun w hs => Among.of Among.none w hs)

theorem m_ref01_SameRows_sp {F : PH} {g : Nat} {a0 : List (List Int)} {a1 : List (List Int)} {pA0 : Option Addr} {pc0 : Nat} {pA1 : Option Addr} {pc1 : Nat} (ph0 : Fsl 24 (Kind.sl 8 (Kind.int .i64)) F pA0 pc0 a0) (ph1 : Fsl 24 (Kind.sl 8 (Kind.int .i64)) F pA1 pc1 a1) {r : Bool} (hm : m_ref01_SameRows g a0 a1 = some r) :
    CallSp Try.prog 10 #[.slice pA0 a0.length pc0, .slice pA1 a1.length pc1] F [] (fun u F' H' => u = (.bool r) ∧ H' = []) := by
  unfold m_ref01_SameRows at hm
  refine CallSp.enter (args := [.slice pA0 a0.length pc0, .slice pA1 a1.length pc1]) Try.func10 rfl rfl ?_
  intro w0 m0 hm0
  refine St.seq ?_
  refine St.region ?_
  refine St.val (v := (.bool false)) (Yields.assign rfl) trivial rfl rfl ?_
  refine St.nil ?_
  refine St.norm ?_
  refine St.seq ?_
  refine St.seq ?_
  refine St.region ?_
  refine St.val (v := (.slice pA0 a0.length pc0)) (Yields.move rfl) trivial rfl rfl ?_
  refine St.val (v := (.int .i64 ((a0.length : Nat) : Int))) (Yields.lenSlice tu22 rfl) trivial rfl rfl ?_
  refine St.val (v := (.slice pA1 a1.length pc1)) (Yields.move rfl) trivial rfl rfl ?_
  refine St.val (v := (.int .i64 ((a1.length : Nat) : Int))) (Yields.lenSlice tu22 rfl) trivial rfl rfl ?_
  refine St.val (v := (.bool (!decide (((a0.length : Nat) : Int) = ((a1.length : Nat) : Int))))) (Yields.ne rfl rfl) trivial rfl rfl ?_
  refine St.nil ?_
  refine St.norm ?_
  refine St.cond_b rfl ?_ ?_
  · intro q3
    replace q3 : ¬ (((a0.length : Nat) : Int) = ((a1.length : Nat) : Int)) := nd_t q3
    replace hm := iF hm q3
    refine St.seq ?_
    refine St.region ?_
    refine St.val (v := (.bool false)) (Yields.assign rfl) trivial rfl rfl ?_
    refine St.nil ?_
    refine St.norm ?_
    refine St.ret ?_
    refine St.thenret ?_
    obtain rfl := sI hm
    exact St.doneR1 rfl rfl ⟨rfl, rfl⟩ (fun w hs => Among.of Among.none w hs)
  · intro q4
    replace q4 : ((a0.length : Nat) : Int) = ((a1.length : Nat) : Int) := nd_f q4
    replace hm := iT hm q4
    refine St.skip ?_
    refine St.norm ?_
    obtain ⟨o8, hm, ho9⟩ := jS hm
    refine St.cutI (fun a w => ∃ z5 : Unit, o8 = .inl z5 ∧ ∃ (F6 : PH), PH.le F F6 ∧ Has Try.f10.ntmps a [] ∧ Sat ⟨w0, fun b => m0 b ≠ none, F⟩ F6 [] w) ?_ ?_
    · skip
      refine St.seq ?_
      refine St.region ?_
      refine St.val (v := (.int .i64 0)) (Yields.assign rfl) trivial rfl rfl ?_
      refine St.nil ?_
      refine St.norm ?_
      refine St.block ?_
      refine St.loopM hm (fun s12 a w => ∃ (F16 : PH), PH.le F F16 ∧ Has Try.f10.ntmps a [(0, .slice pA0 a0.length pc0), (1, .slice pA1 a1.length pc1), (5, .int .i64 ((s12 : Nat) : Int))] ∧ Sat ⟨w0, fun b => m0 b ≠ none, F⟩ F16 [] w) ?_ ?_
      · skip
        intro a w ha hs
        exact ⟨F, (PH.le_refl _), ha.covers ⟨rfl, rfl, rfl, trivial⟩, (Among.of Among.none _ hs)⟩
      · rintro s12 o13 co14 hm ho15 a w ⟨F16, l17, ha, hs⟩
        refine St.use (?_ : St _ _ _ _ _ _) ha hs
        clear ha hs a w
        refine St.seq ?_
        refine St.seq ?_
        refine St.region ?_
        refine St.val (v := (.int .i64 ((s12 : Nat) : Int))) (Yields.move rfl) trivial rfl rfl ?_
        refine St.val (v := (.slice pA0 a0.length pc0)) (Yields.move rfl) trivial rfl rfl ?_
        refine St.val (v := (.int .i64 ((a0.length : Nat) : Int))) (Yields.lenSlice tu22 rfl) trivial rfl rfl ?_
        refine St.val (v := (.bool (decide (((s12 : Nat) : Int) < ((a0.length : Nat) : Int))))) (Yields.lt rfl rfl) trivial rfl rfl ?_
        refine St.nil ?_
        refine St.norm ?_
        refine St.cond_b rfl ?_ ?_
        · intro q18
          replace q18 : ((s12 : Nat) : Int) < ((a0.length : Nat) : Int) := of_decide_eq_true q18
          replace hm := iT hm q18
          refine St.skip ?_
          refine St.norm ?_
          refine St.seq ?_
          refine St.block ?_
          refine St.seq ?_
          refine StD.start [8] [] hmix ?_
          refine StD.takeP (i := 0) (v := (.slice pA0 a0.length pc0)) rfl (fun _ => Yields.move rfl) rfl rfl trivial (by rintro _ _ _ ⟨_, _, _, _, h, _⟩; cases h) (by kernel_rfl) (listed' := #[true, false, false, false, false, false, false, false, false, false]) rfl ?_
          refine StD.takeP (i := 1) (v := (.int .i64 ((s12 : Nat) : Int))) rfl (fun _ => Yields.move rfl) rfl rfl trivial (by rintro _ _ _ ⟨_, _, _, _, h, _⟩; cases h) (by kernel_rfl) (listed' := #[true, true, false, false, false, false, false, false, false, false]) rfl ?_
          obtain ⟨x19, e20, hm⟩ := bS hm
          obtain ⟨p21, cs22, jx23, R24, k25⟩ := (Fsl.mono l17 ph0).nidx e20
          obtain ⟨A26, c27, rfl, h28⟩ := R24
          refine StD.takeP (i := 2) (v := (.pointer (some p21))) rfl (fun _ => Yields.idx jx23 ts22 rfl rfl) rfl rfl trivial (by rintro _ _ _ ⟨_, _, _, _, h, _⟩; cases h) (by kernel_rfl) (listed' := #[true, true, true, false, false, false, false, false, false, false]) rfl ?_
          refine StD.take [0, 1, 2, 4, 5, 6, 9] (i := 3) (v := (.slice A26 x19.length c27)) rfl (Yields.load rfl (Loads.Fat k25 tc26 rfl)) rfl rfl trivial Among.refl (by rintro _ _ _ ⟨_, _, _, _, h, _⟩; cases h) (by kernel_rfl) (listed' := #[true, true, true, true, false, false, false, false, false, false]) rfl ?_
          refine StD.takeP (i := 4) (v := (.slice pA1 a1.length pc1)) rfl (fun _ => Yields.move rfl) rfl rfl trivial (by rintro _ _ _ ⟨_, _, _, _, h, _⟩; cases h) (by kernel_rfl) (listed' := #[true, true, true, true, true, false, false, false, false, false]) rfl ?_
          refine StD.takeP (i := 5) (v := (.int .i64 ((s12 : Nat) : Int))) rfl (fun _ => Yields.move rfl) rfl rfl trivial (by rintro _ _ _ ⟨_, _, _, _, h, _⟩; cases h) (by kernel_rfl) (listed' := #[true, true, true, true, true, true, false, false, false, false]) rfl ?_
          obtain ⟨x30, e31, hm⟩ := bS hm
          obtain ⟨p32, cs33, jx34, R35, k36⟩ := (Fsl.mono l17 ph1).nidx e31
          obtain ⟨A37, c38, rfl, h39⟩ := R35
          refine StD.takeP (i := 6) (v := (.pointer (some p32))) rfl (fun _ => Yields.idx jx34 ts22 rfl rfl) rfl rfl trivial (by rintro _ _ _ ⟨_, _, _, _, h, _⟩; cases h) (by kernel_rfl) (listed' := #[true, true, true, true, true, true, true, false, false, false]) rfl ?_
          refine StD.take [0, 1, 2, 4, 5, 6, 9] (i := 7) (v := (.slice A37 x30.length c38)) rfl (Yields.load rfl (Loads.Fat k36 tc26 rfl)) rfl rfl trivial Among.refl (by rintro _ _ _ ⟨_, _, _, _, h, _⟩; cases h) (by kernel_rfl) (listed' := #[true, true, true, true, true, true, true, true, false, false]) rfl ?_
          refine StD.only (i := 8) rfl (by kernel_rfl) (listed' := #[true, true, true, true, true, true, true, true, true, false]) rfl ?_
          intro hcl41
          obtain ⟨q42, e43, hm⟩ := bS hm
          refine St.call [] (m_ref01_SameInts_sp h28 h39 e43) rfl (fun _ ha => ev2 ha rfl rfl) rfl en29 rfl rfl trivial ?_
          rintro _ F44 _ ⟨rfl, rfl⟩ l45
          refine StD.next hcl41 (fun h => by cases h) ?_
          refine StD.takeP (i := 9) (v := (.bool (!q42))) rfl (fun _ => Yields.not rfl) rfl rfl trivial (by rintro _ _ _ ⟨_, _, _, _, h, _⟩; cases h) (by kernel_rfl) (listed' := #[true, true, true, true, true, true, true, true, true, true]) rfl ?_
          refine StD.done (by kernel_rfl) ?_
          refine St.norm ?_
          refine St.cond_b rfl ?_ ?_
          · intro q46
            replace q46 : ¬ (q42 = true) := nb_t q46
            replace hm := iF hm q46
            refine St.seq ?_
            refine St.region ?_
            refine St.val (v := (.bool false)) (Yields.assign rfl) trivial rfl rfl ?_
            refine St.nil ?_
            refine St.norm ?_
            refine St.ret ?_
            refine St.inret ?_
            refine St.thenret ?_
            refine St.thenret ?_
            refine St.inret ?_
            refine St.thenret ?_
            obtain rfl := sI hm
            obtain rfl := aR ho15
            obtain rfl := aR ho9
            exact St.doneR1 rfl rfl ⟨rfl, rfl⟩ (fun w hs => Among.of Among.none w hs)
          · intro q47
            replace q47 : q42 = true := nb_f q47
            replace hm := iT hm q47
            refine St.skip ?_
            refine St.innorm ?_
            refine St.norm ?_
            refine St.region ?_
            refine St.val (v := (.int .i64 ((s12 : Nat) : Int))) (Yields.move rfl) trivial rfl rfl ?_
            refine St.val (v := (.int .i64 ((s12 + 1 : Nat) : Int))) (Yields.addn (j := 1) rfl rfl rfl (by have q_0 := q18; have q_1 := ph0.bnd.2; omega)) trivial rfl rfl ?_
            refine St.val (v := (.int .i64 ((s12 + 1 : Nat) : Int))) (Yields.assign rfl) trivial rfl rfl ?_
            refine St.nil ?_
            refine St.norm ?_
            obtain rfl := sI hm
            intro a w ha hs
            exact ⟨s12 + 1, aL ho15, F44, (PH.le_trans l17 l45), ha.covers ⟨rfl, rfl, rfl, trivial⟩, (Among.of Among.none _ hs)⟩
        · intro q48
          replace q48 : ¬ (((s12 : Nat) : Int) < ((a0.length : Nat) : Int)) := of_decide_eq_false q48
          replace hm := iF hm q48
          refine St.exit ?_
          refine St.thenexit ?_
          refine St.thenexit ?_
          refine St.inexit ?_
          obtain rfl := sI hm
          obtain rfl := aR ho15
          intro a w ha hs
          exact ⟨(), rfl, F16, l17, ha.covers trivial, (Among.of Among.none _ hs)⟩
    · rintro a w ⟨z5, rfl, F6, l7, ha, hs⟩
      replace hm := aL ho9
      refine St.use (?_ : St _ _ _ _ _ _) ha hs
      clear ha hs a w
      refine St.seq ?_
      refine St.region ?_
      refine St.val (v := (.bool true)) (Yields.assign rfl) trivial rfl rfl ?_
      refine St.nil ?_
      refine St.norm ?_
      refine St.ret ?_
      obtain rfl := sI hm
      exact St.doneR1 rfl rfl ⟨rfl, rfl⟩ (fun w hs => Among.of Among.none w hs)

theorem m_law11_known_sp {F : PH} {g : Nat} {r : Bool} (hm : m_law11_known g = some r) :
    CallSp Try.prog 8 #[] F [] (fun u F' H' => u = (.bool r) ∧ H' = []) := by
  unfold m_law11_known at hm
  refine CallSp.enter (args := []) Try.func8 rfl rfl ?_
  intro w0 m0 hm0
  refine St.seq ?_
  refine St.region ?_
  refine St.val (v := (.bool false)) (Yields.assign rfl) trivial rfl rfl ?_
  refine St.nil ?_
  refine St.norm ?_
  refine St.seq ?_
  refine St.region ?_
  refine St.buildSlice (e := 3) (cells := #[.int .i64 1, .int .i64 2, .int .i64 3]) (vs := #[(0, .int .i64 1), (1, .int .i64 2), (2, .int .i64 3)]) (fun a _ => by simp only [List.map_toArray, List.map_cons, List.map_nil, Act.eval] <;> rfl) (fun _ => by kernel_rfl) rfl trivial ?_
  intro b1
  refine St.weak (R := []) (c' := rowo (some ⟨b1, 0, none⟩) ([1, 2, 3] : List Int).length 3 3 1 [.int .i64 1, .int .i64 2, .int .i64 3]) 0 rfl rfl (fun m hm => rowo_of_row (row_of_blk (k := 3) rfl (by decide) hm)) ?_
  refine St.buildSlice (e := 3) (cells := #[.int .i64 1, .int .i64 2, .int .i64 3]) (vs := #[(0, .int .i64 1), (1, .int .i64 2), (2, .int .i64 3)]) (fun a _ => by simp only [List.map_toArray, List.map_cons, List.map_nil, Act.eval] <;> rfl) (fun _ => by kernel_rfl) rfl trivial ?_
  intro b3
  refine St.weak (R := [rowo (some ⟨b1, 0, none⟩) ([1, 2, 3] : List Int).length 3 3 1 [.int .i64 1, .int .i64 2, .int .i64 3]]) (c' := rowo (some ⟨b3, 0, none⟩) ([1, 2, 3] : List Int).length 3 3 1 [.int .i64 1, .int .i64 2, .int .i64 3]) 0 rfl rfl (fun m hm => rowo_of_row (row_of_blk (k := 3) rfl (by decide) hm)) ?_
  refine St.frz 1 rfl rfl rfl (show Cat (Kind.int .i64) F [.int .i64 1, .int .i64 2, .int .i64 3] ([1, 2, 3] : List Int) from ⟨[.int .i64 1], _, rfl, rfl, ⟨[.int .i64 2], _, rfl, rfl, ⟨[.int .i64 3], _, rfl, rfl, rfl⟩⟩⟩) (show Bnd 8 ([1, 2, 3] : List Int) from ⟨by simp, by simp⟩) ?_
  intro F5 l6 h7
  refine St.frz 0 rfl rfl rfl (Cat.mono l6 (show Cat (Kind.int .i64) F [.int .i64 1, .int .i64 2, .int .i64 3] ([1, 2, 3] : List Int) from ⟨[.int .i64 1], _, rfl, rfl, ⟨[.int .i64 2], _, rfl, rfl, ⟨[.int .i64 3], _, rfl, rfl, rfl⟩⟩⟩)) (show Bnd 8 ([1, 2, 3] : List Int) from ⟨by simp, by simp⟩) ?_
  intro F8 l9 h10
  refine St.buildSlice (e := 26) (cells := #[.slice (some ⟨b1, 0, none⟩) ([1, 2, 3] : List Int).length 3, .slice (some ⟨b3, 0, none⟩) ([1, 2, 3] : List Int).length 3]) (vs := #[(0, .slice (some ⟨b1, 0, none⟩) ([1, 2, 3] : List Int).length 3), (1, .slice (some ⟨b3, 0, none⟩) ([1, 2, 3] : List Int).length 3)]) (fun _ ha => evp2 ha rfl rfl) (fun _ => by kernel_rfl) rfl trivial ?_
  intro b11
  refine St.weak (R := []) (c' := rowo (some ⟨b11, 0, none⟩) ([([1, 2, 3] : List Int), ([1, 2, 3] : List Int)] : List (List Int)).length 2 26 1 [.slice (some ⟨b1, 0, none⟩) ([1, 2, 3] : List Int).length 3, .slice (some ⟨b3, 0, none⟩) ([1, 2, 3] : List Int).length 3]) 0 rfl rfl (fun m hm => rowo_of_row (row_of_blk (k := 2) rfl (by decide) hm)) ?_
  refine St.buildSlice (e := 3) (cells := #[.int .i64 0, .int .i64 1]) (vs := #[(0, .int .i64 0), (1, .int .i64 1)]) (fun a _ => by simp only [List.map_toArray, List.map_cons, List.map_nil, Act.eval] <;> rfl) (fun _ => by kernel_rfl) rfl trivial ?_
  intro b13
  refine St.weak (R := [rowo (some ⟨b11, 0, none⟩) ([([1, 2, 3] : List Int), ([1, 2, 3] : List Int)] : List (List Int)).length 2 26 1 [.slice (some ⟨b1, 0, none⟩) ([1, 2, 3] : List Int).length 3, .slice (some ⟨b3, 0, none⟩) ([1, 2, 3] : List Int).length 3]]) (c' := rowo (some ⟨b13, 0, none⟩) ([0, 1] : List Int).length 2 3 1 [.int .i64 0, .int .i64 1]) 0 rfl rfl (fun m hm => rowo_of_row (row_of_blk (k := 2) rfl (by decide) hm)) ?_
  refine St.buildSlice (e := 3) (cells := #[.int .i64 1, .int .i64 1]) (vs := #[(0, .int .i64 1), (1, .int .i64 1)]) (fun a _ => by simp only [List.map_toArray, List.map_cons, List.map_nil, Act.eval] <;> rfl) (fun _ => by kernel_rfl) rfl trivial ?_
  intro b15
  refine St.weak (R := [rowo (some ⟨b13, 0, none⟩) ([0, 1] : List Int).length 2 3 1 [.int .i64 0, .int .i64 1], rowo (some ⟨b11, 0, none⟩) ([([1, 2, 3] : List Int), ([1, 2, 3] : List Int)] : List (List Int)).length 2 26 1 [.slice (some ⟨b1, 0, none⟩) ([1, 2, 3] : List Int).length 3, .slice (some ⟨b3, 0, none⟩) ([1, 2, 3] : List Int).length 3]]) (c' := rowo (some ⟨b15, 0, none⟩) ([1, 1] : List Int).length 2 3 1 [.int .i64 1, .int .i64 1]) 0 rfl rfl (fun m hm => rowo_of_row (row_of_blk (k := 2) rfl (by decide) hm)) ?_
  refine St.val (v := (.agg #[.int .i64 0, .slice (some ⟨b13, 0, none⟩) ([0, 1] : List Int).length 2, .slice (some ⟨b15, 0, none⟩) ([1, 1] : List Int).length 2, .int .i64 3, .slice none 0 0])) (Yields.build (v := (.agg #[.int .i64 0, .slice (some ⟨b13, 0, none⟩) ([0, 1] : List Int).length 2, .slice (some ⟨b15, 0, none⟩) ([1, 1] : List Int).length 2, .int .i64 3, .slice none 0 0])) (vs := #[(0, .int .i64 0), (1, .slice (some ⟨b13, 0, none⟩) ([0, 1] : List Int).length 2), (2, .slice (some ⟨b15, 0, none⟩) ([1, 1] : List Int).length 2), (3, .int .i64 3)]) (fun _ ha => evp4 ha rfl rfl rfl rfl) (fun _ => by kernel_rfl)) trivial rfl rfl ?_
  refine St.frz 1 rfl rfl rfl (show Cat (Kind.int .i64) F8 [.int .i64 0, .int .i64 1] ([0, 1] : List Int) from ⟨[.int .i64 0], _, rfl, rfl, ⟨[.int .i64 1], _, rfl, rfl, rfl⟩⟩) (show Bnd 8 ([0, 1] : List Int) from ⟨by simp, by simp⟩) ?_
  intro F17 l18 h19
  refine St.frz 0 rfl rfl rfl (Cat.mono l18 (show Cat (Kind.int .i64) F8 [.int .i64 1, .int .i64 1] ([1, 1] : List Int) from ⟨[.int .i64 1], _, rfl, rfl, ⟨[.int .i64 1], _, rfl, rfl, rfl⟩⟩)) (show Bnd 8 ([1, 1] : List Int) from ⟨by simp, by simp⟩) ?_
  intro F20 l21 h22
  refine St.buildSlice (e := 28) (cells := #[.int .i64 0, .slice (some ⟨b13, 0, none⟩) ([0, 1] : List Int).length 2, .slice (some ⟨b15, 0, none⟩) ([1, 1] : List Int).length 2, .int .i64 3, .slice none 0 0]) (vs := #[(0, .agg #[.int .i64 0, .slice (some ⟨b13, 0, none⟩) ([0, 1] : List Int).length 2, .slice (some ⟨b15, 0, none⟩) ([1, 1] : List Int).length 2, .int .i64 3, .slice none 0 0])]) (fun _ ha => evp1 ha rfl) (fun _ => by kernel_rfl) rfl trivial ?_
  intro b23
  refine St.weak (R := [rowo (some ⟨b11, 0, none⟩) ([([1, 2, 3] : List Int), ([1, 2, 3] : List Int)] : List (List Int)).length 2 26 1 [.slice (some ⟨b1, 0, none⟩) ([1, 2, 3] : List Int).length 3, .slice (some ⟨b3, 0, none⟩) ([1, 2, 3] : List Int).length 3]]) (c' := rowo (some ⟨b23, 0, none⟩) ([(DLimit.mk 0 ([0, 1] : List Int) ([1, 1] : List Int) 3 ([] : List (List Int)))] : List DLimit).length 1 28 5 [.int .i64 0, .slice (some ⟨b13, 0, none⟩) ([0, 1] : List Int).length 2, .slice (some ⟨b15, 0, none⟩) ([1, 1] : List Int).length 2, .int .i64 3, .slice none 0 0]) 0 rfl rfl (fun m hm => rowo_of_row (row_of_blk (k := 1) rfl (by decide) hm)) ?_
  refine St.val (v := (.agg #[.slice (some ⟨b11, 0, none⟩) ([([1, 2, 3] : List Int), ([1, 2, 3] : List Int)] : List (List Int)).length 2, .slice (some ⟨b23, 0, none⟩) ([(DLimit.mk 0 ([0, 1] : List Int) ([1, 1] : List Int) 3 ([] : List (List Int)))] : List DLimit).length 1])) (Yields.build (v := (.agg #[.slice (some ⟨b11, 0, none⟩) ([([1, 2, 3] : List Int), ([1, 2, 3] : List Int)] : List (List Int)).length 2, .slice (some ⟨b23, 0, none⟩) ([(DLimit.mk 0 ([0, 1] : List Int) ([1, 1] : List Int) 3 ([] : List (List Int)))] : List DLimit).length 1])) (vs := #[(0, .slice (some ⟨b11, 0, none⟩) ([([1, 2, 3] : List Int), ([1, 2, 3] : List Int)] : List (List Int)).length 2), (1, .slice (some ⟨b23, 0, none⟩) ([(DLimit.mk 0 ([0, 1] : List Int) ([1, 1] : List Int) 3 ([] : List (List Int)))] : List DLimit).length 1)]) (fun _ ha => evp2 ha rfl rfl) (fun _ => by kernel_rfl)) trivial rfl rfl ?_
  refine St.alloc tz25 trivial rfl ?_
  intro b25
  refine St.storen (R := [rowo (some ⟨b23, 0, none⟩) ([(DLimit.mk 0 ([0, 1] : List Int) ([1, 1] : List Int) 3 ([] : List (List Int)))] : List DLimit).length 1 28 5 [.int .i64 0, .slice (some ⟨b13, 0, none⟩) ([0, 1] : List Int).length 2, .slice (some ⟨b15, 0, none⟩) ([1, 1] : List Int).length 2, .int .i64 3, .slice none 0 0], rowo (some ⟨b11, 0, none⟩) ([([1, 2, 3] : List Int), ([1, 2, 3] : List Int)] : List (List Int)).length 2 26 1 [.slice (some ⟨b1, 0, none⟩) ([1, 2, 3] : List Int).length 3, .slice (some ⟨b3, 0, none⟩) ([1, 2, 3] : List Int).length 3]]) rfl rfl 0 rfl rfl ta25 rfl rfl rfl trivial (cs' := #[.slice (some ⟨b11, 0, none⟩) ([([1, 2, 3] : List Int), ([1, 2, 3] : List Int)] : List (List Int)).length 2, .slice (some ⟨b23, 0, none⟩) ([(DLimit.mk 0 ([0, 1] : List Int) ([1, 1] : List Int) 3 ([] : List (List Int)))] : List DLimit).length 1]) rfl ?_
  refine St.nil ?_
  refine St.norm ?_
  refine St.seq ?_
  refine St.region ?_
  refine St.val (v := (.agg #[.slice (some ⟨b11, 0, none⟩) ([([1, 2, 3] : List Int), ([1, 2, 3] : List Int)] : List (List Int)).length 2, .slice (some ⟨b23, 0, none⟩) ([(DLimit.mk 0 ([0, 1] : List Int) ([1, 1] : List Int) 3 ([] : List (List Int)))] : List DLimit).length 1])) (Yields.load rfl (Loads.Hk (vs := [.slice (some ⟨b11, 0, none⟩) ([([1, 2, 3] : List Int), ([1, 2, 3] : List Int)] : List (List Int)).length 2, .slice (some ⟨b23, 0, none⟩) ([(DLimit.mk 0 ([0, 1] : List Int) ([1, 1] : List Int) 3 ([] : List (List Int)))] : List DLimit).length 1]) 0 rfl ta25 rfl rfl)) trivial rfl rfl ?_
  refine St.frz 2 rfl rfl rfl (Cat.mono (PH.le_trans l18 l21) (show Cat (Kind.sl 8 (Kind.int .i64)) F8 [.slice (some ⟨b1, 0, none⟩) ([1, 2, 3] : List Int).length 3, .slice (some ⟨b3, 0, none⟩) ([1, 2, 3] : List Int).length 3] ([([1, 2, 3] : List Int), ([1, 2, 3] : List Int)] : List (List Int)) from ⟨[.slice (some ⟨b1, 0, none⟩) ([1, 2, 3] : List Int).length 3], _, rfl, ⟨_, _, rfl, (Fsl.mono l9 h7)⟩, ⟨[.slice (some ⟨b3, 0, none⟩) ([1, 2, 3] : List Int).length 3], _, rfl, ⟨_, _, rfl, h10⟩, rfl⟩⟩)) (show Bnd 24 ([([1, 2, 3] : List Int), ([1, 2, 3] : List Int)] : List (List Int)) from ⟨by simp, by simp⟩) ?_
  intro F26 l27 h28
  refine St.frz 1 rfl rfl rfl (Cat.mono l27 (show Cat KDLimit F20 [.int .i64 0, .slice (some ⟨b13, 0, none⟩) ([0, 1] : List Int).length 2, .slice (some ⟨b15, 0, none⟩) ([1, 1] : List Int).length 2, .int .i64 3, .slice none 0 0] ([(DLimit.mk 0 ([0, 1] : List Int) ([1, 1] : List Int) 3 ([] : List (List Int)))] : List DLimit) from ⟨[.int .i64 0, .slice (some ⟨b13, 0, none⟩) ([0, 1] : List Int).length 2, .slice (some ⟨b15, 0, none⟩) ([1, 1] : List Int).length 2, .int .i64 3, .slice none 0 0], _, rfl, (DLimit.shut (Fsl.mono l21 h19) h22 Fsl.nil), rfl⟩)) (show Bnd 88 ([(DLimit.mk 0 ([0, 1] : List Int) ([1, 1] : List Int) 3 ([] : List (List Int)))] : List DLimit) from ⟨by simp, by simp⟩) ?_
  intro F29 l30 h31
  obtain ⟨q32, e33, hm⟩ := bS hm
  refine St.call [blk b25 (.cells #[.slice (some ⟨b11, 0, none⟩) ([([1, 2, 3] : List Int), ([1, 2, 3] : List Int)] : List (List Int)).length 2, .slice (some ⟨b23, 0, none⟩) ([(DLimit.mk 0 ([0, 1] : List Int) ([1, 1] : List Int) 3 ([] : List (List Int)))] : List DLimit).length 1] 25 (0, 0))] (m_domain_Narrow_sp (a0 := (DProblem.mk ([([1, 2, 3] : List Int), ([1, 2, 3] : List Int)] : List (List Int)) ([(DLimit.mk 0 ([0, 1] : List Int) ([1, 1] : List Int) 3 ([] : List (List Int)))] : List DLimit))) (Fsl.mono l30 h28) h31 e33) rfl (fun _ ha => ev1 ha rfl) rfl en9 rfl rfl trivial ?_
  rintro _ F34 _ ⟨A36, c37, rfl, h38, rfl⟩ l35
  refine St.val (v := (.tuple #[.slice A36 q32.1.length c37, .bool q32.2.1, .int .i64 q32.2.2])) (Yields.move rfl) trivial rfl rfl ?_
  refine St.val (v := (.slice A36 q32.1.length c37)) (Yields.extract rfl rfl) trivial rfl rfl ?_
  refine St.val (v := (.bool q32.2.1)) (Yields.extract rfl rfl) trivial rfl rfl ?_
  refine St.val (v := (.int .i64 q32.2.2)) (Yields.extract rfl rfl) trivial rfl rfl ?_
  refine St.val (v := (.slice A36 q32.1.length c37)) (Yields.assign rfl) trivial rfl rfl ?_
  refine St.val (v := (.bool q32.2.1)) (Yields.assign rfl) trivial rfl rfl ?_
  refine St.val (v := (.int .i64 q32.2.2)) (Yields.assign rfl) trivial rfl rfl ?_
  refine St.nil ?_
  refine St.norm ?_
  obtain ⟨z40, hm, hk43⟩ := bS hm
  refine St.cutI (fun a w => ∃ (F41 : PH), PH.le F34 F41 ∧ Has Try.f8.ntmps a [(0, .bool z40)] ∧ Sat ⟨w0, fun b => m0 b ≠ none, F⟩ F41 [] w) ?_ ?_
  · skip
    refine St.region ?_
    refine St.val (v := (.int .i64 q32.2.2)) (Yields.move rfl) trivial rfl rfl ?_
    by_cases q44 : q32.2.2 = 0
    · replace hm := iT hm q44
      refine St.val (v := (.bool true)) (Yields.is q44 (Yields.eq rfl rfl)) trivial rfl rfl ?_
      refine St.val (v := (.bool true)) (Yields.move rfl) trivial rfl rfl ?_
      by_cases q45 : q32.2.1 = true
      · replace hm := iT hm q45
        have hb46 : (q32.2.1) = true := q45
        try rw [hb46]
        refine St.val (v := (.bool true)) (Yields.move rfl) rfl rfl rfl ?_
        refine St.val (v := (.bool true)) (Yields.pick_t rfl rfl) trivial rfl rfl ?_
        refine St.val (v := (.bool true)) (Yields.move rfl) trivial rfl rfl ?_
        refine St.val (v := (.slice A36 q32.1.length c37)) (Yields.move rfl) rfl rfl rfl ?_
        refine St.buildSlice (e := 3) (cells := #[.int .i64 1, .int .i64 2]) (vs := #[(0, .int .i64 1), (1, .int .i64 2)]) (fun a _ => by simp only [List.map_toArray, List.map_cons, List.map_nil, Act.eval] <;> rfl) (fun _ => by kernel_rfl) rfl rfl ?_
        intro b47
        refine St.weak (R := [blk b25 (.cells #[.slice (some ⟨b11, 0, none⟩) ([([1, 2, 3] : List Int), ([1, 2, 3] : List Int)] : List (List Int)).length 2, .slice (some ⟨b23, 0, none⟩) ([(DLimit.mk 0 ([0, 1] : List Int) ([1, 1] : List Int) 3 ([] : List (List Int)))] : List DLimit).length 1] 25 (0, 0))]) (c' := rowo (some ⟨b47, 0, none⟩) ([1, 2] : List Int).length 2 3 1 [.int .i64 1, .int .i64 2]) 0 rfl rfl (fun m hm => rowo_of_row (row_of_blk (k := 2) rfl (by decide) hm)) ?_
        refine St.buildSlice (e := 3) (cells := #[.int .i64 1, .int .i64 2]) (vs := #[(0, .int .i64 1), (1, .int .i64 2)]) (fun a _ => by simp only [List.map_toArray, List.map_cons, List.map_nil, Act.eval] <;> rfl) (fun _ => by kernel_rfl) rfl rfl ?_
        intro b49
        refine St.weak (R := [rowo (some ⟨b47, 0, none⟩) ([1, 2] : List Int).length 2 3 1 [.int .i64 1, .int .i64 2], blk b25 (.cells #[.slice (some ⟨b11, 0, none⟩) ([([1, 2, 3] : List Int), ([1, 2, 3] : List Int)] : List (List Int)).length 2, .slice (some ⟨b23, 0, none⟩) ([(DLimit.mk 0 ([0, 1] : List Int) ([1, 1] : List Int) 3 ([] : List (List Int)))] : List DLimit).length 1] 25 (0, 0))]) (c' := rowo (some ⟨b49, 0, none⟩) ([1, 2] : List Int).length 2 3 1 [.int .i64 1, .int .i64 2]) 0 rfl rfl (fun m hm => rowo_of_row (row_of_blk (k := 2) rfl (by decide) hm)) ?_
        refine St.frz 1 rfl rfl rfl (show Cat (Kind.int .i64) F34 [.int .i64 1, .int .i64 2] ([1, 2] : List Int) from ⟨[.int .i64 1], _, rfl, rfl, ⟨[.int .i64 2], _, rfl, rfl, rfl⟩⟩) (show Bnd 8 ([1, 2] : List Int) from ⟨by simp, by simp⟩) ?_
        intro F51 l52 h53
        refine St.frz 0 rfl rfl rfl (Cat.mono l52 (show Cat (Kind.int .i64) F34 [.int .i64 1, .int .i64 2] ([1, 2] : List Int) from ⟨[.int .i64 1], _, rfl, rfl, ⟨[.int .i64 2], _, rfl, rfl, rfl⟩⟩)) (show Bnd 8 ([1, 2] : List Int) from ⟨by simp, by simp⟩) ?_
        intro F54 l55 h56
        refine St.buildSlice (e := 26) (cells := #[.slice (some ⟨b47, 0, none⟩) ([1, 2] : List Int).length 2, .slice (some ⟨b49, 0, none⟩) ([1, 2] : List Int).length 2]) (vs := #[(0, .slice (some ⟨b47, 0, none⟩) ([1, 2] : List Int).length 2), (1, .slice (some ⟨b49, 0, none⟩) ([1, 2] : List Int).length 2)]) (fun _ ha => evp2 ha rfl rfl) (fun _ => by kernel_rfl) rfl rfl ?_
        intro b57
        refine St.weak (R := [blk b25 (.cells #[.slice (some ⟨b11, 0, none⟩) ([([1, 2, 3] : List Int), ([1, 2, 3] : List Int)] : List (List Int)).length 2, .slice (some ⟨b23, 0, none⟩) ([(DLimit.mk 0 ([0, 1] : List Int) ([1, 1] : List Int) 3 ([] : List (List Int)))] : List DLimit).length 1] 25 (0, 0))]) (c' := rowo (some ⟨b57, 0, none⟩) ([([1, 2] : List Int), ([1, 2] : List Int)] : List (List Int)).length 2 26 1 [.slice (some ⟨b47, 0, none⟩) ([1, 2] : List Int).length 2, .slice (some ⟨b49, 0, none⟩) ([1, 2] : List Int).length 2]) 0 rfl rfl (fun m hm => rowo_of_row (row_of_blk (k := 2) rfl (by decide) hm)) ?_
        refine St.pick (R := [blk b25 (.cells #[.slice (some ⟨b11, 0, none⟩) ([([1, 2, 3] : List Int), ([1, 2, 3] : List Int)] : List (List Int)).length 2, .slice (some ⟨b23, 0, none⟩) ([(DLimit.mk 0 ([0, 1] : List Int) ([1, 1] : List Int) 3 ([] : List (List Int)))] : List DLimit).length 1] 25 (0, 0))]) 0 rfl rfl ?_
        obtain ⟨q59, e60, hm⟩ := bS hm
        refine St.call [blk b25 (.cells #[.slice (some ⟨b11, 0, none⟩) ([([1, 2, 3] : List Int), ([1, 2, 3] : List Int)] : List (List Int)).length 2, .slice (some ⟨b23, 0, none⟩) ([(DLimit.mk 0 ([0, 1] : List Int) ([1, 1] : List Int) 3 ([] : List (List Int)))] : List DLimit).length 1] 25 (0, 0))] (CallSp.lend (Hl := [rowo (some ⟨b57, 0, none⟩) ([([1, 2] : List Int), ([1, 2] : List Int)] : List (List Int)).length 2 26 1 [.slice (some ⟨b47, 0, none⟩) ([1, 2] : List Int).length 2, .slice (some ⟨b49, 0, none⟩) ([1, 2] : List Int).length 2]]) (fun m_ hm_ hd_ h1_ h2_ => (m_ref01_SameRows_sp (Fsl.mono h1_ (Fsl.mono (PH.le_trans l52 l55) h38)) (lentR hm_ 0 rfl rfl (show Cat (Kind.sl 8 (Kind.int .i64)) F54 [.slice (some ⟨b47, 0, none⟩) ([1, 2] : List Int).length 2, .slice (some ⟨b49, 0, none⟩) ([1, 2] : List Int).length 2] ([([1, 2] : List Int), ([1, 2] : List Int)] : List (List Int)) from ⟨[.slice (some ⟨b47, 0, none⟩) ([1, 2] : List Int).length 2], _, rfl, ⟨_, _, rfl, (Fsl.mono l55 h53)⟩, ⟨[.slice (some ⟨b49, 0, none⟩) ([1, 2] : List Int).length 2], _, rfl, ⟨_, _, rfl, h56⟩, rfl⟩⟩) (show Bnd 24 ([([1, 2] : List Int), ([1, 2] : List Int)] : List (List Int)) from ⟨by simp, by simp⟩) h1_ h2_) e60).mono (fun _ _ _ h_ _ _ => h_))) rfl (fun _ ha => ev2 ha rfl rfl) rfl en10 rfl rfl rfl ?_
        rintro _ F61 _ ⟨_, rfl, rfl, rfl⟩ l62
        refine St.val (v := (.bool q59)) (Yields.pick_t rfl rfl) trivial rfl rfl ?_
        refine St.val (v := (.bool q59)) (Yields.assign rfl) trivial rfl rfl ?_
        refine St.nil ?_
        obtain rfl := sI hm
        intro a w ha hs
        exact ⟨F61, (PH.le_trans l52 (PH.le_trans l55 l62)), ha.covers ⟨rfl, trivial⟩, (Among.of Among.none _ hs)⟩
      · replace hm := iF hm q45
        have hb63 : (q32.2.1) = false := eq_false_of_ne_true q45
        try rw [hb63]
        refine St.val (v := (.bool false)) (Yields.move rfl) rfl rfl rfl ?_
        refine St.val (v := (.bool false)) (Yields.pick_t rfl rfl) trivial rfl rfl ?_
        refine St.val (v := (.bool false)) (Yields.move rfl) trivial rfl rfl ?_
        refine St.unwanted rfl rfl rfl ?_
        refine St.unwanted rfl rfl rfl ?_
        refine St.unwanted rfl rfl rfl ?_
        refine St.unwanted rfl rfl rfl ?_
        refine St.unwanted rfl rfl rfl ?_
        refine St.val (v := (.bool false)) (Yields.pick_f rfl rfl) trivial rfl rfl ?_
        refine St.val (v := (.bool false)) (Yields.assign rfl) trivial rfl rfl ?_
        refine St.nil ?_
        obtain rfl := sI hm
        intro a w ha hs
        exact ⟨F34, (PH.le_refl _), ha.covers ⟨rfl, trivial⟩, (Among.of Among.none _ hs)⟩
    · replace hm := iF hm q44
      refine St.val (v := (.bool false)) (Yields.isnt q44 (Yields.eq rfl rfl)) trivial rfl rfl ?_
      refine St.val (v := (.bool false)) (Yields.move rfl) trivial rfl rfl ?_
      refine St.unwanted rfl rfl rfl ?_
      refine St.val (v := (.bool false)) (Yields.pick_f rfl rfl) trivial rfl rfl ?_
      refine St.val (v := (.bool false)) (Yields.move rfl) trivial rfl rfl ?_
      refine St.unwanted rfl rfl rfl ?_
      refine St.unwanted rfl rfl rfl ?_
      refine St.unwanted rfl rfl rfl ?_
      refine St.unwanted rfl rfl rfl ?_
      refine St.unwanted rfl rfl rfl ?_
      refine St.val (v := (.bool false)) (Yields.pick_f rfl rfl) trivial rfl rfl ?_
      refine St.val (v := (.bool false)) (Yields.assign rfl) trivial rfl rfl ?_
      refine St.nil ?_
      obtain rfl := sI hm
      intro a w ha hs
      exact ⟨F34, (PH.le_refl _), ha.covers ⟨rfl, trivial⟩, (Among.of Among.none _ hs)⟩
  · rintro a w ⟨F41, l42, ha, hs⟩
    replace hm := hk43
    refine St.use (?_ : St _ _ _ _ _ _) ha hs
    clear ha hs a w
    refine St.ret ?_
    obtain rfl := sI hm
    exact St.doneR1 rfl rfl ⟨rfl, rfl⟩ (fun w hs => Among.of Among.none w hs)

theorem m_law11_in_sp {F : PH} {g : Nat} {a0 : List Int} {a1 : Int} {pA0 : Option Addr} {pc0 : Nat} (ph0 : Fsl 8 (Kind.int .i64) F pA0 pc0 a0) {r : Bool} (hm : m_law11_in g a0 a1 = some r) :
    CallSp Try.prog 11 #[.slice pA0 a0.length pc0, .int .i64 a1] F [] (fun u F' H' => u = (.bool r) ∧ H' = []) := by
  unfold m_law11_in at hm
  refine CallSp.enter (args := [.slice pA0 a0.length pc0, .int .i64 a1]) Try.func11 rfl rfl ?_
  intro w0 m0 hm0
  refine St.seq ?_
  refine St.region ?_
  refine St.val (v := (.bool false)) (Yields.assign rfl) trivial rfl rfl ?_
  refine St.nil ?_
  refine St.norm ?_
  obtain ⟨o3, hm, ho4⟩ := jS hm
  refine St.cutI (fun a w => ∃ z2 : Unit, o3 = .inl z2 ∧ Has Try.f11.ntmps a [] ∧ Sat ⟨w0, fun b => m0 b ≠ none, F⟩ F [] w) ?_ ?_
  · skip
    refine St.seq ?_
    refine St.region ?_
    refine St.val (v := (.int .i64 0)) (Yields.assign rfl) trivial rfl rfl ?_
    refine St.nil ?_
    refine St.norm ?_
    refine St.block ?_
    refine St.loopM hm (fun s6 a w => Has Try.f11.ntmps a [(0, .slice pA0 a0.length pc0), (1, .int .i64 a1), (5, .int .i64 ((s6 : Nat) : Int))] ∧ Sat ⟨w0, fun b => m0 b ≠ none, F⟩ F [] w) ?_ ?_
    · skip
      intro a w ha hs
      exact ⟨ha.covers ⟨rfl, rfl, rfl, trivial⟩, (Among.of Among.none _ hs)⟩
    · rintro s6 o7 co8 hm ho9 a w ⟨ha, hs⟩
      refine St.use (?_ : St _ _ _ _ _ _) ha hs
      clear ha hs a w
      refine St.seq ?_
      refine St.seq ?_
      refine St.region ?_
      refine St.val (v := (.int .i64 ((s6 : Nat) : Int))) (Yields.move rfl) trivial rfl rfl ?_
      refine St.val (v := (.slice pA0 a0.length pc0)) (Yields.move rfl) trivial rfl rfl ?_
      refine St.val (v := (.int .i64 ((a0.length : Nat) : Int))) (Yields.lenSlice tu26 rfl) trivial rfl rfl ?_
      refine St.val (v := (.bool (decide (((s6 : Nat) : Int) < ((a0.length : Nat) : Int))))) (Yields.lt rfl rfl) trivial rfl rfl ?_
      refine St.nil ?_
      refine St.norm ?_
      refine St.cond_b rfl ?_ ?_
      · intro q10
        replace q10 : ((s6 : Nat) : Int) < ((a0.length : Nat) : Int) := of_decide_eq_true q10
        replace hm := iT hm q10
        refine St.skip ?_
        refine St.norm ?_
        refine St.seq ?_
        refine St.block ?_
        refine St.seq ?_
        refine St.region ?_
        refine St.val (v := (.slice pA0 a0.length pc0)) (Yields.move rfl) trivial rfl rfl ?_
        refine St.val (v := (.int .i64 ((s6 : Nat) : Int))) (Yields.move rfl) trivial rfl rfl ?_
        obtain ⟨x11, e12, hm⟩ := bS hm
        obtain ⟨p13, cs14, jx15, R16, k17⟩ := ph0.nidx e12
        obtain rfl := R16
        refine St.val (v := (.pointer (some p13))) (Yields.idx jx15 ts26 rfl rfl) trivial rfl rfl ?_
        refine St.val (v := (.int .i64 x11)) (Yields.load rfl (Loads.Fat k17 tc3 rfl)) trivial rfl rfl ?_
        refine St.val (v := (.int .i64 a1)) (Yields.move rfl) trivial rfl rfl ?_
        refine St.val (v := (.bool (decide (x11 = a1)))) (Yields.eq rfl rfl) trivial rfl rfl ?_
        refine St.nil ?_
        refine St.norm ?_
        refine St.cond_b rfl ?_ ?_
        · intro q18
          replace q18 : x11 = a1 := of_decide_eq_true q18
          replace hm := iT hm q18
          refine St.seq ?_
          refine St.region ?_
          refine St.val (v := (.bool true)) (Yields.assign rfl) trivial rfl rfl ?_
          refine St.nil ?_
          refine St.norm ?_
          refine St.ret ?_
          refine St.inret ?_
          refine St.thenret ?_
          refine St.thenret ?_
          refine St.inret ?_
          refine St.thenret ?_
          obtain rfl := sI hm
          obtain rfl := aR ho9
          obtain rfl := aR ho4
          exact St.doneR1 rfl rfl ⟨rfl, rfl⟩ (fun w hs => Among.of Among.none w hs)
        · intro q19
          replace q19 : ¬ (x11 = a1) := of_decide_eq_false q19
          replace hm := iF hm q19
          refine St.skip ?_
          refine St.innorm ?_
          refine St.norm ?_
          refine St.region ?_
          refine St.val (v := (.int .i64 ((s6 : Nat) : Int))) (Yields.move rfl) trivial rfl rfl ?_
          refine St.val (v := (.int .i64 ((s6 + 1 : Nat) : Int))) (Yields.addn (j := 1) rfl rfl rfl (by have q_0 := q10; have q_1 := ph0.bnd.2; omega)) trivial rfl rfl ?_
          refine St.val (v := (.int .i64 ((s6 + 1 : Nat) : Int))) (Yields.assign rfl) trivial rfl rfl ?_
          refine St.nil ?_
          refine St.norm ?_
          obtain rfl := sI hm
          intro a w ha hs
          exact ⟨s6 + 1, aL ho9, ha.covers ⟨rfl, rfl, rfl, trivial⟩, (Among.of Among.none _ hs)⟩
      · intro q20
        replace q20 : ¬ (((s6 : Nat) : Int) < ((a0.length : Nat) : Int)) := of_decide_eq_false q20
        replace hm := iF hm q20
        refine St.exit ?_
        refine St.thenexit ?_
        refine St.thenexit ?_
        refine St.inexit ?_
        obtain rfl := sI hm
        obtain rfl := aR ho9
        intro a w ha hs
        exact ⟨(), rfl, ha.covers trivial, (Among.of Among.none _ hs)⟩
  · rintro a w ⟨z2, rfl, ha, hs⟩
    replace hm := aL ho4
    refine St.use (?_ : St _ _ _ _ _ _) ha hs
    clear ha hs a w
    refine St.seq ?_
    refine St.region ?_
    refine St.val (v := (.bool false)) (Yields.assign rfl) trivial rfl rfl ?_
    refine St.nil ?_
    refine St.norm ?_
    refine St.ret ?_
    obtain rfl := sI hm
    exact St.doneR1 rfl rfl ⟨rfl, rfl⟩ (fun w hs => Among.of Among.none w hs)

theorem m_law11_DomainLess_sp {F : PH} {g : Nat} {a0 : DProblem} {a1 : DLimit} {pA0_0 : Option Addr} {pc0_0 : Nat} {pA0_1 : Option Addr} {pc0_1 : Nat} {pA1_0 : Option Addr} {pc1_0 : Nat} {pA1_1 : Option Addr} {pc1_1 : Nat} {pA1_2 : Option Addr} {pc1_2 : Nat} (ph0_0 : Fsl 24 (Kind.sl 8 (Kind.int .i64)) F pA0_0 pc0_0 a0.Doms) (ph0_1 : Fsl 88 KDLimit F pA0_1 pc0_1 a0.Limits) (ph1_0 : Fsl 8 (Kind.int .i64) F pA1_0 pc1_0 a1.Vars) (ph1_1 : Fsl 8 (Kind.int .i64) F pA1_1 pc1_1 a1.A) (ph1_2 : Fsl 24 (Kind.sl 8 (Kind.int .i64)) F pA1_2 pc1_2 a1.Rows) {r : Bool} (hm : m_law11_DomainLess g a0 a1 = some r) :
    CallSp Try.prog 3 #[.agg #[.slice pA0_0 a0.Doms.length pc0_0, .slice pA0_1 a0.Limits.length pc0_1], .agg #[.int .i64 a1.Kind, .slice pA1_0 a1.Vars.length pc1_0, .slice pA1_1 a1.A.length pc1_1, .int .i64 a1.B, .slice pA1_2 a1.Rows.length pc1_2]] F [] (fun u F' H' => u = (.bool r) ∧ H' = []) := by
  unfold m_law11_DomainLess at hm
  refine CallSp.enter (args := [.agg #[.slice pA0_0 a0.Doms.length pc0_0, .slice pA0_1 a0.Limits.length pc0_1], .agg #[.int .i64 a1.Kind, .slice pA1_0 a1.Vars.length pc1_0, .slice pA1_1 a1.A.length pc1_1, .int .i64 a1.B, .slice pA1_2 a1.Rows.length pc1_2]]) Try.func3 rfl rfl ?_
  intro w0 m0 hm0
  refine St.seq ?_
  refine St.region ?_
  refine St.box rfl trivial rfl ?_
  intro b6
  refine St.box rfl trivial rfl ?_
  intro b7
  refine St.val (v := (.bool false)) (Yields.assign rfl) trivial rfl rfl ?_
  refine St.nil ?_
  refine St.norm ?_
  refine St.seq ?_
  refine St.region ?_
  refine St.val (v := (.pointer (some ⟨b6, 0, none⟩))) (Yields.fieldAddr (v := (.pointer (some ⟨b6, 0, none⟩))) rfl (fun _ => by kernel_rfl)) trivial rfl rfl ?_
  refine St.val (v := (.slice pA0_0 a0.Doms.length pc0_0)) (Yields.load rfl (Loads.H1 1 rfl tc22 rfl)) trivial rfl rfl ?_
  refine St.val (v := (.agg #[.slice pA0_0 a0.Doms.length pc0_0, .slice none 0 0])) (Yields.build (v := (.agg #[.slice pA0_0 a0.Doms.length pc0_0, .slice none 0 0])) (vs := #[(0, .slice pA0_0 a0.Doms.length pc0_0)]) (fun _ ha => evp1 ha rfl) (fun _ => by kernel_rfl)) trivial rfl rfl ?_
  refine St.alloc tz25 trivial rfl ?_
  intro b8
  refine St.storen (R := [blk b7 (.cells #[.int .i64 a1.Kind, .slice pA1_0 a1.Vars.length pc1_0, .slice pA1_1 a1.A.length pc1_1, .int .i64 a1.B, .slice pA1_2 a1.Rows.length pc1_2] 28 (0, 0)), blk b6 (.cells #[.slice pA0_0 a0.Doms.length pc0_0, .slice pA0_1 a0.Limits.length pc0_1] 25 (0, 0))]) rfl rfl 0 rfl rfl ta25 rfl rfl rfl trivial (cs' := #[.slice pA0_0 a0.Doms.length pc0_0, .slice none 0 0]) rfl ?_
  refine St.nil ?_
  refine St.norm ?_
  refine St.seq ?_
  refine St.region ?_
  refine St.val (v := (.pointer (some ⟨b8, 1, none⟩))) (Yields.fieldAddr (v := (.pointer (some ⟨b8, 1, none⟩))) rfl (fun _ => by kernel_rfl)) trivial rfl rfl ?_
  refine St.val (v := (.slice none 0 0)) (Yields.load rfl (Loads.H1 0 rfl tc23 rfl)) trivial rfl rfl ?_
  refine St.val (v := (.agg #[.int .i64 a1.Kind, .slice pA1_0 a1.Vars.length pc1_0, .slice pA1_1 a1.A.length pc1_1, .int .i64 a1.B, .slice pA1_2 a1.Rows.length pc1_2])) (Yields.load rfl (Loads.Hk (vs := [.int .i64 a1.Kind, .slice pA1_0 a1.Vars.length pc1_0, .slice pA1_1 a1.A.length pc1_1, .int .i64 a1.B, .slice pA1_2 a1.Rows.length pc1_2]) 1 rfl ta28 rfl rfl)) trivial rfl rfl ?_
  refine St.buildSlice (e := 28) (cells := #[.int .i64 a1.Kind, .slice pA1_0 a1.Vars.length pc1_0, .slice pA1_1 a1.A.length pc1_1, .int .i64 a1.B, .slice pA1_2 a1.Rows.length pc1_2]) (vs := #[(0, .agg #[.int .i64 a1.Kind, .slice pA1_0 a1.Vars.length pc1_0, .slice pA1_1 a1.A.length pc1_1, .int .i64 a1.B, .slice pA1_2 a1.Rows.length pc1_2])]) (fun _ ha => evp1 ha rfl) (fun _ => by kernel_rfl) rfl trivial ?_
  intro b9
  refine St.rowo_new 28 5 ?_
  obtain ⟨x15, e16, hm⟩ := bS hm
  refine St.pushL (R := [blk b9 (.cells #[.int .i64 a1.Kind, .slice pA1_0 a1.Vars.length pc1_0, .slice pA1_1 a1.A.length pc1_1, .int .i64 a1.B, .slice pA1_2 a1.Rows.length pc1_2] 28 (0, 0)), blk b8 (.cells #[.slice pA0_0 a0.Doms.length pc0_0, .slice none 0 0] 25 (0, 0)), blk b7 (.cells #[.int .i64 a1.Kind, .slice pA1_0 a1.Vars.length pc1_0, .slice pA1_1 a1.A.length pc1_1, .int .i64 a1.B, .slice pA1_2 a1.Rows.length pc1_2] 28 (0, 0)), blk b6 (.cells #[.slice pA0_0 a0.Doms.length pc0_0, .slice pA0_1 a0.Limits.length pc0_1] 25 (0, 0))]) (R3 := [blk b8 (.cells #[.slice pA0_0 a0.Doms.length pc0_0, .slice none 0 0] 25 (0, 0)), blk b7 (.cells #[.int .i64 a1.Kind, .slice pA1_0 a1.Vars.length pc1_0, .slice pA1_1 a1.A.length pc1_1, .int .i64 a1.B, .slice pA1_2 a1.Rows.length pc1_2] 28 (0, 0)), blk b6 (.cells #[.slice pA0_0 a0.Doms.length pc0_0, .slice pA0_1 a0.Limits.length pc0_1] 25 (0, 0))]) e16 ts23 rfl rfl rfl rfl rfl 0 rfl rfl 1 rfl 0 rfl rfl (show Cat KDLimit _ [] [] from rfl) ⟨[.int .i64 a1.Kind, .slice pA1_0 a1.Vars.length pc1_0, .slice pA1_1 a1.A.length pc1_1, .int .i64 a1.B, .slice pA1_2 a1.Rows.length pc1_2], _, rfl, (DLimit.of ph1_0 ph1_1 ph1_2), rfl⟩ rfl trivial ?_
  intro A11 c12 cells13 h14
  refine St.val (v := (.pointer (some ⟨b8, 1, none⟩))) (Yields.fieldAddr (v := (.pointer (some ⟨b8, 1, none⟩))) rfl (fun _ => by kernel_rfl)) trivial rfl rfl ?_
  refine St.store (R := [rowo A11 x15.length c12 28 5 cells13, blk b7 (.cells #[.int .i64 a1.Kind, .slice pA1_0 a1.Vars.length pc1_0, .slice pA1_1 a1.A.length pc1_1, .int .i64 a1.B, .slice pA1_2 a1.Rows.length pc1_2] 28 (0, 0)), blk b6 (.cells #[.slice pA0_0 a0.Doms.length pc0_0, .slice pA0_1 a0.Limits.length pc0_1] 25 (0, 0))]) rfl rfl 1 rfl rfl tc23 rfl rfl trivial (cs' := #[.slice pA0_0 a0.Doms.length pc0_0, .slice A11 x15.length c12]) rfl ?_
  refine St.nil ?_
  refine St.norm ?_
  obtain ⟨z18, hm, hk25⟩ := bS hm
  refine St.cutI (fun a w => ∃ (A20 : Option Addr) (c21 : Nat) (cells23 : List Value), Cat KDLimit F cells23 z18 ∧ Bnd 88 z18 ∧ Has Try.f3.ntmps a [(2, .pointer (some ⟨b6, 0, none⟩)), (5, .pointer (some ⟨b8, 0, none⟩))] ∧ Sat ⟨w0, fun b => m0 b ≠ none, F⟩ F [blk b6 (.cells #[.slice pA0_0 a0.Doms.length pc0_0, .slice pA0_1 a0.Limits.length pc0_1] 25 (0, 0)), blk b8 (.cells #[.slice pA0_0 a0.Doms.length pc0_0, .slice A20 z18.length c21] 25 (0, 0)), rowo A20 z18.length c21 28 5 cells23] w) ?_ ?_
  · skip
    refine St.seq ?_
    refine St.region ?_
    refine St.val (v := (.pointer (some ⟨b6, 1, none⟩))) (Yields.fieldAddr (v := (.pointer (some ⟨b6, 1, none⟩))) rfl (fun _ => by kernel_rfl)) trivial rfl rfl ?_
    refine St.val (v := (.slice pA0_1 a0.Limits.length pc0_1)) (Yields.load rfl (Loads.H1 3 rfl tc23 rfl)) trivial rfl rfl ?_
    refine St.val (v := (.int .i64 ((a0.Limits.length : Nat) : Int))) (Yields.lenSlice tu23 rfl) trivial rfl rfl ?_
    refine St.val (v := (.int .i64 (((a0.Limits.length : Nat) : Int) - 1))) (Yields.sub rfl rfl (by have q_0 := ph0_1.bnd.2; omega) (by have q_0 := ph0_1.bnd.2; omega)) trivial rfl rfl ?_
    refine St.val (v := (.int .i64 (((a0.Limits.length : Nat) : Int) - 1))) (Yields.assign rfl) trivial rfl rfl ?_
    refine St.nil ?_
    refine St.norm ?_
    refine St.block ?_
    refine St.loopM hm (fun s34 a w => ∃ (A39 : Option Addr) (c40 : Nat) (cells42 : List Value), Cat KDLimit F cells42 s34.1 ∧ Bnd 88 s34.1 ∧ Has Try.f3.ntmps a [(2, .pointer (some ⟨b6, 0, none⟩)), (5, .pointer (some ⟨b8, 0, none⟩)), (6, .int .i64 s34.2)] ∧ Sat ⟨w0, fun b => m0 b ≠ none, F⟩ F [blk b6 (.cells #[.slice pA0_0 a0.Doms.length pc0_0, .slice pA0_1 a0.Limits.length pc0_1] 25 (0, 0)), blk b8 (.cells #[.slice pA0_0 a0.Doms.length pc0_0, .slice A39 s34.1.length c40] 25 (0, 0)), rowo A39 s34.1.length c40 28 5 cells42] w) ?_ ?_
    · skip
      intro a w ha hs
      exact ⟨A11, c12, cells13, h14, (Bnd.of_push e16), ha.covers ⟨rfl, rfl, rfl, trivial⟩, (Among.of (Among.take 3 rfl rfl (Among.take 0 rfl rfl (Among.take 0 rfl rfl Among.none))) _ hs)⟩
    · rintro s34 o35 co36 hm ho37 a w ⟨A39, c40, cells42, h41, b43, ha, hs⟩
      refine St.use (?_ : St _ _ _ _ _ _) ha hs
      clear ha hs a w
      refine St.seq ?_
      refine St.seq ?_
      refine St.region ?_
      refine St.val (v := (.int .i64 s34.2)) (Yields.move rfl) trivial rfl rfl ?_
      refine St.val (v := (.bool (decide (s34.2 ≥ 0)))) (Yields.ge rfl rfl) trivial rfl rfl ?_
      refine St.nil ?_
      refine St.norm ?_
      refine St.cond_b rfl ?_ ?_
      · intro q44
        replace q44 : s34.2 ≥ 0 := of_decide_eq_true q44
        replace hm := iT hm q44
        refine St.skip ?_
        refine St.norm ?_
        refine St.seq ?_
        refine St.block ?_
        refine StD.start [8, 10] [blk b6 (.cells #[.slice pA0_0 a0.Doms.length pc0_0, .slice pA0_1 a0.Limits.length pc0_1] 25 (0, 0)), blk b8 (.cells #[.slice pA0_0 a0.Doms.length pc0_0, .slice A39 s34.1.length c40] 25 (0, 0)), rowo A39 s34.1.length c40 28 5 cells42] hmix ?_
        refine StD.takeP (i := 0) (v := (.pointer (some ⟨b8, 1, none⟩))) rfl (fun _ => Yields.fieldAddr (v := (.pointer (some ⟨b8, 1, none⟩))) rfl (fun _ => by kernel_rfl)) rfl rfl trivial (by rintro _ _ _ ⟨_, _, _, _, h, _⟩; cases h) (by kernel_rfl) (listed' := #[true, false, false, false, false, false, false, false, false, false, false]) rfl ?_
        refine StD.take [0, 2, 4, 5, 9] (i := 1) (v := (.slice A39 s34.1.length c40)) rfl (Yields.load rfl (Loads.H1 1 rfl tc23 rfl)) rfl rfl trivial Among.refl (by rintro _ _ _ ⟨_, _, _, _, h, _⟩; cases h) (by kernel_rfl) (listed' := #[true, true, false, false, false, false, false, false, false, false, false]) rfl ?_
        refine StD.takeP (i := 2) (v := (.pointer (some ⟨b6, 1, none⟩))) rfl (fun _ => Yields.fieldAddr (v := (.pointer (some ⟨b6, 1, none⟩))) rfl (fun _ => by kernel_rfl)) rfl rfl trivial (by rintro _ _ _ ⟨_, _, _, _, h, _⟩; cases h) (by kernel_rfl) (listed' := #[true, true, true, false, false, false, false, false, false, false, false]) rfl ?_
        refine StD.take [0, 2, 4, 5, 9] (i := 3) (v := (.slice pA0_1 a0.Limits.length pc0_1)) rfl (Yields.load rfl (Loads.H1 0 rfl tc23 rfl)) rfl rfl trivial Among.refl (by rintro _ _ _ ⟨_, _, _, _, h, _⟩; cases h) (by kernel_rfl) (listed' := #[true, true, true, true, false, false, false, false, false, false, false]) rfl ?_
        refine StD.takeP (i := 4) (v := (.int .i64 s34.2)) rfl (fun _ => Yields.move rfl) rfl rfl trivial (by rintro _ _ _ ⟨_, _, _, _, h, _⟩; cases h) (by kernel_rfl) (listed' := #[true, true, true, true, true, false, false, false, false, false, false]) rfl ?_
        obtain ⟨x45, e46, hm⟩ := bS hm
        obtain ⟨p47, cs48, jx49, R50, k51⟩ := ph0_1.idx e46
        obtain ⟨A52, c53, A55, c56, A58, c59, rfl, h54, h57, h60⟩ := DLimit.opn R50
        refine StD.takeP (i := 5) (v := (.pointer (some p47))) rfl (fun _ => Yields.idx jx49 ts23 rfl rfl) rfl rfl trivial (by rintro _ _ _ ⟨_, _, _, _, h, _⟩; cases h) (by kernel_rfl) (listed' := #[true, true, true, true, true, true, false, false, false, false, false]) rfl ?_
        refine StD.take [0, 2, 4, 5, 9] (i := 6) (v := (.agg #[.int .i64 x45.Kind, .slice A52 x45.Vars.length c53, .slice A55 x45.A.length c56, .int .i64 x45.B, .slice A58 x45.Rows.length c59])) rfl (Yields.load rfl (Loads.Fatn0 k51 ta28)) rfl rfl trivial Among.refl (by rintro _ _ _ ⟨_, _, _, _, h, _⟩; cases h) (by kernel_rfl) (listed' := #[true, true, true, true, true, true, true, false, false, false, false]) rfl ?_
        refine StD.only (i := 7) rfl (by kernel_rfl) (listed' := #[true, true, true, true, true, true, true, true, false, false, false]) rfl ?_
        intro hcl64
        refine St.buildSlice (e := 28) (cells := #[.int .i64 x45.Kind, .slice A52 x45.Vars.length c53, .slice A55 x45.A.length c56, .int .i64 x45.B, .slice A58 x45.Rows.length c59]) (vs := #[(0, .agg #[.int .i64 x45.Kind, .slice A52 x45.Vars.length c53, .slice A55 x45.A.length c56, .int .i64 x45.B, .slice A58 x45.Rows.length c59])]) (fun _ ha => evp1 ha rfl) (fun _ => by kernel_rfl) rfl trivial ?_
        intro b65
        refine StD.next hcl64 (fun _ => (Among.of (Among.take 1 rfl rfl (Among.take 1 rfl rfl (Among.take 1 rfl rfl Among.none))))) ?_
        refine StD.only (i := 8) rfl (by kernel_rfl) (listed' := #[true, true, true, true, true, true, true, true, true, false, false]) rfl ?_
        intro hcl66
        obtain ⟨x71, e72, hm⟩ := bS hm
        refine St.pushL (R := [blk b65 (.cells #[.int .i64 x45.Kind, .slice A52 x45.Vars.length c53, .slice A55 x45.A.length c56, .int .i64 x45.B, .slice A58 x45.Rows.length c59] 28 (0, 0)), blk b6 (.cells #[.slice pA0_0 a0.Doms.length pc0_0, .slice pA0_1 a0.Limits.length pc0_1] 25 (0, 0)), blk b8 (.cells #[.slice pA0_0 a0.Doms.length pc0_0, .slice A39 s34.1.length c40] 25 (0, 0))]) (R3 := [blk b6 (.cells #[.slice pA0_0 a0.Doms.length pc0_0, .slice pA0_1 a0.Limits.length pc0_1] 25 (0, 0)), blk b8 (.cells #[.slice pA0_0 a0.Doms.length pc0_0, .slice A39 s34.1.length c40] 25 (0, 0))]) e72 ts23 rfl rfl rfl rfl rfl 3 rfl rfl 0 rfl 0 rfl rfl h41 ⟨[.int .i64 x45.Kind, .slice A52 x45.Vars.length c53, .slice A55 x45.A.length c56, .int .i64 x45.B, .slice A58 x45.Rows.length c59], _, rfl, (DLimit.of h54 h57 h60), rfl⟩ rfl trivial ?_
        intro A67 c68 cells69 h70
        refine StD.next hcl66 (fun h => by cases h) ?_
        refine StD.takeP (i := 9) (v := (.pointer (some ⟨b8, 1, none⟩))) rfl (fun _ => Yields.fieldAddr (v := (.pointer (some ⟨b8, 1, none⟩))) rfl (fun _ => by kernel_rfl)) rfl rfl trivial (by rintro _ _ _ ⟨_, _, _, _, h, _⟩; cases h) (by kernel_rfl) (listed' := #[true, true, true, true, true, true, true, true, true, true, false]) rfl ?_
        refine StD.only (i := 10) rfl (by kernel_rfl) (listed' := #[true, true, true, true, true, true, true, true, true, true, true]) rfl ?_
        intro hcl74
        refine St.store (R := [rowo A67 x71.length c68 28 5 cells69, blk b6 (.cells #[.slice pA0_0 a0.Doms.length pc0_0, .slice pA0_1 a0.Limits.length pc0_1] 25 (0, 0))]) rfl rfl 2 rfl rfl tc23 rfl rfl trivial (cs' := #[.slice pA0_0 a0.Doms.length pc0_0, .slice A67 x71.length c68]) rfl ?_
        refine StD.next hcl74 (fun h => by cases h) ?_
        refine StD.done (by kernel_rfl) ?_
        refine St.innorm ?_
        refine St.norm ?_
        refine St.region ?_
        refine St.val (v := (.int .i64 s34.2)) (Yields.move rfl) trivial rfl rfl ?_
        refine St.val (v := (.int .i64 (Mir.w64 (s34.2 - 1)))) (Yields.subw rfl rfl) trivial rfl rfl ?_
        refine St.val (v := (.int .i64 (Mir.w64 (s34.2 - 1)))) (Yields.assign rfl) trivial rfl rfl ?_
        refine St.nil ?_
        refine St.norm ?_
        obtain rfl := sI hm
        intro a w ha hs
        exact ⟨(x71, Mir.w64 (s34.2 - 1)), aL ho37, A67, c68, cells69, h70, (Bnd.of_push e72), ha.covers ⟨rfl, rfl, rfl, trivial⟩, (Among.of (Among.take 2 rfl rfl (Among.take 0 rfl rfl (Among.take 0 rfl rfl Among.none))) _ hs)⟩
      · intro q75
        replace q75 : ¬ (s34.2 ≥ 0) := of_decide_eq_false q75
        replace hm := iF hm q75
        refine St.exit ?_
        refine St.thenexit ?_
        refine St.thenexit ?_
        refine St.inexit ?_
        obtain rfl := sI hm
        obtain rfl := aR ho37
        intro a w ha hs
        exact ⟨A39, c40, cells42, h41, b43, ha.covers ⟨rfl, rfl, trivial⟩, (Among.of (Among.take 0 rfl rfl (Among.take 0 rfl rfl (Among.take 0 rfl rfl Among.none))) _ hs)⟩
  · rintro a w ⟨A20, c21, cells23, h22, b24, ha, hs⟩
    replace hm := hk25
    refine St.use (?_ : St _ _ _ _ _ _) ha hs
    clear ha hs a w
    refine St.seq ?_
    obtain ⟨z76, hm, hk83⟩ := bS hm
    refine St.cutI (fun a w => ∃ (A80 : Option Addr) (c81 : Nat) (F77 : PH), PH.le F F77 ∧ Fsl 88 KDLimit F77 A80 c81 z76.1 ∧ Has Try.f3.ntmps a [(2, .pointer (some ⟨b6, 0, none⟩)), (5, .pointer (some ⟨b8, 0, none⟩)), (64, .bool z76.2)] ∧ Sat ⟨w0, fun b => m0 b ≠ none, F⟩ F77 [blk b6 (.cells #[.slice pA0_0 a0.Doms.length pc0_0, .slice pA0_1 a0.Limits.length pc0_1] 25 (0, 0)), blk b8 (.cells #[.slice pA0_0 a0.Doms.length pc0_0, .slice A80 z76.1.length c81] 25 (0, 0))] w) ?_ ?_
    · skip
      refine St.region ?_
      refine St.val (v := (.agg #[.slice pA0_0 a0.Doms.length pc0_0, .slice pA0_1 a0.Limits.length pc0_1])) (Yields.load rfl (Loads.Hk (vs := [.slice pA0_0 a0.Doms.length pc0_0, .slice pA0_1 a0.Limits.length pc0_1]) 0 rfl ta25 rfl rfl)) trivial rfl rfl ?_
      obtain ⟨q84, e85, hm⟩ := bS hm
      refine St.call [blk b6 (.cells #[.slice pA0_0 a0.Doms.length pc0_0, .slice pA0_1 a0.Limits.length pc0_1] 25 (0, 0)), blk b8 (.cells #[.slice pA0_0 a0.Doms.length pc0_0, .slice A20 z18.length c21] 25 (0, 0)), rowo A20 z18.length c21 28 5 cells23] (m_domain_Validate_sp (a0 := a0) ph0_0 ph0_1 e85) rfl (fun _ ha => ev1 ha rfl) rfl en6 rfl rfl trivial ?_
      rintro _ F86 _ ⟨rfl, rfl⟩ l87
      by_cases q88 : q84 = 0
      · replace hm := iT hm q88
        refine St.val (v := (.bool false)) (Yields.nis q88 (Yields.ne rfl rfl)) trivial rfl rfl ?_
        refine St.val (v := (.bool false)) (Yields.move rfl) trivial rfl rfl ?_
        refine St.val (v := (.agg #[.slice pA0_0 a0.Doms.length pc0_0, .slice A20 z18.length c21])) (Yields.load rfl (Loads.Hk (vs := [.slice pA0_0 a0.Doms.length pc0_0, .slice A20 z18.length c21]) 1 rfl ta25 rfl rfl)) rfl rfl rfl ?_
        refine St.frz 2 rfl rfl rfl (Cat.mono l87 h22) b24 ?_
        intro F89 l90 h91
        obtain ⟨q92, e93, hm⟩ := bS hm
        refine St.call [blk b6 (.cells #[.slice pA0_0 a0.Doms.length pc0_0, .slice pA0_1 a0.Limits.length pc0_1] 25 (0, 0)), blk b8 (.cells #[.slice pA0_0 a0.Doms.length pc0_0, .slice A20 z18.length c21] 25 (0, 0))] (m_domain_Validate_sp (a0 := (DProblem.mk a0.Doms z18)) (Fsl.mono (PH.le_trans l87 l90) ph0_0) h91 e93) rfl (fun _ ha => ev1 ha rfl) rfl en6 rfl rfl rfl ?_
        rintro _ F94 _ ⟨rfl, rfl⟩ l95
        by_cases q96 : q92 = 0
        · replace hm := iT hm q96
          refine St.val (v := (.bool false)) (Yields.nis q96 (Yields.ne rfl rfl)) rfl rfl rfl ?_
          refine St.val (v := (.bool false)) (Yields.pick_f rfl rfl) trivial rfl rfl ?_
          refine St.val (v := (.bool false)) (Yields.move rfl) trivial rfl rfl ?_
          refine St.val (v := (.agg #[.slice pA0_0 a0.Doms.length pc0_0, .slice A20 z18.length c21])) (Yields.load rfl (Loads.Hk (vs := [.slice pA0_0 a0.Doms.length pc0_0, .slice A20 z18.length c21]) 1 rfl ta25 rfl rfl)) rfl rfl rfl ?_
          obtain ⟨q97, e98, hm⟩ := bS hm
          refine St.call [blk b6 (.cells #[.slice pA0_0 a0.Doms.length pc0_0, .slice pA0_1 a0.Limits.length pc0_1] 25 (0, 0)), blk b8 (.cells #[.slice pA0_0 a0.Doms.length pc0_0, .slice A20 z18.length c21] 25 (0, 0))] (m_law11_isHeavy_sp (a0 := (DProblem.mk a0.Doms z18)) (Fsl.mono (PH.le_trans l87 (PH.le_trans l90 l95)) ph0_0) (Fsl.mono l95 h91) e98) rfl (fun _ ha => ev1 ha rfl) rfl en7 rfl rfl rfl ?_
          rintro _ F99 _ ⟨rfl, rfl⟩ l100
          by_cases q101 : q97 = true
          · replace hm := iT hm q101
            have hb102 : (q97) = true := q101
            try rw [hb102]
            refine St.val (v := (.bool true)) (Yields.pick_f rfl rfl) trivial rfl rfl ?_
            refine St.val (v := (.bool true)) (Yields.move rfl) trivial rfl rfl ?_
            refine St.unwanted rfl rfl rfl ?_
            refine St.unwanted rfl rfl rfl ?_
            refine St.val (v := (.bool true)) (Yields.pick_t rfl rfl) trivial rfl rfl ?_
            refine St.nil ?_
            obtain rfl := sI hm
            intro a w ha hs
            exact ⟨A20, c21, F99, (PH.le_trans l87 (PH.le_trans l90 (PH.le_trans l95 l100))), (Fsl.mono (PH.le_trans l95 l100) h91), ha.covers ⟨rfl, rfl, rfl, trivial⟩, (Among.of (Among.take 0 rfl rfl (Among.take 0 rfl rfl Among.none)) _ hs)⟩
          · replace hm := iF hm q101
            have hb103 : (q97) = false := eq_false_of_ne_true q101
            try rw [hb103]
            refine St.val (v := (.bool false)) (Yields.pick_f rfl rfl) trivial rfl rfl ?_
            refine St.val (v := (.bool false)) (Yields.move rfl) trivial rfl rfl ?_
            refine St.val (v := (.agg #[.slice pA0_0 a0.Doms.length pc0_0, .slice pA0_1 a0.Limits.length pc0_1])) (Yields.load rfl (Loads.Hk (vs := [.slice pA0_0 a0.Doms.length pc0_0, .slice pA0_1 a0.Limits.length pc0_1]) 0 rfl ta25 rfl rfl)) rfl rfl rfl ?_
            obtain ⟨q104, e105, hm⟩ := bS hm
            refine St.call [blk b6 (.cells #[.slice pA0_0 a0.Doms.length pc0_0, .slice pA0_1 a0.Limits.length pc0_1] 25 (0, 0)), blk b8 (.cells #[.slice pA0_0 a0.Doms.length pc0_0, .slice A20 z18.length c21] 25 (0, 0))] (m_law11_isHeavy_sp (a0 := a0) (Fsl.mono (PH.le_trans l87 (PH.le_trans l90 (PH.le_trans l95 l100))) ph0_0) (Fsl.mono (PH.le_trans l87 (PH.le_trans l90 (PH.le_trans l95 l100))) ph0_1) e105) rfl (fun _ ha => ev1 ha rfl) rfl en7 rfl rfl rfl ?_
            rintro _ F106 _ ⟨rfl, rfl⟩ l107
            refine St.val (v := (.bool q104)) (Yields.pick_f rfl rfl) trivial rfl rfl ?_
            refine St.nil ?_
            obtain rfl := sI hm
            intro a w ha hs
            exact ⟨A20, c21, F106, (PH.le_trans l87 (PH.le_trans l90 (PH.le_trans l95 (PH.le_trans l100 l107)))), (Fsl.mono (PH.le_trans l95 (PH.le_trans l100 l107)) h91), ha.covers ⟨rfl, rfl, rfl, trivial⟩, (Among.of (Among.take 0 rfl rfl (Among.take 0 rfl rfl Among.none)) _ hs)⟩
        · replace hm := iF hm q96
          refine St.val (v := (.bool true)) (Yields.nisnt q96 (Yields.ne rfl rfl)) rfl rfl rfl ?_
          refine St.val (v := (.bool true)) (Yields.pick_f rfl rfl) trivial rfl rfl ?_
          refine St.val (v := (.bool true)) (Yields.move rfl) trivial rfl rfl ?_
          refine St.unwanted rfl rfl rfl ?_
          refine St.unwanted rfl rfl rfl ?_
          refine St.val (v := (.bool true)) (Yields.pick_t rfl rfl) trivial rfl rfl ?_
          refine St.val (v := (.bool true)) (Yields.move rfl) trivial rfl rfl ?_
          refine St.unwanted rfl rfl rfl ?_
          refine St.unwanted rfl rfl rfl ?_
          refine St.val (v := (.bool true)) (Yields.pick_t rfl rfl) trivial rfl rfl ?_
          refine St.nil ?_
          obtain rfl := sI hm
          intro a w ha hs
          exact ⟨A20, c21, F94, (PH.le_trans l87 (PH.le_trans l90 l95)), (Fsl.mono l95 h91), ha.covers ⟨rfl, rfl, rfl, trivial⟩, (Among.of (Among.take 0 rfl rfl (Among.take 0 rfl rfl Among.none)) _ hs)⟩
      · replace hm := iF hm q88
        refine St.val (v := (.bool true)) (Yields.nisnt q88 (Yields.ne rfl rfl)) trivial rfl rfl ?_
        refine St.val (v := (.bool true)) (Yields.move rfl) trivial rfl rfl ?_
        refine St.unwanted rfl rfl rfl ?_
        refine St.unwanted rfl rfl rfl ?_
        refine St.unwanted rfl rfl rfl ?_
        refine St.val (v := (.bool true)) (Yields.pick_t rfl rfl) trivial rfl rfl ?_
        refine St.val (v := (.bool true)) (Yields.move rfl) trivial rfl rfl ?_
        refine St.unwanted rfl rfl rfl ?_
        refine St.unwanted rfl rfl rfl ?_
        refine St.val (v := (.bool true)) (Yields.pick_t rfl rfl) trivial rfl rfl ?_
        refine St.val (v := (.bool true)) (Yields.move rfl) trivial rfl rfl ?_
        refine St.unwanted rfl rfl rfl ?_
        refine St.unwanted rfl rfl rfl ?_
        refine St.val (v := (.bool true)) (Yields.pick_t rfl rfl) trivial rfl rfl ?_
        refine St.nil ?_
        refine St.frz 2 rfl rfl rfl (Cat.mono l87 h22) b24 ?_
        intro F108 l109 h110
        obtain rfl := sI hm
        intro a w ha hs
        exact ⟨A20, c21, F108, (PH.le_trans l87 l109), h110, ha.covers ⟨rfl, rfl, rfl, trivial⟩, (Among.of (Among.take 0 rfl rfl (Among.take 0 rfl rfl Among.none)) _ hs)⟩
    · rintro a w ⟨A80, c81, F77, l78, h82, ha, hs⟩
      replace hm := hk83
      refine St.use (?_ : St _ _ _ _ _ _) ha hs
      clear ha hs a w
      refine St.cond_b rfl ?_ ?_
      · intro q111
        replace q111 : z76.2 = true := q111
        replace hm := iT hm q111
        refine St.seq ?_
        refine St.region ?_
        obtain ⟨q112, e113, hm⟩ := bS hm
        refine St.call [blk b6 (.cells #[.slice pA0_0 a0.Doms.length pc0_0, .slice pA0_1 a0.Limits.length pc0_1] 25 (0, 0)), blk b8 (.cells #[.slice pA0_0 a0.Doms.length pc0_0, .slice A80 z76.1.length c81] 25 (0, 0))] (m_law11_known_sp e113) rfl (fun _ _ => ev0) rfl en8 rfl rfl trivial ?_
        rintro _ F114 _ ⟨rfl, rfl⟩ l115
        refine St.val (v := (.bool q112)) (Yields.assign rfl) trivial rfl rfl ?_
        refine St.nil ?_
        refine St.norm ?_
        refine St.ret ?_
        refine St.thenret ?_
        obtain rfl := sI hm
        exact St.doneR1 rfl rfl ⟨rfl, rfl⟩ (fun w hs => Among.of Among.none w hs)
      · intro q116
        replace q116 : ¬ (z76.2 = true) := bf q116
        replace hm := iF hm q116
        refine St.skip ?_
        refine St.norm ?_
        refine St.seq ?_
        refine St.region ?_
        refine St.val (v := (.agg #[.slice pA0_0 a0.Doms.length pc0_0, .slice pA0_1 a0.Limits.length pc0_1])) (Yields.load rfl (Loads.Hk (vs := [.slice pA0_0 a0.Doms.length pc0_0, .slice pA0_1 a0.Limits.length pc0_1]) 0 rfl ta25 rfl rfl)) trivial rfl rfl ?_
        obtain ⟨q117, e118, hm⟩ := bS hm
        refine St.call [blk b6 (.cells #[.slice pA0_0 a0.Doms.length pc0_0, .slice pA0_1 a0.Limits.length pc0_1] 25 (0, 0)), blk b8 (.cells #[.slice pA0_0 a0.Doms.length pc0_0, .slice A80 z76.1.length c81] 25 (0, 0))] (m_domain_Narrow_sp (a0 := a0) (Fsl.mono l78 ph0_0) (Fsl.mono l78 ph0_1) e118) rfl (fun _ ha => ev1 ha rfl) rfl en9 rfl rfl trivial ?_
        rintro _ F119 _ ⟨A121, c122, rfl, h123, rfl⟩ l120
        refine St.val (v := (.tuple #[.slice A121 q117.1.length c122, .bool q117.2.1, .int .i64 q117.2.2])) (Yields.move rfl) trivial rfl rfl ?_
        refine St.val (v := (.slice A121 q117.1.length c122)) (Yields.extract rfl rfl) trivial rfl rfl ?_
        refine St.val (v := (.bool q117.2.1)) (Yields.extract rfl rfl) trivial rfl rfl ?_
        refine St.val (v := (.int .i64 q117.2.2)) (Yields.extract rfl rfl) trivial rfl rfl ?_
        refine St.val (v := (.slice A121 q117.1.length c122)) (Yields.assign rfl) trivial rfl rfl ?_
        refine St.val (v := (.bool q117.2.1)) (Yields.assign rfl) trivial rfl rfl ?_
        refine St.val (v := (.int .i64 q117.2.2)) (Yields.assign rfl) trivial rfl rfl ?_
        refine St.nil ?_
        refine St.norm ?_
        refine St.seq ?_
        refine St.region ?_
        refine St.val (v := (.agg #[.slice pA0_0 a0.Doms.length pc0_0, .slice A80 z76.1.length c81])) (Yields.load rfl (Loads.Hk (vs := [.slice pA0_0 a0.Doms.length pc0_0, .slice A80 z76.1.length c81]) 1 rfl ta25 rfl rfl)) trivial rfl rfl ?_
        obtain ⟨q125, e126, hm⟩ := bS hm
        refine St.call [blk b6 (.cells #[.slice pA0_0 a0.Doms.length pc0_0, .slice pA0_1 a0.Limits.length pc0_1] 25 (0, 0)), blk b8 (.cells #[.slice pA0_0 a0.Doms.length pc0_0, .slice A80 z76.1.length c81] 25 (0, 0))] (m_domain_Narrow_sp (a0 := (DProblem.mk a0.Doms z76.1)) (Fsl.mono (PH.le_trans l78 l120) ph0_0) (Fsl.mono l120 h82) e126) rfl (fun _ ha => ev1 ha rfl) rfl en9 rfl rfl trivial ?_
        rintro _ F127 _ ⟨A129, c130, rfl, h131, rfl⟩ l128
        refine St.val (v := (.tuple #[.slice A129 q125.1.length c130, .bool q125.2.1, .int .i64 q125.2.2])) (Yields.move rfl) trivial rfl rfl ?_
        refine St.val (v := (.slice A129 q125.1.length c130)) (Yields.extract rfl rfl) trivial rfl rfl ?_
        refine St.val (v := (.bool q125.2.1)) (Yields.extract rfl rfl) trivial rfl rfl ?_
        refine St.val (v := (.int .i64 q125.2.2)) (Yields.extract rfl rfl) trivial rfl rfl ?_
        refine St.val (v := (.slice A129 q125.1.length c130)) (Yields.assign rfl) trivial rfl rfl ?_
        refine St.val (v := (.bool q125.2.1)) (Yields.assign rfl) trivial rfl rfl ?_
        refine St.val (v := (.int .i64 q125.2.2)) (Yields.assign rfl) trivial rfl rfl ?_
        refine St.nil ?_
        refine St.norm ?_
        refine St.seq ?_
        obtain ⟨z133, hm, hk134⟩ := bS hm
        refine St.cutI (fun a w => Has Try.f3.ntmps a [(2, .pointer (some ⟨b6, 0, none⟩)), (5, .pointer (some ⟨b8, 0, none⟩)), (7, .slice A121 q117.1.length c122), (8, .bool q117.2.1), (10, .slice A129 q125.1.length c130), (11, .bool q125.2.1), (83, .bool z133)] ∧ Sat ⟨w0, fun b => m0 b ≠ none, F⟩ F127 [blk b6 (.cells #[.slice pA0_0 a0.Doms.length pc0_0, .slice pA0_1 a0.Limits.length pc0_1] 25 (0, 0)), blk b8 (.cells #[.slice pA0_0 a0.Doms.length pc0_0, .slice A80 z76.1.length c81] 25 (0, 0))] w) ?_ ?_
        · skip
          refine St.region ?_
          refine St.val (v := (.int .i64 q117.2.2)) (Yields.move rfl) trivial rfl rfl ?_
          by_cases q135 : q117.2.2 = 0
          · replace hm := iT hm q135
            refine St.val (v := (.bool false)) (Yields.nis q135 (Yields.ne rfl rfl)) trivial rfl rfl ?_
            refine St.val (v := (.bool false)) (Yields.move rfl) trivial rfl rfl ?_
            refine St.val (v := (.int .i64 q125.2.2)) (Yields.move rfl) rfl rfl rfl ?_
            refine St.val (v := (.bool (!decide (q125.2.2 = 0)))) (Yields.ne rfl rfl) rfl rfl rfl ?_
            refine St.val (v := (.bool (!decide (q125.2.2 = 0)))) (Yields.pick_f rfl rfl) trivial rfl rfl ?_
            refine St.nil ?_
            obtain rfl := sI hm
            intro a w ha hs
            exact ⟨ha.covers ⟨rfl, rfl, rfl, rfl, rfl, rfl, rfl, trivial⟩, (Among.of (Among.take 0 rfl rfl (Among.take 0 rfl rfl Among.none)) _ hs)⟩
          · replace hm := iF hm q135
            refine St.val (v := (.bool true)) (Yields.nisnt q135 (Yields.ne rfl rfl)) trivial rfl rfl ?_
            refine St.val (v := (.bool true)) (Yields.move rfl) trivial rfl rfl ?_
            refine St.unwanted rfl rfl rfl ?_
            refine St.unwanted rfl rfl rfl ?_
            refine St.val (v := (.bool true)) (Yields.pick_t rfl rfl) trivial rfl rfl ?_
            refine St.nil ?_
            obtain rfl := sI hm
            intro a w ha hs
            exact ⟨ha.covers ⟨rfl, rfl, rfl, rfl, rfl, rfl, rfl, trivial⟩, (Among.of (Among.take 0 rfl rfl (Among.take 0 rfl rfl Among.none)) _ hs)⟩
        · rintro a w ⟨ha, hs⟩
          replace hm := hk134
          refine St.use (?_ : St _ _ _ _ _ _) ha hs
          clear ha hs a w
          refine St.cond_b rfl ?_ ?_
          · intro q136
            replace q136 : z133 = true := q136
            replace hm := iT hm q136
            refine St.seq ?_
            refine St.region ?_
            obtain ⟨q137, e138, hm⟩ := bS hm
            refine St.call [blk b6 (.cells #[.slice pA0_0 a0.Doms.length pc0_0, .slice pA0_1 a0.Limits.length pc0_1] 25 (0, 0)), blk b8 (.cells #[.slice pA0_0 a0.Doms.length pc0_0, .slice A80 z76.1.length c81] 25 (0, 0))] (m_law11_known_sp e138) rfl (fun _ _ => ev0) rfl en8 rfl rfl trivial ?_
            rintro _ F139 _ ⟨rfl, rfl⟩ l140
            refine St.val (v := (.bool q137)) (Yields.assign rfl) trivial rfl rfl ?_
            refine St.nil ?_
            refine St.norm ?_
            refine St.ret ?_
            refine St.thenret ?_
            obtain rfl := sI hm
            exact St.doneR1 rfl rfl ⟨rfl, rfl⟩ (fun w hs => Among.of Among.none w hs)
          · intro q141
            replace q141 : ¬ (z133 = true) := bf q141
            replace hm := iF hm q141
            refine St.skip ?_
            refine St.norm ?_
            refine St.seq ?_
            refine St.seq ?_
            refine St.region ?_
            refine St.val (v := (.bool q117.2.1)) (Yields.move rfl) trivial rfl rfl ?_
            refine St.val (v := (.bool (!q117.2.1))) (Yields.not rfl) trivial rfl rfl ?_
            refine St.nil ?_
            refine St.norm ?_
            refine St.cond_b rfl ?_ ?_
            · intro q142
              replace q142 : ¬ (q117.2.1 = true) := nb_t q142
              replace hm := iF hm q142
              obtain ⟨z143, hm, hk146⟩ := bS hm
              refine St.cutI (fun a w => ∃ (F144 : PH), PH.le F127 F144 ∧ Has Try.f3.ntmps a [(4, .bool z143)] ∧ Sat ⟨w0, fun b => m0 b ≠ none, F⟩ F144 [] w) ?_ ?_
              · skip
                refine St.region ?_
                by_cases q147 : q125.2.1 = true
                · replace hm := iT hm q147
                  have hb148 : (q125.2.1) = true := q147
                  try rw [hb148]
                  refine St.val (v := (.bool true)) (Yields.move rfl) trivial rfl rfl ?_
                  refine St.val (v := (.bool false)) (Yields.not_t rfl) trivial rfl rfl ?_
                  refine St.val (v := (.bool false)) (Yields.move rfl) trivial rfl rfl ?_
                  refine St.unwanted rfl rfl rfl ?_
                  refine St.val (v := (.bool false)) (Yields.pick_f rfl rfl) trivial rfl rfl ?_
                  refine St.val (v := (.bool false)) (Yields.assign rfl) trivial rfl rfl ?_
                  refine St.nil ?_
                  obtain rfl := sI hm
                  intro a w ha hs
                  exact ⟨F127, (PH.le_refl _), ha.covers ⟨rfl, trivial⟩, (Among.of Among.none _ hs)⟩
                · replace hm := iF hm q147
                  have hb149 : (q125.2.1) = false := eq_false_of_ne_true q147
                  try rw [hb149]
                  refine St.val (v := (.bool false)) (Yields.move rfl) trivial rfl rfl ?_
                  refine St.val (v := (.bool true)) (Yields.not_f rfl) trivial rfl rfl ?_
                  refine St.val (v := (.bool true)) (Yields.move rfl) trivial rfl rfl ?_
                  obtain ⟨q150, e151, hm⟩ := bS hm
                  refine St.call [blk b6 (.cells #[.slice pA0_0 a0.Doms.length pc0_0, .slice pA0_1 a0.Limits.length pc0_1] 25 (0, 0)), blk b8 (.cells #[.slice pA0_0 a0.Doms.length pc0_0, .slice A80 z76.1.length c81] 25 (0, 0))] (m_law11_known_sp e151) rfl (fun _ _ => ev0) rfl en8 rfl rfl rfl ?_
                  rintro _ F152 _ ⟨rfl, rfl⟩ l153
                  refine St.val (v := (.bool q150)) (Yields.pick_t rfl rfl) trivial rfl rfl ?_
                  refine St.val (v := (.bool q150)) (Yields.assign rfl) trivial rfl rfl ?_
                  refine St.nil ?_
                  obtain rfl := sI hm
                  intro a w ha hs
                  exact ⟨F152, l153, ha.covers ⟨rfl, trivial⟩, (Among.of Among.none _ hs)⟩
              · rintro a w ⟨F144, l145, ha, hs⟩
                replace hm := hk146
                refine St.use (?_ : St _ _ _ _ _ _) ha hs
                clear ha hs a w
                refine St.ret ?_
                refine St.thenret ?_
                obtain rfl := sI hm
                exact St.doneR1 rfl rfl ⟨rfl, rfl⟩ (fun w hs => Among.of Among.none w hs)
            · intro q154
              replace q154 : q117.2.1 = true := nb_f q154
              replace hm := iT hm q154
              refine St.skip ?_
              refine St.norm ?_
              refine St.seq ?_
              refine St.region ?_
              refine St.val (v := (.slice A121 q117.1.length c122)) (Yields.move rfl) trivial rfl rfl ?_
              refine St.val (v := (.pointer (some ⟨b6, 1, none⟩))) (Yields.fieldAddr (v := (.pointer (some ⟨b6, 1, none⟩))) rfl (fun _ => by kernel_rfl)) trivial rfl rfl ?_
              refine St.val (v := (.slice pA0_1 a0.Limits.length pc0_1)) (Yields.load rfl (Loads.H1 0 rfl tc23 rfl)) trivial rfl rfl ?_
              refine St.val (v := (.agg #[.slice A121 q117.1.length c122, .slice pA0_1 a0.Limits.length pc0_1])) (Yields.build (v := (.agg #[.slice A121 q117.1.length c122, .slice pA0_1 a0.Limits.length pc0_1])) (vs := #[(0, .slice A121 q117.1.length c122), (1, .slice pA0_1 a0.Limits.length pc0_1)]) (fun _ ha => evp2 ha rfl rfl) (fun _ => by kernel_rfl)) trivial rfl rfl ?_
              obtain ⟨q155, e156, hm⟩ := bS hm
              refine St.call [blk b6 (.cells #[.slice pA0_0 a0.Doms.length pc0_0, .slice pA0_1 a0.Limits.length pc0_1] 25 (0, 0)), blk b8 (.cells #[.slice pA0_0 a0.Doms.length pc0_0, .slice A80 z76.1.length c81] 25 (0, 0))] (m_domain_Narrow_sp (a0 := (DProblem.mk q117.1 a0.Limits)) (Fsl.mono l128 h123) (Fsl.mono (PH.le_trans l78 (PH.le_trans l120 l128)) ph0_1) e156) rfl (fun _ ha => ev1 ha rfl) rfl en9 rfl rfl trivial ?_
              rintro _ F157 _ ⟨A159, c160, rfl, h161, rfl⟩ l158
              refine St.val (v := (.tuple #[.slice A159 q155.1.length c160, .bool q155.2.1, .int .i64 q155.2.2])) (Yields.move rfl) trivial rfl rfl ?_
              refine St.val (v := (.slice A159 q155.1.length c160)) (Yields.extract rfl rfl) trivial rfl rfl ?_
              refine St.val (v := (.bool q155.2.1)) (Yields.extract rfl rfl) trivial rfl rfl ?_
              refine St.val (v := (.int .i64 q155.2.2)) (Yields.extract rfl rfl) trivial rfl rfl ?_
              refine St.val (v := (.slice A159 q155.1.length c160)) (Yields.assign rfl) trivial rfl rfl ?_
              refine St.val (v := (.bool q155.2.1)) (Yields.assign rfl) trivial rfl rfl ?_
              refine St.val (v := (.int .i64 q155.2.2)) (Yields.assign rfl) trivial rfl rfl ?_
              refine St.nil ?_
              refine St.norm ?_
              refine St.seq ?_
              obtain ⟨z163, hm, hk166⟩ := bS hm
              refine St.cutI (fun a w => ∃ (F164 : PH), PH.le F157 F164 ∧ Has Try.f3.ntmps a [(2, .pointer (some ⟨b6, 0, none⟩)), (5, .pointer (some ⟨b8, 0, none⟩)), (7, .slice A121 q117.1.length c122), (10, .slice A129 q125.1.length c130), (11, .bool q125.2.1), (112, .bool z163)] ∧ Sat ⟨w0, fun b => m0 b ≠ none, F⟩ F164 [blk b6 (.cells #[.slice pA0_0 a0.Doms.length pc0_0, .slice pA0_1 a0.Limits.length pc0_1] 25 (0, 0)), blk b8 (.cells #[.slice pA0_0 a0.Doms.length pc0_0, .slice A80 z76.1.length c81] 25 (0, 0))] w) ?_ ?_
              · skip
                refine St.region ?_
                refine St.val (v := (.int .i64 q155.2.2)) (Yields.move rfl) trivial rfl rfl ?_
                by_cases q167 : q155.2.2 = 0
                · replace hm := iT hm q167
                  refine St.val (v := (.bool false)) (Yields.nis q167 (Yields.ne rfl rfl)) trivial rfl rfl ?_
                  refine St.val (v := (.bool false)) (Yields.move rfl) trivial rfl rfl ?_
                  by_cases q168 : q155.2.1 = true
                  · replace hm := iT hm q168
                    have hb169 : (q155.2.1) = true := q168
                    try rw [hb169]
                    refine St.val (v := (.bool true)) (Yields.move rfl) rfl rfl rfl ?_
                    refine St.val (v := (.bool false)) (Yields.not_t rfl) rfl rfl rfl ?_
                    refine St.val (v := (.bool false)) (Yields.pick_f rfl rfl) trivial rfl rfl ?_
                    refine St.val (v := (.bool false)) (Yields.move rfl) trivial rfl rfl ?_
                    refine St.val (v := (.slice A159 q155.1.length c160)) (Yields.move rfl) rfl rfl rfl ?_
                    refine St.val (v := (.slice A121 q117.1.length c122)) (Yields.move rfl) rfl rfl rfl ?_
                    obtain ⟨q170, e171, hm⟩ := bS hm
                    refine St.call [blk b6 (.cells #[.slice pA0_0 a0.Doms.length pc0_0, .slice pA0_1 a0.Limits.length pc0_1] 25 (0, 0)), blk b8 (.cells #[.slice pA0_0 a0.Doms.length pc0_0, .slice A80 z76.1.length c81] 25 (0, 0))] (m_ref01_SameRows_sp h161 (Fsl.mono (PH.le_trans l128 l158) h123) e171) rfl (fun _ ha => ev2 ha rfl rfl) rfl en10 rfl rfl rfl ?_
                    rintro _ F172 _ ⟨rfl, rfl⟩ l173
                    refine St.val (v := (.bool (!q170))) (Yields.not rfl) rfl rfl rfl ?_
                    refine St.val (v := (.bool (!q170))) (Yields.pick_f rfl rfl) trivial rfl rfl ?_
                    refine St.nil ?_
                    obtain rfl := sI hm
                    intro a w ha hs
                    exact ⟨F172, l173, ha.covers ⟨rfl, rfl, rfl, rfl, rfl, rfl, trivial⟩, (Among.of (Among.take 0 rfl rfl (Among.take 0 rfl rfl Among.none)) _ hs)⟩
                  · replace hm := iF hm q168
                    have hb174 : (q155.2.1) = false := eq_false_of_ne_true q168
                    try rw [hb174]
                    refine St.val (v := (.bool false)) (Yields.move rfl) rfl rfl rfl ?_
                    refine St.val (v := (.bool true)) (Yields.not_f rfl) rfl rfl rfl ?_
                    refine St.val (v := (.bool true)) (Yields.pick_f rfl rfl) trivial rfl rfl ?_
                    refine St.val (v := (.bool true)) (Yields.move rfl) trivial rfl rfl ?_
                    refine St.unwanted rfl rfl rfl ?_
                    refine St.unwanted rfl rfl rfl ?_
                    refine St.unwanted rfl rfl rfl ?_
                    refine St.unwanted rfl rfl rfl ?_
                    refine St.val (v := (.bool true)) (Yields.pick_t rfl rfl) trivial rfl rfl ?_
                    refine St.nil ?_
                    obtain rfl := sI hm
                    intro a w ha hs
                    exact ⟨F157, (PH.le_refl _), ha.covers ⟨rfl, rfl, rfl, rfl, rfl, rfl, trivial⟩, (Among.of (Among.take 0 rfl rfl (Among.take 0 rfl rfl Among.none)) _ hs)⟩
                · replace hm := iF hm q167
                  refine St.val (v := (.bool true)) (Yields.nisnt q167 (Yields.ne rfl rfl)) trivial rfl rfl ?_
                  refine St.val (v := (.bool true)) (Yields.move rfl) trivial rfl rfl ?_
                  refine St.unwanted rfl rfl rfl ?_
                  refine St.unwanted rfl rfl rfl ?_
                  refine St.val (v := (.bool true)) (Yields.pick_t rfl rfl) trivial rfl rfl ?_
                  refine St.val (v := (.bool true)) (Yields.move rfl) trivial rfl rfl ?_
                  refine St.unwanted rfl rfl rfl ?_
                  refine St.unwanted rfl rfl rfl ?_
                  refine St.unwanted rfl rfl rfl ?_
                  refine St.unwanted rfl rfl rfl ?_
                  refine St.val (v := (.bool true)) (Yields.pick_t rfl rfl) trivial rfl rfl ?_
                  refine St.nil ?_
                  obtain rfl := sI hm
                  intro a w ha hs
                  exact ⟨F157, (PH.le_refl _), ha.covers ⟨rfl, rfl, rfl, rfl, rfl, rfl, trivial⟩, (Among.of (Among.take 0 rfl rfl (Among.take 0 rfl rfl Among.none)) _ hs)⟩
              · rintro a w ⟨F164, l165, ha, hs⟩
                replace hm := hk166
                refine St.use (?_ : St _ _ _ _ _ _) ha hs
                clear ha hs a w
                refine St.cond_b rfl ?_ ?_
                · intro q175
                  replace q175 : z163 = true := q175
                  replace hm := iT hm q175
                  refine St.seq ?_
                  refine St.region ?_
                  refine St.val (v := (.bool false)) (Yields.assign rfl) trivial rfl rfl ?_
                  refine St.nil ?_
                  refine St.norm ?_
                  refine St.ret ?_
                  refine St.thenret ?_
                  obtain rfl := sI hm
                  exact St.doneR1 rfl rfl ⟨rfl, rfl⟩ (fun w hs => Among.of Among.none w hs)
                · intro q176
                  replace q176 : ¬ (z163 = true) := bf q176
                  replace hm := iF hm q176
                  refine St.skip ?_
                  refine St.norm ?_
                  refine St.seq ?_
                  refine StD.start [7] [blk b6 (.cells #[.slice pA0_0 a0.Doms.length pc0_0, .slice pA0_1 a0.Limits.length pc0_1] 25 (0, 0)), blk b8 (.cells #[.slice pA0_0 a0.Doms.length pc0_0, .slice A80 z76.1.length c81] 25 (0, 0))] hmix ?_
                  refine StD.takeP (i := 0) (v := (.pointer (some ⟨b6, 0, none⟩))) rfl (fun _ => Yields.fieldAddr (v := (.pointer (some ⟨b6, 0, none⟩))) rfl (fun _ => by kernel_rfl)) rfl rfl trivial (by rintro _ _ _ ⟨_, _, _, _, h, _⟩; cases h) (by kernel_rfl) (listed' := #[true, false, false, false, false, false, false, false]) rfl ?_
                  refine StD.take [0, 2, 4, 5] (i := 1) (v := (.slice pA0_0 a0.Doms.length pc0_0)) rfl (Yields.load rfl (Loads.H1 0 rfl tc22 rfl)) rfl rfl trivial Among.refl (by rintro _ _ _ ⟨_, _, _, _, h, _⟩; cases h) (by kernel_rfl) (listed' := #[true, true, false, false, false, false, false, false]) rfl ?_
                  refine StD.takeP (i := 2) (v := (.pointer (some ⟨b8, 1, none⟩))) rfl (fun _ => Yields.fieldAddr (v := (.pointer (some ⟨b8, 1, none⟩))) rfl (fun _ => by kernel_rfl)) rfl rfl trivial (by rintro _ _ _ ⟨_, _, _, _, h, _⟩; cases h) (by kernel_rfl) (listed' := #[true, true, true, false, false, false, false, false]) rfl ?_
                  refine StD.take [0, 2, 4, 5] (i := 3) (v := (.slice A80 z76.1.length c81)) rfl (Yields.load rfl (Loads.H1 1 rfl tc23 rfl)) rfl rfl trivial Among.refl (by rintro _ _ _ ⟨_, _, _, _, h, _⟩; cases h) (by kernel_rfl) (listed' := #[true, true, true, true, false, false, false, false]) rfl ?_
                  obtain ⟨x181, e182, hm⟩ := bS hm
                  obtain ⟨A177, c178, s179, h180⟩ := (Fsl.mono (PH.le_trans l120 (PH.le_trans l128 (PH.le_trans l158 l165))) h82).subx e182
                  refine StD.takeP (i := 4) (v := (.slice A177 x181.length c178)) rfl (fun _ => Yields.subD s179 ts23 rfl rfl) rfl rfl trivial (by rintro _ _ _ ⟨_, _, _, _, h, _⟩; cases h) (by kernel_rfl) (listed' := #[true, true, true, true, true, false, false, false]) rfl ?_
                  refine StD.takeP (i := 5) (v := (.agg #[.slice pA0_0 a0.Doms.length pc0_0, .slice A177 x181.length c178])) rfl (fun _ => Yields.build (v := (.agg #[.slice pA0_0 a0.Doms.length pc0_0, .slice A177 x181.length c178])) (vs := #[(0, .slice pA0_0 a0.Doms.length pc0_0), (1, .slice A177 x181.length c178)]) (fun _ ha => evp2 ha rfl rfl) (fun _ => by kernel_rfl)) rfl rfl trivial (by rintro _ _ _ ⟨_, _, _, _, h, _⟩; cases h) (by kernel_rfl) (listed' := #[true, true, true, true, true, true, false, false]) rfl ?_
                  refine StD.only (i := 6) rfl (by kernel_rfl) (listed' := #[true, true, true, true, true, true, true, false]) rfl ?_
                  intro hcl184
                  refine St.alloc tz25 trivial rfl ?_
                  intro b185
                  refine StD.next hcl184 (fun _ => (Among.of (Among.take 1 rfl rfl (Among.take 1 rfl rfl Among.none)))) ?_
                  refine StD.only (i := 7) rfl (by kernel_rfl) (listed' := #[true, true, true, true, true, true, true, true]) rfl ?_
                  intro hcl186
                  refine St.storen (R := [blk b6 (.cells #[.slice pA0_0 a0.Doms.length pc0_0, .slice pA0_1 a0.Limits.length pc0_1] 25 (0, 0)), blk b8 (.cells #[.slice pA0_0 a0.Doms.length pc0_0, .slice A80 z76.1.length c81] 25 (0, 0))]) rfl rfl 0 rfl rfl ta25 rfl rfl rfl trivial (cs' := #[.slice pA0_0 a0.Doms.length pc0_0, .slice A177 x181.length c178]) rfl ?_
                  refine StD.next hcl186 (fun h => by cases h) ?_
                  refine StD.done (by kernel_rfl) ?_
                  refine St.norm ?_
                  refine St.seq ?_
                  refine St.region ?_
                  refine St.val (v := (.agg #[.slice pA0_0 a0.Doms.length pc0_0, .slice A177 x181.length c178])) (Yields.load rfl (Loads.Hk (vs := [.slice pA0_0 a0.Doms.length pc0_0, .slice A177 x181.length c178]) 0 rfl ta25 rfl rfl)) trivial rfl rfl ?_
                  obtain ⟨q187, e188, hm⟩ := bS hm
                  refine St.call [blk b185 (.cells #[.slice pA0_0 a0.Doms.length pc0_0, .slice A177 x181.length c178] 25 (0, 0)), blk b6 (.cells #[.slice pA0_0 a0.Doms.length pc0_0, .slice pA0_1 a0.Limits.length pc0_1] 25 (0, 0)), blk b8 (.cells #[.slice pA0_0 a0.Doms.length pc0_0, .slice A80 z76.1.length c81] 25 (0, 0))] (m_domain_Narrow_sp (a0 := (DProblem.mk a0.Doms x181)) (Fsl.mono (PH.le_trans l78 (PH.le_trans l120 (PH.le_trans l128 (PH.le_trans l158 l165)))) ph0_0) h180 e188) rfl (fun _ ha => ev1 ha rfl) rfl en9 rfl rfl trivial ?_
                  rintro _ F189 _ ⟨A191, c192, rfl, h193, rfl⟩ l190
                  refine St.val (v := (.tuple #[.slice A191 q187.1.length c192, .bool q187.2.1, .int .i64 q187.2.2])) (Yields.move rfl) trivial rfl rfl ?_
                  refine St.val (v := (.slice A191 q187.1.length c192)) (Yields.extract rfl rfl) trivial rfl rfl ?_
                  refine St.val (v := (.bool q187.2.1)) (Yields.extract rfl rfl) trivial rfl rfl ?_
                  refine St.val (v := (.int .i64 q187.2.2)) (Yields.extract rfl rfl) trivial rfl rfl ?_
                  refine St.val (v := (.slice A191 q187.1.length c192)) (Yields.assign rfl) trivial rfl rfl ?_
                  refine St.val (v := (.bool q187.2.1)) (Yields.assign rfl) trivial rfl rfl ?_
                  refine St.val (v := (.int .i64 q187.2.2)) (Yields.assign rfl) trivial rfl rfl ?_
                  refine St.nil ?_
                  refine St.norm ?_
                  refine St.seq ?_
                  obtain ⟨z195, hm, hk198⟩ := bS hm
                  refine St.cutI (fun a w => ∃ (F196 : PH), PH.le F189 F196 ∧ Has Try.f3.ntmps a [(7, .slice A121 q117.1.length c122), (10, .slice A129 q125.1.length c130), (11, .bool q125.2.1), (136, .bool z195)] ∧ Sat ⟨w0, fun b => m0 b ≠ none, F⟩ F196 [] w) ?_ ?_
                  · skip
                    refine St.region ?_
                    refine St.val (v := (.int .i64 q187.2.2)) (Yields.move rfl) trivial rfl rfl ?_
                    by_cases q199 : q187.2.2 = 0
                    · replace hm := iT hm q199
                      refine St.val (v := (.bool false)) (Yields.nis q199 (Yields.ne rfl rfl)) trivial rfl rfl ?_
                      refine St.val (v := (.bool false)) (Yields.move rfl) trivial rfl rfl ?_
                      by_cases q200 : q187.2.1 = true
                      · replace hm := iT hm q200
                        have hb201 : (q187.2.1) = true := q200
                        try rw [hb201]
                        refine St.val (v := (.bool true)) (Yields.move rfl) rfl rfl rfl ?_
                        refine St.val (v := (.bool false)) (Yields.not_t rfl) rfl rfl rfl ?_
                        refine St.val (v := (.bool false)) (Yields.pick_f rfl rfl) trivial rfl rfl ?_
                        refine St.val (v := (.bool false)) (Yields.move rfl) trivial rfl rfl ?_
                        refine St.val (v := (.slice A191 q187.1.length c192)) (Yields.move rfl) rfl rfl rfl ?_
                        refine St.val (v := (.slice A121 q117.1.length c122)) (Yields.move rfl) rfl rfl rfl ?_
                        obtain ⟨q202, e203, hm⟩ := bS hm
                        refine St.call [blk b185 (.cells #[.slice pA0_0 a0.Doms.length pc0_0, .slice A177 x181.length c178] 25 (0, 0)), blk b6 (.cells #[.slice pA0_0 a0.Doms.length pc0_0, .slice pA0_1 a0.Limits.length pc0_1] 25 (0, 0)), blk b8 (.cells #[.slice pA0_0 a0.Doms.length pc0_0, .slice A80 z76.1.length c81] 25 (0, 0))] (m_ref01_SameRows_sp h193 (Fsl.mono (PH.le_trans l128 (PH.le_trans l158 (PH.le_trans l165 l190))) h123) e203) rfl (fun _ ha => ev2 ha rfl rfl) rfl en10 rfl rfl rfl ?_
                        rintro _ F204 _ ⟨rfl, rfl⟩ l205
                        refine St.val (v := (.bool (!q202))) (Yields.not rfl) rfl rfl rfl ?_
                        refine St.val (v := (.bool (!q202))) (Yields.pick_f rfl rfl) trivial rfl rfl ?_
                        refine St.nil ?_
                        obtain rfl := sI hm
                        intro a w ha hs
                        exact ⟨F204, l205, ha.covers ⟨rfl, rfl, rfl, rfl, trivial⟩, (Among.of Among.none _ hs)⟩
                      · replace hm := iF hm q200
                        have hb206 : (q187.2.1) = false := eq_false_of_ne_true q200
                        try rw [hb206]
                        refine St.val (v := (.bool false)) (Yields.move rfl) rfl rfl rfl ?_
                        refine St.val (v := (.bool true)) (Yields.not_f rfl) rfl rfl rfl ?_
                        refine St.val (v := (.bool true)) (Yields.pick_f rfl rfl) trivial rfl rfl ?_
                        refine St.val (v := (.bool true)) (Yields.move rfl) trivial rfl rfl ?_
                        refine St.unwanted rfl rfl rfl ?_
                        refine St.unwanted rfl rfl rfl ?_
                        refine St.unwanted rfl rfl rfl ?_
                        refine St.unwanted rfl rfl rfl ?_
                        refine St.val (v := (.bool true)) (Yields.pick_t rfl rfl) trivial rfl rfl ?_
                        refine St.nil ?_
                        obtain rfl := sI hm
                        intro a w ha hs
                        exact ⟨F189, (PH.le_refl _), ha.covers ⟨rfl, rfl, rfl, rfl, trivial⟩, (Among.of Among.none _ hs)⟩
                    · replace hm := iF hm q199
                      refine St.val (v := (.bool true)) (Yields.nisnt q199 (Yields.ne rfl rfl)) trivial rfl rfl ?_
                      refine St.val (v := (.bool true)) (Yields.move rfl) trivial rfl rfl ?_
                      refine St.unwanted rfl rfl rfl ?_
                      refine St.unwanted rfl rfl rfl ?_
                      refine St.val (v := (.bool true)) (Yields.pick_t rfl rfl) trivial rfl rfl ?_
                      refine St.val (v := (.bool true)) (Yields.move rfl) trivial rfl rfl ?_
                      refine St.unwanted rfl rfl rfl ?_
                      refine St.unwanted rfl rfl rfl ?_
                      refine St.unwanted rfl rfl rfl ?_
                      refine St.unwanted rfl rfl rfl ?_
                      refine St.val (v := (.bool true)) (Yields.pick_t rfl rfl) trivial rfl rfl ?_
                      refine St.nil ?_
                      obtain rfl := sI hm
                      intro a w ha hs
                      exact ⟨F189, (PH.le_refl _), ha.covers ⟨rfl, rfl, rfl, rfl, trivial⟩, (Among.of Among.none _ hs)⟩
                  · rintro a w ⟨F196, l197, ha, hs⟩
                    replace hm := hk198
                    refine St.use (?_ : St _ _ _ _ _ _) ha hs
                    clear ha hs a w
                    refine St.cond_b rfl ?_ ?_
                    · intro q207
                      replace q207 : z195 = true := q207
                      replace hm := iT hm q207
                      refine St.seq ?_
                      refine St.region ?_
                      refine St.val (v := (.bool false)) (Yields.assign rfl) trivial rfl rfl ?_
                      refine St.nil ?_
                      refine St.norm ?_
                      refine St.ret ?_
                      refine St.thenret ?_
                      obtain rfl := sI hm
                      exact St.doneR1 rfl rfl ⟨rfl, rfl⟩ (fun w hs => Among.of Among.none w hs)
                    · intro q208
                      replace q208 : ¬ (z195 = true) := bf q208
                      replace hm := iF hm q208
                      refine St.skip ?_
                      refine St.norm ?_
                      refine St.seq ?_
                      refine St.seq ?_
                      refine St.region ?_
                      refine St.val (v := (.bool q125.2.1)) (Yields.move rfl) trivial rfl rfl ?_
                      refine St.val (v := (.bool (!q125.2.1))) (Yields.not rfl) trivial rfl rfl ?_
                      refine St.nil ?_
                      refine St.norm ?_
                      refine St.cond_b rfl ?_ ?_
                      · intro q209
                        replace q209 : ¬ (q125.2.1 = true) := nb_t q209
                        replace hm := iF hm q209
                        refine St.seq ?_
                        refine St.region ?_
                        obtain ⟨q210, e211, hm⟩ := bS hm
                        refine St.call [] (m_law11_known_sp e211) rfl (fun _ _ => ev0) rfl en8 rfl rfl trivial ?_
                        rintro _ F212 _ ⟨rfl, rfl⟩ l213
                        refine St.val (v := (.bool q210)) (Yields.assign rfl) trivial rfl rfl ?_
                        refine St.nil ?_
                        refine St.norm ?_
                        refine St.ret ?_
                        refine St.thenret ?_
                        obtain rfl := sI hm
                        exact St.doneR1 rfl rfl ⟨rfl, rfl⟩ (fun w hs => Among.of Among.none w hs)
                      · intro q214
                        replace q214 : q125.2.1 = true := nb_f q214
                        replace hm := iT hm q214
                        refine St.skip ?_
                        refine St.norm ?_
                        refine St.seq ?_
                        refine St.seq ?_
                        refine St.region ?_
                        refine St.val (v := (.slice A129 q125.1.length c130)) (Yields.move rfl) trivial rfl rfl ?_
                        refine St.val (v := (.int .i64 ((q125.1.length : Nat) : Int))) (Yields.lenSlice tu22 rfl) trivial rfl rfl ?_
                        refine St.val (v := (.slice A121 q117.1.length c122)) (Yields.move rfl) trivial rfl rfl ?_
                        refine St.val (v := (.int .i64 ((q117.1.length : Nat) : Int))) (Yields.lenSlice tu22 rfl) trivial rfl rfl ?_
                        refine St.val (v := (.bool (!decide (((q125.1.length : Nat) : Int) = ((q117.1.length : Nat) : Int))))) (Yields.ne rfl rfl) trivial rfl rfl ?_
                        refine St.nil ?_
                        refine St.norm ?_
                        refine St.cond_b rfl ?_ ?_
                        · intro q215
                          replace q215 : ¬ (((q125.1.length : Nat) : Int) = ((q117.1.length : Nat) : Int)) := nd_t q215
                          replace hm := iF hm q215
                          refine St.seq ?_
                          refine St.region ?_
                          refine St.val (v := (.bool false)) (Yields.assign rfl) trivial rfl rfl ?_
                          refine St.nil ?_
                          refine St.norm ?_
                          refine St.ret ?_
                          refine St.thenret ?_
                          obtain rfl := sI hm
                          exact St.doneR1 rfl rfl ⟨rfl, rfl⟩ (fun w hs => Among.of Among.none w hs)
                        · intro q216
                          replace q216 : ((q125.1.length : Nat) : Int) = ((q117.1.length : Nat) : Int) := nd_f q216
                          replace hm := iT hm q216
                          refine St.skip ?_
                          refine St.norm ?_
                          obtain ⟨o220, hm, ho221⟩ := jS hm
                          refine St.cutI (fun a w => ∃ z217 : Unit, o220 = .inl z217 ∧ ∃ (F218 : PH), PH.le F196 F218 ∧ Has Try.f3.ntmps a [] ∧ Sat ⟨w0, fun b => m0 b ≠ none, F⟩ F218 [] w) ?_ ?_
                          · skip
                            refine St.seq ?_
                            refine St.region ?_
                            refine St.val (v := (.int .i64 0)) (Yields.assign rfl) trivial rfl rfl ?_
                            refine St.nil ?_
                            refine St.norm ?_
                            refine St.block ?_
                            refine St.loopM hm (fun s224 a w => ∃ (F228 : PH), PH.le F196 F228 ∧ Has Try.f3.ntmps a [(7, .slice A121 q117.1.length c122), (10, .slice A129 q125.1.length c130), (20, .int .i64 ((s224 : Nat) : Int))] ∧ Sat ⟨w0, fun b => m0 b ≠ none, F⟩ F228 [] w) ?_ ?_
                            · skip
                              intro a w ha hs
                              exact ⟨F196, (PH.le_refl _), ha.covers ⟨rfl, rfl, rfl, trivial⟩, (Among.of Among.none _ hs)⟩
                            · rintro s224 o225 co226 hm ho227 a w ⟨F228, l229, ha, hs⟩
                              refine St.use (?_ : St _ _ _ _ _ _) ha hs
                              clear ha hs a w
                              refine St.seq ?_
                              refine St.seq ?_
                              refine St.region ?_
                              refine St.val (v := (.int .i64 ((s224 : Nat) : Int))) (Yields.move rfl) trivial rfl rfl ?_
                              refine St.val (v := (.slice A129 q125.1.length c130)) (Yields.move rfl) trivial rfl rfl ?_
                              refine St.val (v := (.int .i64 ((q125.1.length : Nat) : Int))) (Yields.lenSlice tu22 rfl) trivial rfl rfl ?_
                              refine St.val (v := (.bool (decide (((s224 : Nat) : Int) < ((q125.1.length : Nat) : Int))))) (Yields.lt rfl rfl) trivial rfl rfl ?_
                              refine St.nil ?_
                              refine St.norm ?_
                              refine St.cond_b rfl ?_ ?_
                              · intro q230
                                replace q230 : ((s224 : Nat) : Int) < ((q125.1.length : Nat) : Int) := of_decide_eq_true q230
                                replace hm := iT hm q230
                                refine St.skip ?_
                                refine St.norm ?_
                                obtain ⟨o234, hm, ho235⟩ := jS hm
                                refine St.cutI (fun a w => ∃ z231 : Unit, o234 = .inl z231 ∧ ∃ (F232 : PH), PH.le F228 F232 ∧ Has Try.f3.ntmps a [(7, .slice A121 q117.1.length c122), (10, .slice A129 q125.1.length c130), (20, .int .i64 ((s224 : Nat) : Int))] ∧ Sat ⟨w0, fun b => m0 b ≠ none, F⟩ F232 [] w) ?_ ?_
                                · skip
                                  refine St.block ?_
                                  refine St.seq ?_
                                  refine St.region ?_
                                  refine St.val (v := (.int .i64 0)) (Yields.assign rfl) trivial rfl rfl ?_
                                  refine St.nil ?_
                                  refine St.norm ?_
                                  refine St.block ?_
                                  refine St.loopM hm (fun s238 a w => ∃ (F242 : PH), PH.le F228 F242 ∧ Has Try.f3.ntmps a [(7, .slice A121 q117.1.length c122), (10, .slice A129 q125.1.length c130), (20, .int .i64 ((s224 : Nat) : Int)), (21, .int .i64 ((s238 : Nat) : Int))] ∧ Sat ⟨w0, fun b => m0 b ≠ none, F⟩ F242 [] w) ?_ ?_
                                  · skip
                                    intro a w ha hs
                                    exact ⟨F228, (PH.le_refl _), ha.covers ⟨rfl, rfl, rfl, rfl, trivial⟩, (Among.of Among.none _ hs)⟩
                                  · rintro s238 o239 co240 hm ho241 a w ⟨F242, l243, ha, hs⟩
                                    refine St.use (?_ : St _ _ _ _ _ _) ha hs
                                    clear ha hs a w
                                    refine St.seq ?_
                                    refine St.seq ?_
                                    refine St.region ?_
                                    refine St.val (v := (.int .i64 ((s238 : Nat) : Int))) (Yields.move rfl) trivial rfl rfl ?_
                                    refine St.val (v := (.slice A129 q125.1.length c130)) (Yields.move rfl) trivial rfl rfl ?_
                                    refine St.val (v := (.int .i64 ((s224 : Nat) : Int))) (Yields.move rfl) trivial rfl rfl ?_
                                    obtain ⟨x244, e245, hm⟩ := bS hm
                                    obtain ⟨p246, cs247, jx248, R249, k250⟩ := (Fsl.mono (PH.le_trans l158 (PH.le_trans l165 (PH.le_trans l190 (PH.le_trans l197 (PH.le_trans l229 l243))))) h131).nidx e245
                                    obtain ⟨A251, c252, rfl, h253⟩ := R249
                                    refine St.val (v := (.pointer (some p246))) (Yields.idx jx248 ts22 rfl rfl) trivial rfl rfl ?_
                                    refine St.val (v := (.slice A251 x244.length c252)) (Yields.load rfl (Loads.Fat k250 tc26 rfl)) trivial rfl rfl ?_
                                    refine St.val (v := (.int .i64 ((x244.length : Nat) : Int))) (Yields.lenSlice tu26 rfl) trivial rfl rfl ?_
                                    refine St.val (v := (.bool (decide (((s238 : Nat) : Int) < ((x244.length : Nat) : Int))))) (Yields.lt rfl rfl) trivial rfl rfl ?_
                                    refine St.nil ?_
                                    refine St.norm ?_
                                    refine St.cond_b rfl ?_ ?_
                                    · intro q255
                                      replace q255 : ((s238 : Nat) : Int) < ((x244.length : Nat) : Int) := of_decide_eq_true q255
                                      replace hm := iT hm q255
                                      refine St.skip ?_
                                      refine St.norm ?_
                                      refine St.seq ?_
                                      refine St.block ?_
                                      refine St.seq ?_
                                      refine StD.start [11] [] hmix ?_
                                      refine StD.takeP (i := 0) (v := (.slice A121 q117.1.length c122)) rfl (fun _ => Yields.move rfl) rfl rfl trivial (by rintro _ _ _ ⟨_, _, _, _, h, _⟩; cases h) (by kernel_rfl) (listed' := #[true, false, false, false, false, false, false, false, false, false, false, false, false]) rfl ?_
                                      refine StD.takeP (i := 1) (v := (.int .i64 ((s224 : Nat) : Int))) rfl (fun _ => Yields.move rfl) rfl rfl trivial (by rintro _ _ _ ⟨_, _, _, _, h, _⟩; cases h) (by kernel_rfl) (listed' := #[true, true, false, false, false, false, false, false, false, false, false, false, false]) rfl ?_
                                      obtain ⟨x256, e257, hm⟩ := bS hm
                                      obtain ⟨p258, cs259, jx260, R261, k262⟩ := (Fsl.mono (PH.le_trans l128 (PH.le_trans l158 (PH.le_trans l165 (PH.le_trans l190 (PH.le_trans l197 (PH.le_trans l229 l243)))))) h123).nidx e257
                                      obtain ⟨A263, c264, rfl, h265⟩ := R261
                                      refine StD.takeP (i := 2) (v := (.pointer (some p258))) rfl (fun _ => Yields.idx jx260 ts22 rfl rfl) rfl rfl trivial (by rintro _ _ _ ⟨_, _, _, _, h, _⟩; cases h) (by kernel_rfl) (listed' := #[true, true, true, false, false, false, false, false, false, false, false, false, false]) rfl ?_
                                      refine StD.take [0, 1, 2, 4, 5, 6, 8, 9, 12] (i := 3) (v := (.slice A263 x256.length c264)) rfl (Yields.load rfl (Loads.Fat k262 tc26 rfl)) rfl rfl trivial Among.refl (by rintro _ _ _ ⟨_, _, _, _, h, _⟩; cases h) (by kernel_rfl) (listed' := #[true, true, true, true, false, false, false, false, false, false, false, false, false]) rfl ?_
                                      refine StD.takeP (i := 4) (v := (.slice A129 q125.1.length c130)) rfl (fun _ => Yields.move rfl) rfl rfl trivial (by rintro _ _ _ ⟨_, _, _, _, h, _⟩; cases h) (by kernel_rfl) (listed' := #[true, true, true, true, true, false, false, false, false, false, false, false, false]) rfl ?_
                                      refine StD.takeP (i := 5) (v := (.int .i64 ((s224 : Nat) : Int))) rfl (fun _ => Yields.move rfl) rfl rfl trivial (by rintro _ _ _ ⟨_, _, _, _, h, _⟩; cases h) (by kernel_rfl) (listed' := #[true, true, true, true, true, true, false, false, false, false, false, false, false]) rfl ?_
                                      obtain ⟨x267, e268, hm⟩ := bS hm
                                      obtain ⟨p269, cs270, jx271, R272, k273⟩ := (Fsl.mono (PH.le_trans l158 (PH.le_trans l165 (PH.le_trans l190 (PH.le_trans l197 (PH.le_trans l229 l243))))) h131).nidx e268
                                      obtain ⟨A274, c275, rfl, h276⟩ := R272
                                      refine StD.takeP (i := 6) (v := (.pointer (some p269))) rfl (fun _ => Yields.idx jx271 ts22 rfl rfl) rfl rfl trivial (by rintro _ _ _ ⟨_, _, _, _, h, _⟩; cases h) (by kernel_rfl) (listed' := #[true, true, true, true, true, true, true, false, false, false, false, false, false]) rfl ?_
                                      refine StD.take [0, 1, 2, 4, 5, 6, 8, 9, 12] (i := 7) (v := (.slice A274 x267.length c275)) rfl (Yields.load rfl (Loads.Fat k273 tc26 rfl)) rfl rfl trivial Among.refl (by rintro _ _ _ ⟨_, _, _, _, h, _⟩; cases h) (by kernel_rfl) (listed' := #[true, true, true, true, true, true, true, true, false, false, false, false, false]) rfl ?_
                                      refine StD.takeP (i := 8) (v := (.int .i64 ((s238 : Nat) : Int))) rfl (fun _ => Yields.move rfl) rfl rfl trivial (by rintro _ _ _ ⟨_, _, _, _, h, _⟩; cases h) (by kernel_rfl) (listed' := #[true, true, true, true, true, true, true, true, true, false, false, false, false]) rfl ?_
                                      obtain ⟨x278, e279, hm⟩ := bS hm
                                      obtain ⟨p280, cs281, jx282, R283, k284⟩ := h276.nidx e279
                                      obtain rfl := R283
                                      refine StD.takeP (i := 9) (v := (.pointer (some p280))) rfl (fun _ => Yields.idx jx282 ts26 rfl rfl) rfl rfl trivial (by rintro _ _ _ ⟨_, _, _, _, h, _⟩; cases h) (by kernel_rfl) (listed' := #[true, true, true, true, true, true, true, true, true, true, false, false, false]) rfl ?_
                                      refine StD.take [0, 1, 2, 4, 5, 6, 8, 9, 12] (i := 10) (v := (.int .i64 x278)) rfl (Yields.load rfl (Loads.Fat k284 tc3 rfl)) rfl rfl trivial Among.refl (by rintro _ _ _ ⟨_, _, _, _, h, _⟩; cases h) (by kernel_rfl) (listed' := #[true, true, true, true, true, true, true, true, true, true, true, false, false]) rfl ?_
                                      refine StD.only (i := 11) rfl (by kernel_rfl) (listed' := #[true, true, true, true, true, true, true, true, true, true, true, true, false]) rfl ?_
                                      intro hcl285
                                      obtain ⟨q286, e287, hm⟩ := bS hm
                                      refine St.call [] (m_law11_in_sp h265 e287) rfl (fun _ ha => ev2 ha rfl rfl) rfl en11 rfl rfl trivial ?_
                                      rintro _ F288 _ ⟨rfl, rfl⟩ l289
                                      refine StD.next hcl285 (fun h => by cases h) ?_
                                      refine StD.takeP (i := 12) (v := (.bool (!q286))) rfl (fun _ => Yields.not rfl) rfl rfl trivial (by rintro _ _ _ ⟨_, _, _, _, h, _⟩; cases h) (by kernel_rfl) (listed' := #[true, true, true, true, true, true, true, true, true, true, true, true, true]) rfl ?_
                                      refine StD.done (by kernel_rfl) ?_
                                      refine St.norm ?_
                                      refine St.cond_b rfl ?_ ?_
                                      · intro q290
                                        replace q290 : ¬ (q286 = true) := nb_t q290
                                        replace hm := iF hm q290
                                        refine St.seq ?_
                                        refine St.region ?_
                                        refine St.val (v := (.bool false)) (Yields.assign rfl) trivial rfl rfl ?_
                                        refine St.nil ?_
                                        refine St.norm ?_
                                        refine St.ret ?_
                                        refine St.inret ?_
                                        refine St.thenret ?_
                                        refine St.thenret ?_
                                        refine St.inret ?_
                                        refine St.inret ?_
                                        refine St.thenret ?_
                                        refine St.thenret ?_
                                        refine St.inret ?_
                                        refine St.thenret ?_
                                        obtain rfl := sI hm
                                        obtain rfl := aR ho241
                                        obtain rfl := aR ho235
                                        obtain rfl := aR ho227
                                        obtain rfl := aR ho221
                                        exact St.doneR1 rfl rfl ⟨rfl, rfl⟩ (fun w hs => Among.of Among.none w hs)
                                      · intro q291
                                        replace q291 : q286 = true := nb_f q291
                                        replace hm := iT hm q291
                                        refine St.skip ?_
                                        refine St.innorm ?_
                                        refine St.norm ?_
                                        refine St.region ?_
                                        refine St.val (v := (.int .i64 ((s238 : Nat) : Int))) (Yields.move rfl) trivial rfl rfl ?_
                                        refine St.val (v := (.int .i64 ((s238 + 1 : Nat) : Int))) (Yields.addn (j := 1) rfl rfl rfl (by have q_0 := q255; have q_1 := h253.bnd.2; omega)) trivial rfl rfl ?_
                                        refine St.val (v := (.int .i64 ((s238 + 1 : Nat) : Int))) (Yields.assign rfl) trivial rfl rfl ?_
                                        refine St.nil ?_
                                        refine St.norm ?_
                                        obtain rfl := sI hm
                                        intro a w ha hs
                                        exact ⟨s238 + 1, aL ho241, F288, (PH.le_trans l243 l289), ha.covers ⟨rfl, rfl, rfl, rfl, trivial⟩, (Among.of Among.none _ hs)⟩
                                    · intro q292
                                      replace q292 : ¬ (((s238 : Nat) : Int) < ((x244.length : Nat) : Int)) := of_decide_eq_false q292
                                      replace hm := iF hm q292
                                      refine St.exit ?_
                                      refine St.thenexit ?_
                                      refine St.thenexit ?_
                                      refine St.inexit ?_
                                      refine St.innorm ?_
                                      obtain rfl := sI hm
                                      obtain rfl := aR ho241
                                      intro a w ha hs
                                      exact ⟨(), rfl, F242, l243, ha.covers ⟨rfl, rfl, rfl, trivial⟩, (Among.of Among.none _ hs)⟩
                                · rintro a w ⟨z231, rfl, F232, l233, ha, hs⟩
                                  replace hm := aL ho235
                                  refine St.use (?_ : St _ _ _ _ _ _) ha hs
                                  clear ha hs a w
                                  refine St.region ?_
                                  refine St.val (v := (.int .i64 ((s224 : Nat) : Int))) (Yields.move rfl) trivial rfl rfl ?_
                                  refine St.val (v := (.int .i64 ((s224 + 1 : Nat) : Int))) (Yields.addn (j := 1) rfl rfl rfl (by have q_0 := q230; have q_1 := h131.bnd.2; omega)) trivial rfl rfl ?_
                                  refine St.val (v := (.int .i64 ((s224 + 1 : Nat) : Int))) (Yields.assign rfl) trivial rfl rfl ?_
                                  refine St.nil ?_
                                  refine St.norm ?_
                                  obtain rfl := sI hm
                                  intro a w ha hs
                                  exact ⟨s224 + 1, aL ho227, F232, (PH.le_trans l229 l233), ha.covers ⟨rfl, rfl, rfl, trivial⟩, (Among.of Among.none _ hs)⟩
                              · intro q293
                                replace q293 : ¬ (((s224 : Nat) : Int) < ((q125.1.length : Nat) : Int)) := of_decide_eq_false q293
                                replace hm := iF hm q293
                                refine St.exit ?_
                                refine St.thenexit ?_
                                refine St.thenexit ?_
                                refine St.inexit ?_
                                obtain rfl := sI hm
                                obtain rfl := aR ho227
                                intro a w ha hs
                                exact ⟨(), rfl, F228, l229, ha.covers trivial, (Among.of Among.none _ hs)⟩
                          · rintro a w ⟨z217, rfl, F218, l219, ha, hs⟩
                            replace hm := aL ho221
                            refine St.use (?_ : St _ _ _ _ _ _) ha hs
                            clear ha hs a w
                            refine St.seq ?_
                            refine St.region ?_
                            obtain ⟨q294, e295, hm⟩ := bS hm
                            refine St.call [] (m_law11_known_sp e295) rfl (fun _ _ => ev0) rfl en8 rfl rfl trivial ?_
                            rintro _ F296 _ ⟨rfl, rfl⟩ l297
                            refine St.val (v := (.bool q294)) (Yields.assign rfl) trivial rfl rfl ?_
                            refine St.nil ?_
                            refine St.norm ?_
                            refine St.ret ?_
                            obtain rfl := sI hm
                            exact St.doneR1 rfl rfl ⟨rfl, rfl⟩ (fun w hs => Among.of Among.none w hs)

end Go.Proofs.Ytopmcncaanjboaa
