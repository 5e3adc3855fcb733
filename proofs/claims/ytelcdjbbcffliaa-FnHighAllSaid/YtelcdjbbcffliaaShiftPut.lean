/- The two stores of a round of impl.shift's first loop. No conditions. -/
import Derived.Test.YtelcdjbbcffliaaShiftFill
namespace Go.Proofs.Ytelcdjbbcffliaa
open Go.RowKit Go.DC Go.Shelf
attribute [local go_sem] Oper.semAt_some
noncomputable def putCode9 : Code := ((Try.f43.body.bind (regionAt 9)).getD .skip)
set_option maxRecDepth 1000000 in
set_option maxHeartbeats 8000000 in
theorem put9_any (u0 u1 u2 u3 u4 u5 u6 u7 u8 u9 u10 u12 u18 u19 u20 u21 u22 u23 u24 u25 u26 u27 u28 u29 u30 u31 u32 u33 u34 u35 u36 u37 u38 u39 u40 u41 u42 u43 u44 u45 u46 u47 u48 u49 u50 u51 u52 u53 u54 u55 u56 u57 u58 u59 u60 u61 u62 u63 u64 u65 u66 u67 u68 u69 u70 u71 u72 u73 u74 u75 u76 u77 u78 u79 u80 u81 u82 u83 u84 u85 u86 u87 u88 u89 u90 u91 u92 u93 u94 u95 u96 u97 u98 u99 u100 u101 u102 u103 u104 u105 u106 u107 u108 u109 u110 u111 u112 u113 u114 u115 u116 u117 u118 u119 u120 u121 u122 u123 u124 u125 u126 u127 u128 u129 u130 u131 u132 u133 u134 u135 u136 u137 u138 u139 u140 u141 u142 u143 u144 u145 u146 u147 u148 u149 u150 u151 u152 u153 u154 u155 u156 u157 u158 u159 u160 u161 u162 u163 u164 u165 u166 u167 u168 u169 u170 u171 u172 u173 : Value) {ll n : Nat} {Q : Exit → Act → World → Prop} (p11 p13 H N k l v : Nat) (y : Int) (o g g' ck ck' cr : Nat) (W : World)
    (hvc : (H : Int) + (l : Int) = (v : Int)) (hvw : IntKind.i64.wrap (v : Int) = (v : Int)) (hvN : (v : Int) < (N : Int)) (hkN : (k : Int) < (N : Int))
    (cH : W.cell? ⟨p11, 0, none⟩ = some (.int .i64 (H : Int))) (cR : W.cell? ⟨p13, 0, none⟩ = some (.slice (some ⟨o, 0, none⟩) N cr))
    (co1 : W.cell? ⟨o, k, none⟩ = some (.slice (some ⟨g, 0, none⟩) N ck)) (co2 : W.cell? ⟨o, v, none⟩ = some (.slice (some ⟨g', 0, none⟩) N ck'))
    (z z' : Int) (cg : W.cell? ⟨g, v, none⟩ = some (.int .i64 z)) (fg : W.frozen? ⟨g, v, none⟩ = false) (cg' : W.cell? ⟨g', k, none⟩ = some (.int .i64 z')) (fg' : W.frozen? ⟨g', k, none⟩ = false)
    (hgg2 : g' ≠ g) (hop : g ≠ p13) (hop' : g' ≠ p13) (hop11 : g ≠ p11) (hop11' : g' ≠ p11)
    (hP : ∀ c a a' w, Q (.panic c) a w → Q (.panic c) a' w)
    (hQ : ∀ a, Q .normal a (((W.setCell ⟨g, v, none⟩ (.int .i64 y)).setCell ⟨g', k, none⟩ (.int .i64 3168)).drew)) :
    putCode9.wpIn (Fence.wide.inRound ll) n Try.prog Q ⟨#[u0, u1, u2, u3, u4, u5, u6, u7, u8, u9, u10, .pointer (some ⟨p11, 0, none⟩), u12, .pointer (some ⟨p13, 0, none⟩), .int .i64 (k : Int), .int .i64 (l : Int), .int .i64 y, .int .i64 3168, u18, u19, u20, u21, u22, u23, u24, u25, u26, u27, u28, u29, u30, u31, u32, u33, u34, u35, u36, u37, u38, u39, u40, u41, u42, u43, u44, u45, u46, u47, u48, u49, u50, u51, u52, u53, u54, u55, u56, u57, u58, u59, u60, u61, u62, u63, u64, u65, u66, u67, u68, u69, u70, u71, u72, u73, u74, u75, u76, u77, u78, u79, u80, u81, u82, u83, u84, u85, u86, u87, u88, u89, u90, u91, u92, u93, u94, u95, u96, u97, u98, u99, u100, u101, u102, u103, u104, u105, u106, u107, u108, u109, u110, u111, u112, u113, u114, u115, u116, u117, u118, u119, u120, u121, u122, u123, u124, u125, u126, u127, u128, u129, u130, u131, u132, u133, u134, u135, u136, u137, u138, u139, u140, u141, u142, u143, u144, u145, u146, u147, u148, u149, u150, u151, u152, u153, u154, u155, u156, u157, u158, u159, u160, u161, u162, u163, u164, u165, u166, u167, u168, u169, u170, u171, u172, u173], []⟩ W := by
  have HQ := Lib.hid hQ; clear hQ
  have hmix : Try.prog.follows .mixedOrders = true := by kernel_rfl
  conv => arg 4; whnf
  refine wpR_any hmix (by kernel_rfl) ?_
  change wpAny _ _ _ _ _ _ _ (World.drew _)
  refine wpAny_take (i := 13) (v := .int .i64 k) rfl (by kernel_rfl) (by kernel_rfl) (by kernel_rfl) (fun _ _ _ h => ⟨by simp, hP _ _ _ _ h.2⟩) (Or.inl ⟨by rfl, fun w => by go_simp⟩) ?_
  refine wpAny_take (i := 15) (v := .int .i64 3168) rfl (by kernel_rfl) (by kernel_rfl) (by kernel_rfl) (fun _ _ _ h => ⟨by simp, hP _ _ _ _ h.2⟩) (Or.inl ⟨by rfl, fun w => by go_simp⟩) ?_
  refine wpAny_ordL (hd := fun k => decide (k < 17)) 17 [0, 1, 2, 3, 4, 5, 6, 7, 8, 9, 10, 11, 12, 14, 16] (fun l => l.take 13 ++ ((l.drop 14).take 1 ++ (l.drop 16).take 1)) (by kernel_rfl) (by rfl) (by kernel_rfl) (by kernel_rfl) (by kernel_rfl) ?_
  simp only [List.take_succ_cons, List.take_zero, List.drop_succ_cons, List.drop_zero, List.cons_append, List.nil_append]
  repeat still_step
  refine wpStill_nil ?_
  go_wp2_with fail
  refine noOut_normal ?_
  exact HQ.out _
noncomputable def putCode10 : Code := ((Try.f43.body.bind (regionAt 10)).getD .skip)
set_option maxRecDepth 1000000 in
set_option maxHeartbeats 8000000 in
theorem put10_any (u0 u1 u2 u3 u4 u5 u6 u7 u8 u9 u10 u12 u18 u19 u20 u21 u22 u23 u24 u25 u26 u27 u28 u29 u30 u31 u32 u33 u34 u35 u36 u37 u38 u39 u40 u41 u42 u43 u44 u45 u46 u47 u48 u49 u50 u51 u52 u53 u54 u55 u56 u57 u58 u59 u60 u61 u62 u63 u64 u65 u66 u67 u68 u69 u70 u71 u72 u73 u74 u75 u76 u77 u78 u79 u80 u81 u82 u83 u84 u85 u86 u87 u88 u89 u90 u91 u92 u93 u94 u95 u96 u97 u98 u99 u100 u101 u102 u103 u104 u105 u106 u107 u108 u109 u110 u111 u112 u113 u114 u115 u116 u117 u118 u119 u120 u121 u122 u123 u124 u125 u126 u127 u128 u129 u130 u131 u132 u133 u134 u135 u136 u137 u138 u139 u140 u141 u142 u143 u144 u145 u146 u147 u148 u149 u150 u151 u152 u153 u154 u155 u156 u157 u158 u159 u160 u161 u162 u163 u164 u165 u166 u167 u168 u169 u170 u171 u172 u173 : Value) {ll n : Nat} {Q : Exit → Act → World → Prop} (p11 p13 H N k l v : Nat) (y : Int) (o g g' ck ck' cr : Nat) (W : World)
    (hvc : (H : Int) + (l : Int) = (v : Int)) (hvw : IntKind.i64.wrap (v : Int) = (v : Int)) (hvN : (v : Int) < (N : Int)) (hkN : (k : Int) < (N : Int))
    (cH : W.cell? ⟨p11, 0, none⟩ = some (.int .i64 (H : Int))) (cR : W.cell? ⟨p13, 0, none⟩ = some (.slice (some ⟨o, 0, none⟩) N cr))
    (co1 : W.cell? ⟨o, k, none⟩ = some (.slice (some ⟨g, 0, none⟩) N ck)) (co2 : W.cell? ⟨o, v, none⟩ = some (.slice (some ⟨g', 0, none⟩) N ck'))
    (z z' : Int) (cg : W.cell? ⟨g, v, none⟩ = some (.int .i64 z)) (fg : W.frozen? ⟨g, v, none⟩ = false) (cg' : W.cell? ⟨g', k, none⟩ = some (.int .i64 z')) (fg' : W.frozen? ⟨g', k, none⟩ = false)
    (hgg2 : g' ≠ g) (hop : g ≠ p13) (hop' : g' ≠ p13) (hop11 : g ≠ p11) (hop11' : g' ≠ p11)
    (hP : ∀ c a a' w, Q (.panic c) a w → Q (.panic c) a' w)
    (hQ : ∀ a, Q .normal a (((W.setCell ⟨g, v, none⟩ (.int .i64 3168)).setCell ⟨g', k, none⟩ (.int .i64 y)).drew)) :
    putCode10.wpIn (Fence.wide.inRound ll) n Try.prog Q ⟨#[u0, u1, u2, u3, u4, u5, u6, u7, u8, u9, u10, .pointer (some ⟨p11, 0, none⟩), u12, .pointer (some ⟨p13, 0, none⟩), .int .i64 (k : Int), .int .i64 (l : Int), .int .i64 y, .int .i64 3168, u18, u19, u20, u21, u22, u23, u24, u25, u26, u27, u28, u29, u30, u31, u32, u33, u34, u35, u36, u37, u38, u39, u40, u41, u42, u43, u44, u45, u46, u47, u48, u49, u50, u51, u52, u53, u54, u55, u56, u57, u58, u59, u60, u61, u62, u63, u64, u65, u66, u67, u68, u69, u70, u71, u72, u73, u74, u75, u76, u77, u78, u79, u80, u81, u82, u83, u84, u85, u86, u87, u88, u89, u90, u91, u92, u93, u94, u95, u96, u97, u98, u99, u100, u101, u102, u103, u104, u105, u106, u107, u108, u109, u110, u111, u112, u113, u114, u115, u116, u117, u118, u119, u120, u121, u122, u123, u124, u125, u126, u127, u128, u129, u130, u131, u132, u133, u134, u135, u136, u137, u138, u139, u140, u141, u142, u143, u144, u145, u146, u147, u148, u149, u150, u151, u152, u153, u154, u155, u156, u157, u158, u159, u160, u161, u162, u163, u164, u165, u166, u167, u168, u169, u170, u171, u172, u173], []⟩ W := by
  have HQ := Lib.hid hQ; clear hQ
  have hmix : Try.prog.follows .mixedOrders = true := by kernel_rfl
  conv => arg 4; whnf
  refine wpR_any hmix (by kernel_rfl) ?_
  change wpAny _ _ _ _ _ _ _ (World.drew _)
  refine wpAny_take (i := 13) (v := .int .i64 k) rfl (by kernel_rfl) (by kernel_rfl) (by kernel_rfl) (fun _ _ _ h => ⟨by simp, hP _ _ _ _ h.2⟩) (Or.inl ⟨by rfl, fun w => by go_simp⟩) ?_
  refine wpAny_take (i := 15) (v := .int .i64 y) rfl (by kernel_rfl) (by kernel_rfl) (by kernel_rfl) (fun _ _ _ h => ⟨by simp, hP _ _ _ _ h.2⟩) (Or.inl ⟨by rfl, fun w => by go_simp⟩) ?_
  refine wpAny_ordL (hd := fun k => decide (k < 17)) 17 [0, 1, 2, 3, 4, 5, 6, 7, 8, 9, 10, 11, 12, 14, 16] (fun l => l.take 13 ++ ((l.drop 14).take 1 ++ (l.drop 16).take 1)) (by kernel_rfl) (by rfl) (by kernel_rfl) (by kernel_rfl) (by kernel_rfl) ?_
  simp only [List.take_succ_cons, List.take_zero, List.drop_succ_cons, List.drop_zero, List.cons_append, List.nil_append]
  repeat still_step
  refine wpStill_nil ?_
  go_wp2_with fail
  refine noOut_normal ?_
  exact HQ.out _
end Go.Proofs.Ytelcdjbbcffliaa
