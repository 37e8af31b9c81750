/-
  The way of walking: the steps that need no hand, laid down once as what a parameter is filled with. No condition.
-/
import Derived.Lib.AppendZerosOnto
import Derived.Test.YtoobhebbgbhahaaPackG0
namespace Go.Proofs.Ytoobhebbgbhahaa
open Go.RowKit

/-- What is still to be shown, so that no tactic takes it for something else. -/
structure Owe (K : Prop) : Prop where
  out : K
theorem go_ {G K : Prop} (k : K) (h : Owe K → G := by intro k; (first | (refine is_cons ?_; first | (refine is_guard ?_; first | refine hl_run (by rfl) (by rfl) rfl ?_ | refine hl_pass (by rfl) (by rfl) (by rfl) rfl ?_ | refine hl_passU (by rfl) (by rfl) rfl ?_) | (refine is_move ?_; first | refine hl_moveI rfl rfl ?_ | refine hl_moveB rfl rfl ?_ | refine hl_moveP rfl rfl ?_ | refine hl_moveS rfl rfl ?_ | refine hl_moveT rfl rfl ?_ | refine hl_moveA rfl rfl ?_ | refine hl_moveU rfl rfl ?_) | (refine is_load ?_; first | refine hl_loadP rfl (by with_reducible assumption) (by omega) rfl ?_ | refine hl_loadR rfl (by with_reducible assumption) (by first | exact Imp.refl _ | exact Imp.drop (Imp.refl _) | exact Imp.drop (Imp.drop (Imp.refl _)) | exact Imp.drop (Imp.drop (Imp.drop (Imp.refl _))) | exact Imp.drop (Imp.drop (Imp.drop (Imp.drop (Imp.refl _)))) | exact Imp.drop (Imp.drop (Imp.drop (Imp.drop (Imp.drop (Imp.refl _))))) | exact Imp.drop (Imp.drop (Imp.drop (Imp.drop (Imp.drop (Imp.drop (Imp.refl _)))))) | exact Imp.drop (Imp.drop (Imp.drop (Imp.drop (Imp.drop (Imp.drop (Imp.drop (Imp.refl _))))))) | exact Imp.drop (Imp.drop (Imp.drop (Imp.drop (Imp.drop (Imp.drop (Imp.drop (Imp.drop (Imp.refl _))))))))) (by omega) rfl ?_ | refine hl_load1 rfl (by first | exact .here | exact (.there .here) | exact (.there (.there .here)) | exact (.there (.there (.there .here))) | exact (.there (.there (.there (.there .here)))) | exact (.there (.there (.there (.there (.there .here))))) | exact (.there (.there (.there (.there (.there (.there .here)))))) | exact (.there (.there (.there (.there (.there (.there (.there .here))))))) | exact (.there (.there (.there (.there (.there (.there (.there (.there .here))))))))) (by first | with_reducible rfl | with_reducible assumption | exact tab_get (by omega) | rfl | assumption) rfl ?_ | refine hl_loadW rfl (by first | exact .here | exact (.there .here) | exact (.there (.there .here)) | exact (.there (.there (.there .here))) | exact (.there (.there (.there (.there .here)))) | exact (.there (.there (.there (.there (.there .here))))) | exact (.there (.there (.there (.there (.there (.there .here)))))) | exact (.there (.there (.there (.there (.there (.there (.there .here))))))) | exact (.there (.there (.there (.there (.there (.there (.there (.there .here))))))))) (by first | rfl | assumption | (simp only [List.length_cons, List.length_nil, List.length_set, List.length_map, List.length_append, List.length_replicate, length_tab]; omega)) rfl ?_) | (refine is_fieldAddr ?_; first | refine hl_fieldAddr0 rfl rfl ?_ | refine hl_fieldAddr rfl rfl ?_) | (refine is_nilCheck ?_; first | refine hl_nilCheck rfl rfl ?_) | (refine is_assign ?_; first | refine hl_assignI rfl rfl ?_ | refine hl_assignB rfl rfl ?_ | refine hl_assignP rfl rfl ?_ | refine hl_assignS rfl rfl ?_ | refine hl_assignT rfl rfl ?_ | refine hl_assignA rfl rfl ?_ | refine hl_assignU rfl rfl ?_) | (refine is_add ?_; first | refine hl_add64e rfl rfl (by simp only [Int.reduceAdd]; rfl) (by decide) (by decide) rfl ?_ | refine hl_add64 rfl rfl (by omega) (by omega) rfl ?_ | refine hl_add rfl rfl rfl ?_) | (refine is_indexAddr ?_; first | refine hl_indexAddr0 rfl rfl (by first | with_reducible exact litc _ | rfl) (by first | assumption | omega) rfl ?_ | refine hl_indexArr0 rfl rfl (by first | with_reducible exact litc _ | rfl) (by first | assumption | omega) rfl ?_ | refine hl_indexAddr1 rfl rfl (by first | with_reducible exact litc _ | rfl) (by first | assumption | omega) rfl ?_ | refine hl_indexAddr rfl rfl (by first | with_reducible exact litc _ | rfl) (by first | assumption | omega) rfl ?_ | refine hl_indexArr1 rfl rfl (by first | with_reducible exact litc _ | rfl) (by first | assumption | omega) rfl ?_ | refine hl_indexArrZ rfl rfl (by first | with_reducible exact litc _ | rfl) (by first | assumption | omega) rfl ?_ | refine hl_indexArr rfl rfl (by first | with_reducible exact litc _ | rfl) (by first | assumption | omega) rfl ?_) | (refine is_sub ?_; first | refine hl_sub64e rfl rfl (by simp only [Int.reduceSub]; rfl) (by decide) (by decide) rfl ?_ | refine hl_sub64 rfl rfl (by omega) (by omega) rfl ?_ | refine hl_sub rfl rfl rfl ?_) | (refine is_mul ?_; first | refine hl_mul64e rfl rfl (by simp only [Int.reduceMul]; rfl) (by decide) (by decide) rfl ?_ | refine hl_mul64 rfl rfl (by omega) (by omega) rfl ?_ | refine hl_mul rfl rfl rfl ?_) | (refine is_lss ?_; first | refine hl_lssT rfl rfl (by omega) rfl ?_ | refine hl_lssF rfl rfl (by omega) rfl ?_ | refine hl_lss rfl rfl rfl ?_) | (refine is_leq ?_; first | refine hl_leqT rfl rfl (by omega) rfl ?_ | refine hl_leqF rfl rfl (by omega) rfl ?_ | refine hl_leq rfl rfl rfl ?_) | (refine is_gtr ?_; first | refine hl_gtrT rfl rfl (by omega) rfl ?_ | refine hl_gtrF rfl rfl (by omega) rfl ?_ | refine hl_gtr rfl rfl rfl ?_) | (refine is_geq ?_; first | refine hl_geqT rfl rfl (by omega) rfl ?_ | refine hl_geqF rfl rfl (by omega) rfl ?_ | refine hl_geq rfl rfl rfl ?_) | (refine is_eql ?_; first | refine hl_eqlT rfl rfl (by omega) rfl ?_ | refine hl_eqlF rfl rfl (by omega) rfl ?_ | refine hl_eql rfl rfl rfl ?_ | refine hl_eqPnil rfl rfl rfl ?_ | refine hl_eqPnn rfl rfl rfl ?_ | refine hl_eqSnil rfl rfl rfl ?_ | refine hl_eqSnn rfl rfl rfl ?_ | refine hl_eqB rfl rfl rfl ?_) | (refine is_neq ?_; first | refine hl_neqT rfl rfl (by omega) rfl ?_ | refine hl_neqF rfl rfl (by omega) rfl ?_ | refine hl_neq rfl rfl rfl ?_ | refine hl_nePnil rfl rfl rfl ?_ | refine hl_neB rfl rfl rfl ?_) | (refine is_un ?_; first | refine hl_not rfl rfl ?_ | refine hl_neg64 rfl (by omega) (by omega) rfl ?_ | refine hl_neg rfl rfl ?_) | (refine is_pick ?_; first | refine hl_pickTB rfl rfl rfl ?_ | refine hl_pickFB rfl rfl rfl ?_ | refine hl_pickTI rfl rfl rfl ?_ | refine hl_pickFI rfl rfl rfl ?_) | (refine is_quo ?_; first | refine hl_quo64 rfl rfl (by omega) (by omega) (by omega) rfl ?_ | refine hl_quo rfl rfl (by omega) rfl ?_) | (refine is_rem ?_; first | refine hl_rem64 rfl rfl (by omega) (by omega) rfl ?_ | refine hl_rem rfl rfl (by omega) rfl ?_) | (refine is_shl ?_; first | refine hl_shl64 rfl rfl (by first | with_reducible exact litc _ | rfl) (by decide) (by omega) rfl ?_) | (refine is_shr ?_; first | refine hl_shr' rfl rfl (by first | with_reducible exact litc _ | rfl) (by first | decide | (simp only [IntKind.bits]; omega)) rfl ?_) | (refine is_shl ?_; first | refine hl_shl' rfl rfl (by first | with_reducible exact litc _ | rfl) (by first | decide | (simp only [IntKind.bits]; omega)) rfl ?_) | (refine is_and ?_; first | refine hl_and rfl rfl rfl ?_) | (refine is_or ?_; first | refine hl_or rfl rfl rfl ?_) | (refine is_xor ?_; first | refine hl_xor rfl rfl rfl ?_) | (refine is_conv ?_; first | refine hl_convI64 rfl (by omega) (by omega) rfl ?_ | refine hl_convInt rfl rfl ?_) | (refine is_call ?_; first | refine hl_len rfl rfl ?_ | refine hl_lenArr rfl ?_ | refine hl_min rfl rfl rfl ?_ | refine hl_max rfl rfl rfl ?_) | (refine is_build ?_; first | refine hl_build rfl (by simp [fillP, evP, ev, updO, upd, argFr, ofL, Value.cells]; rfl) rfl ?_ | refine hl_buildArr rfl (by simp [fillP, evP, ev, updO, upd, argFr, ofL, Value.cells]; rfl) rfl ?_) | (refine is_index ?_; first | refine hl_index rfl rfl (by first | with_reducible exact litc _ | rfl) (by first | assumption | omega) (by first | with_reducible rfl | with_reducible assumption | exact tab_get (by omega) | rfl | assumption) rfl ?_) | (refine is_extract ?_; first | refine hl_extract rfl (by rfl) rfl ?_) | (refine is_store ?_; first | refine hl_storeI rfl rfl (by first | exact .here | exact (.there .here) | exact (.there (.there .here)) | exact (.there (.there (.there .here))) | exact (.there (.there (.there (.there .here)))) | exact (.there (.there (.there (.there (.there .here))))) | exact (.there (.there (.there (.there (.there (.there .here)))))) | exact (.there (.there (.there (.there (.there (.there (.there .here))))))) | exact (.there (.there (.there (.there (.there (.there (.there (.there .here))))))))) (by first | decide | (simp only [List.length_cons, List.length_nil, List.length_set, List.length_map, List.length_append, List.length_replicate, length_tab]; omega) | assumption) rfl ?_ | refine hl_storeB rfl rfl (by first | exact .here | exact (.there .here) | exact (.there (.there .here)) | exact (.there (.there (.there .here))) | exact (.there (.there (.there (.there .here)))) | exact (.there (.there (.there (.there (.there .here))))) | exact (.there (.there (.there (.there (.there (.there .here)))))) | exact (.there (.there (.there (.there (.there (.there (.there .here))))))) | exact (.there (.there (.there (.there (.there (.there (.there (.there .here))))))))) (by first | decide | (simp only [List.length_cons, List.length_nil, List.length_set, List.length_map, List.length_append, List.length_replicate, length_tab]; omega) | assumption) rfl ?_ | refine hl_storeP rfl rfl (by first | exact .here | exact (.there .here) | exact (.there (.there .here)) | exact (.there (.there (.there .here))) | exact (.there (.there (.there (.there .here)))) | exact (.there (.there (.there (.there (.there .here))))) | exact (.there (.there (.there (.there (.there (.there .here)))))) | exact (.there (.there (.there (.there (.there (.there (.there .here))))))) | exact (.there (.there (.there (.there (.there (.there (.there (.there .here))))))))) (by first | decide | (simp only [List.length_cons, List.length_nil, List.length_set, List.length_map, List.length_append, List.length_replicate, length_tab]; omega) | assumption) rfl ?_ | refine hl_storeS rfl rfl (by first | exact .here | exact (.there .here) | exact (.there (.there .here)) | exact (.there (.there (.there .here))) | exact (.there (.there (.there (.there .here)))) | exact (.there (.there (.there (.there (.there .here))))) | exact (.there (.there (.there (.there (.there (.there .here)))))) | exact (.there (.there (.there (.there (.there (.there (.there .here))))))) | exact (.there (.there (.there (.there (.there (.there (.there (.there .here))))))))) (by first | decide | (simp only [List.length_cons, List.length_nil, List.length_set, List.length_map, List.length_append, List.length_replicate, length_tab]; omega) | assumption) rfl ?_ | refine hl_storeT rfl rfl (by first | exact .here | exact (.there .here) | exact (.there (.there .here)) | exact (.there (.there (.there .here))) | exact (.there (.there (.there (.there .here)))) | exact (.there (.there (.there (.there (.there .here))))) | exact (.there (.there (.there (.there (.there (.there .here)))))) | exact (.there (.there (.there (.there (.there (.there (.there .here))))))) | exact (.there (.there (.there (.there (.there (.there (.there (.there .here))))))))) (by first | decide | (simp only [List.length_cons, List.length_nil, List.length_set, List.length_map, List.length_append, List.length_replicate, length_tab]; omega) | assumption) rfl ?_ | refine hl_storeA rfl rfl (by first | exact length_tab _ _ | rfl) (by first | exact tab_one | simp [Value.oneCell']) (by first | exact .here | exact (.there .here) | exact (.there (.there .here)) | exact (.there (.there (.there .here))) | exact (.there (.there (.there (.there .here)))) | exact (.there (.there (.there (.there (.there .here))))) | exact (.there (.there (.there (.there (.there (.there .here)))))) | exact (.there (.there (.there (.there (.there (.there (.there .here))))))) | exact (.there (.there (.there (.there (.there (.there (.there (.there .here))))))))) (by rfl) rfl ?_)) | (refine is_HC ?_; first | refine hc_seq ?_ | refine hc_region ?_ | refine hc_block ?_ | refine hc_true rfl ?_ | refine hc_false rfl ?_ | refine hc_skip ?_ | refine hc_ret ?_ | refine hc_exit ?_) | refine hl_nil_thn ?_ | refine thn_ret ?_ | refine thn_exit ?_ | refine thn_norm ?_ | refine inB_ret ?_ | refine inB_norm ?_ | refine inB_here ?_ | refine inB_there rfl ?_ | refine rc_succ ?_ | refine hl_nil ?_); (repeat (first | (refine is_cons ?_; first | (refine is_guard ?_; first | refine hl_run (by rfl) (by rfl) rfl ?_ | refine hl_pass (by rfl) (by rfl) (by rfl) rfl ?_ | refine hl_passU (by rfl) (by rfl) rfl ?_) | (refine is_move ?_; first | refine hl_moveI rfl rfl ?_ | refine hl_moveB rfl rfl ?_ | refine hl_moveP rfl rfl ?_ | refine hl_moveS rfl rfl ?_ | refine hl_moveT rfl rfl ?_ | refine hl_moveA rfl rfl ?_ | refine hl_moveU rfl rfl ?_) | (refine is_load ?_; first | refine hl_loadP rfl (by with_reducible assumption) (by omega) rfl ?_ | refine hl_loadR rfl (by with_reducible assumption) (by first | exact Imp.refl _ | exact Imp.drop (Imp.refl _) | exact Imp.drop (Imp.drop (Imp.refl _)) | exact Imp.drop (Imp.drop (Imp.drop (Imp.refl _))) | exact Imp.drop (Imp.drop (Imp.drop (Imp.drop (Imp.refl _)))) | exact Imp.drop (Imp.drop (Imp.drop (Imp.drop (Imp.drop (Imp.refl _))))) | exact Imp.drop (Imp.drop (Imp.drop (Imp.drop (Imp.drop (Imp.drop (Imp.refl _)))))) | exact Imp.drop (Imp.drop (Imp.drop (Imp.drop (Imp.drop (Imp.drop (Imp.drop (Imp.refl _))))))) | exact Imp.drop (Imp.drop (Imp.drop (Imp.drop (Imp.drop (Imp.drop (Imp.drop (Imp.drop (Imp.refl _))))))))) (by omega) rfl ?_ | refine hl_load1 rfl (by first | exact .here | exact (.there .here) | exact (.there (.there .here)) | exact (.there (.there (.there .here))) | exact (.there (.there (.there (.there .here)))) | exact (.there (.there (.there (.there (.there .here))))) | exact (.there (.there (.there (.there (.there (.there .here)))))) | exact (.there (.there (.there (.there (.there (.there (.there .here))))))) | exact (.there (.there (.there (.there (.there (.there (.there (.there .here))))))))) (by first | with_reducible rfl | with_reducible assumption | exact tab_get (by omega) | rfl | assumption) rfl ?_ | refine hl_loadW rfl (by first | exact .here | exact (.there .here) | exact (.there (.there .here)) | exact (.there (.there (.there .here))) | exact (.there (.there (.there (.there .here)))) | exact (.there (.there (.there (.there (.there .here))))) | exact (.there (.there (.there (.there (.there (.there .here)))))) | exact (.there (.there (.there (.there (.there (.there (.there .here))))))) | exact (.there (.there (.there (.there (.there (.there (.there (.there .here))))))))) (by first | rfl | assumption | (simp only [List.length_cons, List.length_nil, List.length_set, List.length_map, List.length_append, List.length_replicate, length_tab]; omega)) rfl ?_) | (refine is_fieldAddr ?_; first | refine hl_fieldAddr0 rfl rfl ?_ | refine hl_fieldAddr rfl rfl ?_) | (refine is_nilCheck ?_; first | refine hl_nilCheck rfl rfl ?_) | (refine is_assign ?_; first | refine hl_assignI rfl rfl ?_ | refine hl_assignB rfl rfl ?_ | refine hl_assignP rfl rfl ?_ | refine hl_assignS rfl rfl ?_ | refine hl_assignT rfl rfl ?_ | refine hl_assignA rfl rfl ?_ | refine hl_assignU rfl rfl ?_) | (refine is_add ?_; first | refine hl_add64e rfl rfl (by simp only [Int.reduceAdd]; rfl) (by decide) (by decide) rfl ?_ | refine hl_add64 rfl rfl (by omega) (by omega) rfl ?_ | refine hl_add rfl rfl rfl ?_) | (refine is_indexAddr ?_; first | refine hl_indexAddr0 rfl rfl (by first | with_reducible exact litc _ | rfl) (by first | assumption | omega) rfl ?_ | refine hl_indexArr0 rfl rfl (by first | with_reducible exact litc _ | rfl) (by first | assumption | omega) rfl ?_ | refine hl_indexAddr1 rfl rfl (by first | with_reducible exact litc _ | rfl) (by first | assumption | omega) rfl ?_ | refine hl_indexAddr rfl rfl (by first | with_reducible exact litc _ | rfl) (by first | assumption | omega) rfl ?_ | refine hl_indexArr1 rfl rfl (by first | with_reducible exact litc _ | rfl) (by first | assumption | omega) rfl ?_ | refine hl_indexArrZ rfl rfl (by first | with_reducible exact litc _ | rfl) (by first | assumption | omega) rfl ?_ | refine hl_indexArr rfl rfl (by first | with_reducible exact litc _ | rfl) (by first | assumption | omega) rfl ?_) | (refine is_sub ?_; first | refine hl_sub64e rfl rfl (by simp only [Int.reduceSub]; rfl) (by decide) (by decide) rfl ?_ | refine hl_sub64 rfl rfl (by omega) (by omega) rfl ?_ | refine hl_sub rfl rfl rfl ?_) | (refine is_mul ?_; first | refine hl_mul64e rfl rfl (by simp only [Int.reduceMul]; rfl) (by decide) (by decide) rfl ?_ | refine hl_mul64 rfl rfl (by omega) (by omega) rfl ?_ | refine hl_mul rfl rfl rfl ?_) | (refine is_lss ?_; first | refine hl_lssT rfl rfl (by omega) rfl ?_ | refine hl_lssF rfl rfl (by omega) rfl ?_ | refine hl_lss rfl rfl rfl ?_) | (refine is_leq ?_; first | refine hl_leqT rfl rfl (by omega) rfl ?_ | refine hl_leqF rfl rfl (by omega) rfl ?_ | refine hl_leq rfl rfl rfl ?_) | (refine is_gtr ?_; first | refine hl_gtrT rfl rfl (by omega) rfl ?_ | refine hl_gtrF rfl rfl (by omega) rfl ?_ | refine hl_gtr rfl rfl rfl ?_) | (refine is_geq ?_; first | refine hl_geqT rfl rfl (by omega) rfl ?_ | refine hl_geqF rfl rfl (by omega) rfl ?_ | refine hl_geq rfl rfl rfl ?_) | (refine is_eql ?_; first | refine hl_eqlT rfl rfl (by omega) rfl ?_ | refine hl_eqlF rfl rfl (by omega) rfl ?_ | refine hl_eql rfl rfl rfl ?_ | refine hl_eqPnil rfl rfl rfl ?_ | refine hl_eqPnn rfl rfl rfl ?_ | refine hl_eqSnil rfl rfl rfl ?_ | refine hl_eqSnn rfl rfl rfl ?_ | refine hl_eqB rfl rfl rfl ?_) | (refine is_neq ?_; first | refine hl_neqT rfl rfl (by omega) rfl ?_ | refine hl_neqF rfl rfl (by omega) rfl ?_ | refine hl_neq rfl rfl rfl ?_ | refine hl_nePnil rfl rfl rfl ?_ | refine hl_neB rfl rfl rfl ?_) | (refine is_un ?_; first | refine hl_not rfl rfl ?_ | refine hl_neg64 rfl (by omega) (by omega) rfl ?_ | refine hl_neg rfl rfl ?_) | (refine is_pick ?_; first | refine hl_pickTB rfl rfl rfl ?_ | refine hl_pickFB rfl rfl rfl ?_ | refine hl_pickTI rfl rfl rfl ?_ | refine hl_pickFI rfl rfl rfl ?_) | (refine is_quo ?_; first | refine hl_quo64 rfl rfl (by omega) (by omega) (by omega) rfl ?_ | refine hl_quo rfl rfl (by omega) rfl ?_) | (refine is_rem ?_; first | refine hl_rem64 rfl rfl (by omega) (by omega) rfl ?_ | refine hl_rem rfl rfl (by omega) rfl ?_) | (refine is_shl ?_; first | refine hl_shl64 rfl rfl (by first | with_reducible exact litc _ | rfl) (by decide) (by omega) rfl ?_) | (refine is_shr ?_; first | refine hl_shr' rfl rfl (by first | with_reducible exact litc _ | rfl) (by first | decide | (simp only [IntKind.bits]; omega)) rfl ?_) | (refine is_shl ?_; first | refine hl_shl' rfl rfl (by first | with_reducible exact litc _ | rfl) (by first | decide | (simp only [IntKind.bits]; omega)) rfl ?_) | (refine is_and ?_; first | refine hl_and rfl rfl rfl ?_) | (refine is_or ?_; first | refine hl_or rfl rfl rfl ?_) | (refine is_xor ?_; first | refine hl_xor rfl rfl rfl ?_) | (refine is_conv ?_; first | refine hl_convI64 rfl (by omega) (by omega) rfl ?_ | refine hl_convInt rfl rfl ?_) | (refine is_call ?_; first | refine hl_len rfl rfl ?_ | refine hl_lenArr rfl ?_ | refine hl_min rfl rfl rfl ?_ | refine hl_max rfl rfl rfl ?_) | (refine is_build ?_; first | refine hl_build rfl (by simp [fillP, evP, ev, updO, upd, argFr, ofL, Value.cells]; rfl) rfl ?_ | refine hl_buildArr rfl (by simp [fillP, evP, ev, updO, upd, argFr, ofL, Value.cells]; rfl) rfl ?_) | (refine is_index ?_; first | refine hl_index rfl rfl (by first | with_reducible exact litc _ | rfl) (by first | assumption | omega) (by first | with_reducible rfl | with_reducible assumption | exact tab_get (by omega) | rfl | assumption) rfl ?_) | (refine is_extract ?_; first | refine hl_extract rfl (by rfl) rfl ?_) | (refine is_store ?_; first | refine hl_storeI rfl rfl (by first | exact .here | exact (.there .here) | exact (.there (.there .here)) | exact (.there (.there (.there .here))) | exact (.there (.there (.there (.there .here)))) | exact (.there (.there (.there (.there (.there .here))))) | exact (.there (.there (.there (.there (.there (.there .here)))))) | exact (.there (.there (.there (.there (.there (.there (.there .here))))))) | exact (.there (.there (.there (.there (.there (.there (.there (.there .here))))))))) (by first | decide | (simp only [List.length_cons, List.length_nil, List.length_set, List.length_map, List.length_append, List.length_replicate, length_tab]; omega) | assumption) rfl ?_ | refine hl_storeB rfl rfl (by first | exact .here | exact (.there .here) | exact (.there (.there .here)) | exact (.there (.there (.there .here))) | exact (.there (.there (.there (.there .here)))) | exact (.there (.there (.there (.there (.there .here))))) | exact (.there (.there (.there (.there (.there (.there .here)))))) | exact (.there (.there (.there (.there (.there (.there (.there .here))))))) | exact (.there (.there (.there (.there (.there (.there (.there (.there .here))))))))) (by first | decide | (simp only [List.length_cons, List.length_nil, List.length_set, List.length_map, List.length_append, List.length_replicate, length_tab]; omega) | assumption) rfl ?_ | refine hl_storeP rfl rfl (by first | exact .here | exact (.there .here) | exact (.there (.there .here)) | exact (.there (.there (.there .here))) | exact (.there (.there (.there (.there .here)))) | exact (.there (.there (.there (.there (.there .here))))) | exact (.there (.there (.there (.there (.there (.there .here)))))) | exact (.there (.there (.there (.there (.there (.there (.there .here))))))) | exact (.there (.there (.there (.there (.there (.there (.there (.there .here))))))))) (by first | decide | (simp only [List.length_cons, List.length_nil, List.length_set, List.length_map, List.length_append, List.length_replicate, length_tab]; omega) | assumption) rfl ?_ | refine hl_storeS rfl rfl (by first | exact .here | exact (.there .here) | exact (.there (.there .here)) | exact (.there (.there (.there .here))) | exact (.there (.there (.there (.there .here)))) | exact (.there (.there (.there (.there (.there .here))))) | exact (.there (.there (.there (.there (.there (.there .here)))))) | exact (.there (.there (.there (.there (.there (.there (.there .here))))))) | exact (.there (.there (.there (.there (.there (.there (.there (.there .here))))))))) (by first | decide | (simp only [List.length_cons, List.length_nil, List.length_set, List.length_map, List.length_append, List.length_replicate, length_tab]; omega) | assumption) rfl ?_ | refine hl_storeT rfl rfl (by first | exact .here | exact (.there .here) | exact (.there (.there .here)) | exact (.there (.there (.there .here))) | exact (.there (.there (.there (.there .here)))) | exact (.there (.there (.there (.there (.there .here))))) | exact (.there (.there (.there (.there (.there (.there .here)))))) | exact (.there (.there (.there (.there (.there (.there (.there .here))))))) | exact (.there (.there (.there (.there (.there (.there (.there (.there .here))))))))) (by first | decide | (simp only [List.length_cons, List.length_nil, List.length_set, List.length_map, List.length_append, List.length_replicate, length_tab]; omega) | assumption) rfl ?_ | refine hl_storeA rfl rfl (by first | exact length_tab _ _ | rfl) (by first | exact tab_one | simp [Value.oneCell']) (by first | exact .here | exact (.there .here) | exact (.there (.there .here)) | exact (.there (.there (.there .here))) | exact (.there (.there (.there (.there .here)))) | exact (.there (.there (.there (.there (.there .here))))) | exact (.there (.there (.there (.there (.there (.there .here)))))) | exact (.there (.there (.there (.there (.there (.there (.there .here))))))) | exact (.there (.there (.there (.there (.there (.there (.there (.there .here))))))))) (by rfl) rfl ?_)) | (refine is_HC ?_; first | refine hc_seq ?_ | refine hc_region ?_ | refine hc_block ?_ | refine hc_true rfl ?_ | refine hc_false rfl ?_ | refine hc_skip ?_ | refine hc_ret ?_ | refine hc_exit ?_) | refine hl_nil_thn ?_ | refine thn_ret ?_ | refine thn_exit ?_ | refine thn_norm ?_ | refine inB_ret ?_ | refine inB_norm ?_ | refine inB_here ?_ | refine inB_there rfl ?_ | refine rc_succ ?_ | refine hl_nil ?_)); exact k.out) : G := h ⟨k⟩
theorem go1_ {G K : Prop} (k : K) (h : Owe K → G := by intro k; (first | (refine is_cons ?_; first | (refine is_guard ?_; first | refine hl_run (by rfl) (by rfl) rfl ?_ | refine hl_pass (by rfl) (by rfl) (by rfl) rfl ?_ | refine hl_passU (by rfl) (by rfl) rfl ?_) | (refine is_move ?_; first | refine hl_moveI rfl rfl ?_ | refine hl_moveB rfl rfl ?_ | refine hl_moveP rfl rfl ?_ | refine hl_moveS rfl rfl ?_ | refine hl_moveT rfl rfl ?_ | refine hl_moveA rfl rfl ?_ | refine hl_moveU rfl rfl ?_) | (refine is_load ?_; first | refine hl_loadP rfl (by with_reducible assumption) (by omega) rfl ?_ | refine hl_loadR rfl (by with_reducible assumption) (by first | exact Imp.refl _ | exact Imp.drop (Imp.refl _) | exact Imp.drop (Imp.drop (Imp.refl _)) | exact Imp.drop (Imp.drop (Imp.drop (Imp.refl _))) | exact Imp.drop (Imp.drop (Imp.drop (Imp.drop (Imp.refl _)))) | exact Imp.drop (Imp.drop (Imp.drop (Imp.drop (Imp.drop (Imp.refl _))))) | exact Imp.drop (Imp.drop (Imp.drop (Imp.drop (Imp.drop (Imp.drop (Imp.refl _)))))) | exact Imp.drop (Imp.drop (Imp.drop (Imp.drop (Imp.drop (Imp.drop (Imp.drop (Imp.refl _))))))) | exact Imp.drop (Imp.drop (Imp.drop (Imp.drop (Imp.drop (Imp.drop (Imp.drop (Imp.drop (Imp.refl _))))))))) (by omega) rfl ?_ | refine hl_load1 rfl (by first | exact .here | exact (.there .here) | exact (.there (.there .here)) | exact (.there (.there (.there .here))) | exact (.there (.there (.there (.there .here)))) | exact (.there (.there (.there (.there (.there .here))))) | exact (.there (.there (.there (.there (.there (.there .here)))))) | exact (.there (.there (.there (.there (.there (.there (.there .here))))))) | exact (.there (.there (.there (.there (.there (.there (.there (.there .here))))))))) (by first | with_reducible rfl | with_reducible assumption | exact tab_get (by omega) | rfl | assumption) rfl ?_ | refine hl_loadW rfl (by first | exact .here | exact (.there .here) | exact (.there (.there .here)) | exact (.there (.there (.there .here))) | exact (.there (.there (.there (.there .here)))) | exact (.there (.there (.there (.there (.there .here))))) | exact (.there (.there (.there (.there (.there (.there .here)))))) | exact (.there (.there (.there (.there (.there (.there (.there .here))))))) | exact (.there (.there (.there (.there (.there (.there (.there (.there .here))))))))) (by first | rfl | assumption | (simp only [List.length_cons, List.length_nil, List.length_set, List.length_map, List.length_append, List.length_replicate, length_tab]; omega)) rfl ?_) | (refine is_fieldAddr ?_; first | refine hl_fieldAddr0 rfl rfl ?_ | refine hl_fieldAddr rfl rfl ?_) | (refine is_nilCheck ?_; first | refine hl_nilCheck rfl rfl ?_) | (refine is_assign ?_; first | refine hl_assignI rfl rfl ?_ | refine hl_assignB rfl rfl ?_ | refine hl_assignP rfl rfl ?_ | refine hl_assignS rfl rfl ?_ | refine hl_assignT rfl rfl ?_ | refine hl_assignA rfl rfl ?_ | refine hl_assignU rfl rfl ?_) | (refine is_add ?_; first | refine hl_add64e rfl rfl (by simp only [Int.reduceAdd]; rfl) (by decide) (by decide) rfl ?_ | refine hl_add64 rfl rfl (by omega) (by omega) rfl ?_ | refine hl_add rfl rfl rfl ?_) | (refine is_indexAddr ?_; first | refine hl_indexAddr0 rfl rfl (by first | with_reducible exact litc _ | rfl) (by first | assumption | omega) rfl ?_ | refine hl_indexArr0 rfl rfl (by first | with_reducible exact litc _ | rfl) (by first | assumption | omega) rfl ?_ | refine hl_indexAddr1 rfl rfl (by first | with_reducible exact litc _ | rfl) (by first | assumption | omega) rfl ?_ | refine hl_indexAddr rfl rfl (by first | with_reducible exact litc _ | rfl) (by first | assumption | omega) rfl ?_ | refine hl_indexArr1 rfl rfl (by first | with_reducible exact litc _ | rfl) (by first | assumption | omega) rfl ?_ | refine hl_indexArrZ rfl rfl (by first | with_reducible exact litc _ | rfl) (by first | assumption | omega) rfl ?_ | refine hl_indexArr rfl rfl (by first | with_reducible exact litc _ | rfl) (by first | assumption | omega) rfl ?_) | (refine is_sub ?_; first | refine hl_sub64e rfl rfl (by simp only [Int.reduceSub]; rfl) (by decide) (by decide) rfl ?_ | refine hl_sub64 rfl rfl (by omega) (by omega) rfl ?_ | refine hl_sub rfl rfl rfl ?_) | (refine is_mul ?_; first | refine hl_mul64e rfl rfl (by simp only [Int.reduceMul]; rfl) (by decide) (by decide) rfl ?_ | refine hl_mul64 rfl rfl (by omega) (by omega) rfl ?_ | refine hl_mul rfl rfl rfl ?_) | (refine is_lss ?_; first | refine hl_lssT rfl rfl (by omega) rfl ?_ | refine hl_lssF rfl rfl (by omega) rfl ?_ | refine hl_lss rfl rfl rfl ?_) | (refine is_leq ?_; first | refine hl_leqT rfl rfl (by omega) rfl ?_ | refine hl_leqF rfl rfl (by omega) rfl ?_ | refine hl_leq rfl rfl rfl ?_) | (refine is_gtr ?_; first | refine hl_gtrT rfl rfl (by omega) rfl ?_ | refine hl_gtrF rfl rfl (by omega) rfl ?_ | refine hl_gtr rfl rfl rfl ?_) | (refine is_geq ?_; first | refine hl_geqT rfl rfl (by omega) rfl ?_ | refine hl_geqF rfl rfl (by omega) rfl ?_ | refine hl_geq rfl rfl rfl ?_) | (refine is_eql ?_; first | refine hl_eqlT rfl rfl (by omega) rfl ?_ | refine hl_eqlF rfl rfl (by omega) rfl ?_ | refine hl_eql rfl rfl rfl ?_ | refine hl_eqPnil rfl rfl rfl ?_ | refine hl_eqPnn rfl rfl rfl ?_ | refine hl_eqSnil rfl rfl rfl ?_ | refine hl_eqSnn rfl rfl rfl ?_ | refine hl_eqB rfl rfl rfl ?_) | (refine is_neq ?_; first | refine hl_neqT rfl rfl (by omega) rfl ?_ | refine hl_neqF rfl rfl (by omega) rfl ?_ | refine hl_neq rfl rfl rfl ?_ | refine hl_nePnil rfl rfl rfl ?_ | refine hl_neB rfl rfl rfl ?_) | (refine is_un ?_; first | refine hl_not rfl rfl ?_ | refine hl_neg64 rfl (by omega) (by omega) rfl ?_ | refine hl_neg rfl rfl ?_) | (refine is_pick ?_; first | refine hl_pickTB rfl rfl rfl ?_ | refine hl_pickFB rfl rfl rfl ?_ | refine hl_pickTI rfl rfl rfl ?_ | refine hl_pickFI rfl rfl rfl ?_) | (refine is_quo ?_; first | refine hl_quo64 rfl rfl (by omega) (by omega) (by omega) rfl ?_ | refine hl_quo rfl rfl (by omega) rfl ?_) | (refine is_rem ?_; first | refine hl_rem64 rfl rfl (by omega) (by omega) rfl ?_ | refine hl_rem rfl rfl (by omega) rfl ?_) | (refine is_shl ?_; first | refine hl_shl64 rfl rfl (by first | with_reducible exact litc _ | rfl) (by decide) (by omega) rfl ?_) | (refine is_shr ?_; first | refine hl_shr' rfl rfl (by first | with_reducible exact litc _ | rfl) (by first | decide | (simp only [IntKind.bits]; omega)) rfl ?_) | (refine is_shl ?_; first | refine hl_shl' rfl rfl (by first | with_reducible exact litc _ | rfl) (by first | decide | (simp only [IntKind.bits]; omega)) rfl ?_) | (refine is_and ?_; first | refine hl_and rfl rfl rfl ?_) | (refine is_or ?_; first | refine hl_or rfl rfl rfl ?_) | (refine is_xor ?_; first | refine hl_xor rfl rfl rfl ?_) | (refine is_conv ?_; first | refine hl_convI64 rfl (by omega) (by omega) rfl ?_ | refine hl_convInt rfl rfl ?_) | (refine is_call ?_; first | refine hl_len rfl rfl ?_ | refine hl_lenArr rfl ?_ | refine hl_min rfl rfl rfl ?_ | refine hl_max rfl rfl rfl ?_) | (refine is_build ?_; first | refine hl_build rfl (by simp [fillP, evP, ev, updO, upd, argFr, ofL, Value.cells]; rfl) rfl ?_ | refine hl_buildArr rfl (by simp [fillP, evP, ev, updO, upd, argFr, ofL, Value.cells]; rfl) rfl ?_) | (refine is_index ?_; first | refine hl_index rfl rfl (by first | with_reducible exact litc _ | rfl) (by first | assumption | omega) (by first | with_reducible rfl | with_reducible assumption | exact tab_get (by omega) | rfl | assumption) rfl ?_) | (refine is_extract ?_; first | refine hl_extract rfl (by rfl) rfl ?_) | (refine is_store ?_; first | refine hl_storeI rfl rfl (by first | exact .here | exact (.there .here) | exact (.there (.there .here)) | exact (.there (.there (.there .here))) | exact (.there (.there (.there (.there .here)))) | exact (.there (.there (.there (.there (.there .here))))) | exact (.there (.there (.there (.there (.there (.there .here)))))) | exact (.there (.there (.there (.there (.there (.there (.there .here))))))) | exact (.there (.there (.there (.there (.there (.there (.there (.there .here))))))))) (by first | decide | (simp only [List.length_cons, List.length_nil, List.length_set, List.length_map, List.length_append, List.length_replicate, length_tab]; omega) | assumption) rfl ?_ | refine hl_storeB rfl rfl (by first | exact .here | exact (.there .here) | exact (.there (.there .here)) | exact (.there (.there (.there .here))) | exact (.there (.there (.there (.there .here)))) | exact (.there (.there (.there (.there (.there .here))))) | exact (.there (.there (.there (.there (.there (.there .here)))))) | exact (.there (.there (.there (.there (.there (.there (.there .here))))))) | exact (.there (.there (.there (.there (.there (.there (.there (.there .here))))))))) (by first | decide | (simp only [List.length_cons, List.length_nil, List.length_set, List.length_map, List.length_append, List.length_replicate, length_tab]; omega) | assumption) rfl ?_ | refine hl_storeP rfl rfl (by first | exact .here | exact (.there .here) | exact (.there (.there .here)) | exact (.there (.there (.there .here))) | exact (.there (.there (.there (.there .here)))) | exact (.there (.there (.there (.there (.there .here))))) | exact (.there (.there (.there (.there (.there (.there .here)))))) | exact (.there (.there (.there (.there (.there (.there (.there .here))))))) | exact (.there (.there (.there (.there (.there (.there (.there (.there .here))))))))) (by first | decide | (simp only [List.length_cons, List.length_nil, List.length_set, List.length_map, List.length_append, List.length_replicate, length_tab]; omega) | assumption) rfl ?_ | refine hl_storeS rfl rfl (by first | exact .here | exact (.there .here) | exact (.there (.there .here)) | exact (.there (.there (.there .here))) | exact (.there (.there (.there (.there .here)))) | exact (.there (.there (.there (.there (.there .here))))) | exact (.there (.there (.there (.there (.there (.there .here)))))) | exact (.there (.there (.there (.there (.there (.there (.there .here))))))) | exact (.there (.there (.there (.there (.there (.there (.there (.there .here))))))))) (by first | decide | (simp only [List.length_cons, List.length_nil, List.length_set, List.length_map, List.length_append, List.length_replicate, length_tab]; omega) | assumption) rfl ?_ | refine hl_storeT rfl rfl (by first | exact .here | exact (.there .here) | exact (.there (.there .here)) | exact (.there (.there (.there .here))) | exact (.there (.there (.there (.there .here)))) | exact (.there (.there (.there (.there (.there .here))))) | exact (.there (.there (.there (.there (.there (.there .here)))))) | exact (.there (.there (.there (.there (.there (.there (.there .here))))))) | exact (.there (.there (.there (.there (.there (.there (.there (.there .here))))))))) (by first | decide | (simp only [List.length_cons, List.length_nil, List.length_set, List.length_map, List.length_append, List.length_replicate, length_tab]; omega) | assumption) rfl ?_ | refine hl_storeA rfl rfl (by first | exact length_tab _ _ | rfl) (by first | exact tab_one | simp [Value.oneCell']) (by first | exact .here | exact (.there .here) | exact (.there (.there .here)) | exact (.there (.there (.there .here))) | exact (.there (.there (.there (.there .here)))) | exact (.there (.there (.there (.there (.there .here))))) | exact (.there (.there (.there (.there (.there (.there .here)))))) | exact (.there (.there (.there (.there (.there (.there (.there .here))))))) | exact (.there (.there (.there (.there (.there (.there (.there (.there .here))))))))) (by rfl) rfl ?_)) | (refine is_HC ?_; first | refine hc_seq ?_ | refine hc_region ?_ | refine hc_block ?_ | refine hc_true rfl ?_ | refine hc_false rfl ?_ | refine hc_skip ?_ | refine hc_ret ?_ | refine hc_exit ?_) | refine hl_nil_thn ?_ | refine thn_ret ?_ | refine thn_exit ?_ | refine thn_norm ?_ | refine inB_ret ?_ | refine inB_norm ?_ | refine inB_here ?_ | refine inB_there rfl ?_ | refine rc_succ ?_ | refine hl_nil ?_); exact k.out) : G := h ⟨k⟩
theorem op_ {G K : Prop} (k : K) (h : Owe K → G := by intro k; (first | (refine is_cons ?_; first | (refine is_guard ?_; first | refine hl_run (by rfl) (by rfl) rfl ?_ | refine hl_pass (by rfl) (by rfl) (by rfl) rfl ?_ | refine hl_passU (by rfl) (by rfl) rfl ?_) | (refine is_move ?_; first | refine hl_moveI rfl rfl ?_ | refine hl_moveB rfl rfl ?_ | refine hl_moveP rfl rfl ?_ | refine hl_moveS rfl rfl ?_ | refine hl_moveT rfl rfl ?_ | refine hl_moveA rfl rfl ?_ | refine hl_moveU rfl rfl ?_) | (refine is_load ?_; first | refine hl_loadP rfl (by with_reducible assumption) (by omega) rfl ?_ | refine hl_loadR rfl (by with_reducible assumption) (by first | exact Imp.refl _ | exact Imp.drop (Imp.refl _) | exact Imp.drop (Imp.drop (Imp.refl _)) | exact Imp.drop (Imp.drop (Imp.drop (Imp.refl _))) | exact Imp.drop (Imp.drop (Imp.drop (Imp.drop (Imp.refl _)))) | exact Imp.drop (Imp.drop (Imp.drop (Imp.drop (Imp.drop (Imp.refl _))))) | exact Imp.drop (Imp.drop (Imp.drop (Imp.drop (Imp.drop (Imp.drop (Imp.refl _)))))) | exact Imp.drop (Imp.drop (Imp.drop (Imp.drop (Imp.drop (Imp.drop (Imp.drop (Imp.refl _))))))) | exact Imp.drop (Imp.drop (Imp.drop (Imp.drop (Imp.drop (Imp.drop (Imp.drop (Imp.drop (Imp.refl _))))))))) (by omega) rfl ?_ | refine hl_load1 rfl (by first | exact .here | exact (.there .here) | exact (.there (.there .here)) | exact (.there (.there (.there .here))) | exact (.there (.there (.there (.there .here)))) | exact (.there (.there (.there (.there (.there .here))))) | exact (.there (.there (.there (.there (.there (.there .here)))))) | exact (.there (.there (.there (.there (.there (.there (.there .here))))))) | exact (.there (.there (.there (.there (.there (.there (.there (.there .here))))))))) (by first | with_reducible rfl | with_reducible assumption | exact tab_get (by omega) | rfl | assumption) rfl ?_ | refine hl_loadW rfl (by first | exact .here | exact (.there .here) | exact (.there (.there .here)) | exact (.there (.there (.there .here))) | exact (.there (.there (.there (.there .here)))) | exact (.there (.there (.there (.there (.there .here))))) | exact (.there (.there (.there (.there (.there (.there .here)))))) | exact (.there (.there (.there (.there (.there (.there (.there .here))))))) | exact (.there (.there (.there (.there (.there (.there (.there (.there .here))))))))) (by first | rfl | assumption | (simp only [List.length_cons, List.length_nil, List.length_set, List.length_map, List.length_append, List.length_replicate, length_tab]; omega)) rfl ?_) | (refine is_fieldAddr ?_; first | refine hl_fieldAddr0 rfl rfl ?_ | refine hl_fieldAddr rfl rfl ?_) | (refine is_nilCheck ?_; first | refine hl_nilCheck rfl rfl ?_) | (refine is_assign ?_; first | refine hl_assignI rfl rfl ?_ | refine hl_assignB rfl rfl ?_ | refine hl_assignP rfl rfl ?_ | refine hl_assignS rfl rfl ?_ | refine hl_assignT rfl rfl ?_ | refine hl_assignA rfl rfl ?_ | refine hl_assignU rfl rfl ?_) | (refine is_add ?_; first | refine hl_add64e rfl rfl (by simp only [Int.reduceAdd]; rfl) (by decide) (by decide) rfl ?_ | refine hl_add64 rfl rfl (by omega) (by omega) rfl ?_ | refine hl_add rfl rfl rfl ?_) | (refine is_indexAddr ?_; first | refine hl_indexAddr0 rfl rfl (by first | with_reducible exact litc _ | rfl) (by first | assumption | omega) rfl ?_ | refine hl_indexArr0 rfl rfl (by first | with_reducible exact litc _ | rfl) (by first | assumption | omega) rfl ?_ | refine hl_indexAddr1 rfl rfl (by first | with_reducible exact litc _ | rfl) (by first | assumption | omega) rfl ?_ | refine hl_indexAddr rfl rfl (by first | with_reducible exact litc _ | rfl) (by first | assumption | omega) rfl ?_ | refine hl_indexArr1 rfl rfl (by first | with_reducible exact litc _ | rfl) (by first | assumption | omega) rfl ?_ | refine hl_indexArrZ rfl rfl (by first | with_reducible exact litc _ | rfl) (by first | assumption | omega) rfl ?_ | refine hl_indexArr rfl rfl (by first | with_reducible exact litc _ | rfl) (by first | assumption | omega) rfl ?_) | (refine is_sub ?_; first | refine hl_sub64e rfl rfl (by simp only [Int.reduceSub]; rfl) (by decide) (by decide) rfl ?_ | refine hl_sub64 rfl rfl (by omega) (by omega) rfl ?_ | refine hl_sub rfl rfl rfl ?_) | (refine is_mul ?_; first | refine hl_mul64e rfl rfl (by simp only [Int.reduceMul]; rfl) (by decide) (by decide) rfl ?_ | refine hl_mul64 rfl rfl (by omega) (by omega) rfl ?_ | refine hl_mul rfl rfl rfl ?_) | (refine is_lss ?_; first | refine hl_lssT rfl rfl (by omega) rfl ?_ | refine hl_lssF rfl rfl (by omega) rfl ?_ | refine hl_lss rfl rfl rfl ?_) | (refine is_leq ?_; first | refine hl_leqT rfl rfl (by omega) rfl ?_ | refine hl_leqF rfl rfl (by omega) rfl ?_ | refine hl_leq rfl rfl rfl ?_) | (refine is_gtr ?_; first | refine hl_gtrT rfl rfl (by omega) rfl ?_ | refine hl_gtrF rfl rfl (by omega) rfl ?_ | refine hl_gtr rfl rfl rfl ?_) | (refine is_geq ?_; first | refine hl_geqT rfl rfl (by omega) rfl ?_ | refine hl_geqF rfl rfl (by omega) rfl ?_ | refine hl_geq rfl rfl rfl ?_) | (refine is_eql ?_; first | refine hl_eqlT rfl rfl (by omega) rfl ?_ | refine hl_eqlF rfl rfl (by omega) rfl ?_ | refine hl_eql rfl rfl rfl ?_ | refine hl_eqPnil rfl rfl rfl ?_ | refine hl_eqPnn rfl rfl rfl ?_ | refine hl_eqSnil rfl rfl rfl ?_ | refine hl_eqSnn rfl rfl rfl ?_ | refine hl_eqB rfl rfl rfl ?_) | (refine is_neq ?_; first | refine hl_neqT rfl rfl (by omega) rfl ?_ | refine hl_neqF rfl rfl (by omega) rfl ?_ | refine hl_neq rfl rfl rfl ?_ | refine hl_nePnil rfl rfl rfl ?_ | refine hl_neB rfl rfl rfl ?_) | (refine is_un ?_; first | refine hl_not rfl rfl ?_ | refine hl_neg64 rfl (by omega) (by omega) rfl ?_ | refine hl_neg rfl rfl ?_) | (refine is_pick ?_; first | refine hl_pickTB rfl rfl rfl ?_ | refine hl_pickFB rfl rfl rfl ?_ | refine hl_pickTI rfl rfl rfl ?_ | refine hl_pickFI rfl rfl rfl ?_) | (refine is_quo ?_; first | refine hl_quo64 rfl rfl (by omega) (by omega) (by omega) rfl ?_ | refine hl_quo rfl rfl (by omega) rfl ?_) | (refine is_rem ?_; first | refine hl_rem64 rfl rfl (by omega) (by omega) rfl ?_ | refine hl_rem rfl rfl (by omega) rfl ?_) | (refine is_shl ?_; first | refine hl_shl64 rfl rfl (by first | with_reducible exact litc _ | rfl) (by decide) (by omega) rfl ?_) | (refine is_shr ?_; first | refine hl_shr' rfl rfl (by first | with_reducible exact litc _ | rfl) (by first | decide | (simp only [IntKind.bits]; omega)) rfl ?_) | (refine is_shl ?_; first | refine hl_shl' rfl rfl (by first | with_reducible exact litc _ | rfl) (by first | decide | (simp only [IntKind.bits]; omega)) rfl ?_) | (refine is_and ?_; first | refine hl_and rfl rfl rfl ?_) | (refine is_or ?_; first | refine hl_or rfl rfl rfl ?_) | (refine is_xor ?_; first | refine hl_xor rfl rfl rfl ?_) | (refine is_conv ?_; first | refine hl_convI64 rfl (by omega) (by omega) rfl ?_ | refine hl_convInt rfl rfl ?_) | (refine is_call ?_; first | refine hl_len rfl rfl ?_ | refine hl_lenArr rfl ?_ | refine hl_min rfl rfl rfl ?_ | refine hl_max rfl rfl rfl ?_) | (refine is_build ?_; first | refine hl_build rfl (by simp [fillP, evP, ev, updO, upd, argFr, ofL, Value.cells]; rfl) rfl ?_ | refine hl_buildArr rfl (by simp [fillP, evP, ev, updO, upd, argFr, ofL, Value.cells]; rfl) rfl ?_) | (refine is_index ?_; first | refine hl_index rfl rfl (by first | with_reducible exact litc _ | rfl) (by first | assumption | omega) (by first | with_reducible rfl | with_reducible assumption | exact tab_get (by omega) | rfl | assumption) rfl ?_) | (refine is_extract ?_; first | refine hl_extract rfl (by rfl) rfl ?_) | (refine is_store ?_; first | refine hl_storeI rfl rfl (by first | exact .here | exact (.there .here) | exact (.there (.there .here)) | exact (.there (.there (.there .here))) | exact (.there (.there (.there (.there .here)))) | exact (.there (.there (.there (.there (.there .here))))) | exact (.there (.there (.there (.there (.there (.there .here)))))) | exact (.there (.there (.there (.there (.there (.there (.there .here))))))) | exact (.there (.there (.there (.there (.there (.there (.there (.there .here))))))))) (by first | decide | (simp only [List.length_cons, List.length_nil, List.length_set, List.length_map, List.length_append, List.length_replicate, length_tab]; omega) | assumption) rfl ?_ | refine hl_storeB rfl rfl (by first | exact .here | exact (.there .here) | exact (.there (.there .here)) | exact (.there (.there (.there .here))) | exact (.there (.there (.there (.there .here)))) | exact (.there (.there (.there (.there (.there .here))))) | exact (.there (.there (.there (.there (.there (.there .here)))))) | exact (.there (.there (.there (.there (.there (.there (.there .here))))))) | exact (.there (.there (.there (.there (.there (.there (.there (.there .here))))))))) (by first | decide | (simp only [List.length_cons, List.length_nil, List.length_set, List.length_map, List.length_append, List.length_replicate, length_tab]; omega) | assumption) rfl ?_ | refine hl_storeP rfl rfl (by first | exact .here | exact (.there .here) | exact (.there (.there .here)) | exact (.there (.there (.there .here))) | exact (.there (.there (.there (.there .here)))) | exact (.there (.there (.there (.there (.there .here))))) | exact (.there (.there (.there (.there (.there (.there .here)))))) | exact (.there (.there (.there (.there (.there (.there (.there .here))))))) | exact (.there (.there (.there (.there (.there (.there (.there (.there .here))))))))) (by first | decide | (simp only [List.length_cons, List.length_nil, List.length_set, List.length_map, List.length_append, List.length_replicate, length_tab]; omega) | assumption) rfl ?_ | refine hl_storeS rfl rfl (by first | exact .here | exact (.there .here) | exact (.there (.there .here)) | exact (.there (.there (.there .here))) | exact (.there (.there (.there (.there .here)))) | exact (.there (.there (.there (.there (.there .here))))) | exact (.there (.there (.there (.there (.there (.there .here)))))) | exact (.there (.there (.there (.there (.there (.there (.there .here))))))) | exact (.there (.there (.there (.there (.there (.there (.there (.there .here))))))))) (by first | decide | (simp only [List.length_cons, List.length_nil, List.length_set, List.length_map, List.length_append, List.length_replicate, length_tab]; omega) | assumption) rfl ?_ | refine hl_storeT rfl rfl (by first | exact .here | exact (.there .here) | exact (.there (.there .here)) | exact (.there (.there (.there .here))) | exact (.there (.there (.there (.there .here)))) | exact (.there (.there (.there (.there (.there .here))))) | exact (.there (.there (.there (.there (.there (.there .here)))))) | exact (.there (.there (.there (.there (.there (.there (.there .here))))))) | exact (.there (.there (.there (.there (.there (.there (.there (.there .here))))))))) (by first | decide | (simp only [List.length_cons, List.length_nil, List.length_set, List.length_map, List.length_append, List.length_replicate, length_tab]; omega) | assumption) rfl ?_ | refine hl_storeA rfl rfl (by first | exact length_tab _ _ | rfl) (by first | exact tab_one | simp [Value.oneCell']) (by first | exact .here | exact (.there .here) | exact (.there (.there .here)) | exact (.there (.there (.there .here))) | exact (.there (.there (.there (.there .here)))) | exact (.there (.there (.there (.there (.there .here))))) | exact (.there (.there (.there (.there (.there (.there .here)))))) | exact (.there (.there (.there (.there (.there (.there (.there .here))))))) | exact (.there (.there (.there (.there (.there (.there (.there (.there .here))))))))) (by rfl) rfl ?_)) | refine hl_nil_thn ?_); (repeat (first | (refine is_cons ?_; first | (refine is_guard ?_; first | refine hl_run (by rfl) (by rfl) rfl ?_ | refine hl_pass (by rfl) (by rfl) (by rfl) rfl ?_ | refine hl_passU (by rfl) (by rfl) rfl ?_) | (refine is_move ?_; first | refine hl_moveI rfl rfl ?_ | refine hl_moveB rfl rfl ?_ | refine hl_moveP rfl rfl ?_ | refine hl_moveS rfl rfl ?_ | refine hl_moveT rfl rfl ?_ | refine hl_moveA rfl rfl ?_ | refine hl_moveU rfl rfl ?_) | (refine is_load ?_; first | refine hl_loadP rfl (by with_reducible assumption) (by omega) rfl ?_ | refine hl_loadR rfl (by with_reducible assumption) (by first | exact Imp.refl _ | exact Imp.drop (Imp.refl _) | exact Imp.drop (Imp.drop (Imp.refl _)) | exact Imp.drop (Imp.drop (Imp.drop (Imp.refl _))) | exact Imp.drop (Imp.drop (Imp.drop (Imp.drop (Imp.refl _)))) | exact Imp.drop (Imp.drop (Imp.drop (Imp.drop (Imp.drop (Imp.refl _))))) | exact Imp.drop (Imp.drop (Imp.drop (Imp.drop (Imp.drop (Imp.drop (Imp.refl _)))))) | exact Imp.drop (Imp.drop (Imp.drop (Imp.drop (Imp.drop (Imp.drop (Imp.drop (Imp.refl _))))))) | exact Imp.drop (Imp.drop (Imp.drop (Imp.drop (Imp.drop (Imp.drop (Imp.drop (Imp.drop (Imp.refl _))))))))) (by omega) rfl ?_ | refine hl_load1 rfl (by first | exact .here | exact (.there .here) | exact (.there (.there .here)) | exact (.there (.there (.there .here))) | exact (.there (.there (.there (.there .here)))) | exact (.there (.there (.there (.there (.there .here))))) | exact (.there (.there (.there (.there (.there (.there .here)))))) | exact (.there (.there (.there (.there (.there (.there (.there .here))))))) | exact (.there (.there (.there (.there (.there (.there (.there (.there .here))))))))) (by first | with_reducible rfl | with_reducible assumption | exact tab_get (by omega) | rfl | assumption) rfl ?_ | refine hl_loadW rfl (by first | exact .here | exact (.there .here) | exact (.there (.there .here)) | exact (.there (.there (.there .here))) | exact (.there (.there (.there (.there .here)))) | exact (.there (.there (.there (.there (.there .here))))) | exact (.there (.there (.there (.there (.there (.there .here)))))) | exact (.there (.there (.there (.there (.there (.there (.there .here))))))) | exact (.there (.there (.there (.there (.there (.there (.there (.there .here))))))))) (by first | rfl | assumption | (simp only [List.length_cons, List.length_nil, List.length_set, List.length_map, List.length_append, List.length_replicate, length_tab]; omega)) rfl ?_) | (refine is_fieldAddr ?_; first | refine hl_fieldAddr0 rfl rfl ?_ | refine hl_fieldAddr rfl rfl ?_) | (refine is_nilCheck ?_; first | refine hl_nilCheck rfl rfl ?_) | (refine is_assign ?_; first | refine hl_assignI rfl rfl ?_ | refine hl_assignB rfl rfl ?_ | refine hl_assignP rfl rfl ?_ | refine hl_assignS rfl rfl ?_ | refine hl_assignT rfl rfl ?_ | refine hl_assignA rfl rfl ?_ | refine hl_assignU rfl rfl ?_) | (refine is_add ?_; first | refine hl_add64e rfl rfl (by simp only [Int.reduceAdd]; rfl) (by decide) (by decide) rfl ?_ | refine hl_add64 rfl rfl (by omega) (by omega) rfl ?_ | refine hl_add rfl rfl rfl ?_) | (refine is_indexAddr ?_; first | refine hl_indexAddr0 rfl rfl (by first | with_reducible exact litc _ | rfl) (by first | assumption | omega) rfl ?_ | refine hl_indexArr0 rfl rfl (by first | with_reducible exact litc _ | rfl) (by first | assumption | omega) rfl ?_ | refine hl_indexAddr1 rfl rfl (by first | with_reducible exact litc _ | rfl) (by first | assumption | omega) rfl ?_ | refine hl_indexAddr rfl rfl (by first | with_reducible exact litc _ | rfl) (by first | assumption | omega) rfl ?_ | refine hl_indexArr1 rfl rfl (by first | with_reducible exact litc _ | rfl) (by first | assumption | omega) rfl ?_ | refine hl_indexArrZ rfl rfl (by first | with_reducible exact litc _ | rfl) (by first | assumption | omega) rfl ?_ | refine hl_indexArr rfl rfl (by first | with_reducible exact litc _ | rfl) (by first | assumption | omega) rfl ?_) | (refine is_sub ?_; first | refine hl_sub64e rfl rfl (by simp only [Int.reduceSub]; rfl) (by decide) (by decide) rfl ?_ | refine hl_sub64 rfl rfl (by omega) (by omega) rfl ?_ | refine hl_sub rfl rfl rfl ?_) | (refine is_mul ?_; first | refine hl_mul64e rfl rfl (by simp only [Int.reduceMul]; rfl) (by decide) (by decide) rfl ?_ | refine hl_mul64 rfl rfl (by omega) (by omega) rfl ?_ | refine hl_mul rfl rfl rfl ?_) | (refine is_lss ?_; first | refine hl_lssT rfl rfl (by omega) rfl ?_ | refine hl_lssF rfl rfl (by omega) rfl ?_ | refine hl_lss rfl rfl rfl ?_) | (refine is_leq ?_; first | refine hl_leqT rfl rfl (by omega) rfl ?_ | refine hl_leqF rfl rfl (by omega) rfl ?_ | refine hl_leq rfl rfl rfl ?_) | (refine is_gtr ?_; first | refine hl_gtrT rfl rfl (by omega) rfl ?_ | refine hl_gtrF rfl rfl (by omega) rfl ?_ | refine hl_gtr rfl rfl rfl ?_) | (refine is_geq ?_; first | refine hl_geqT rfl rfl (by omega) rfl ?_ | refine hl_geqF rfl rfl (by omega) rfl ?_ | refine hl_geq rfl rfl rfl ?_) | (refine is_eql ?_; first | refine hl_eqlT rfl rfl (by omega) rfl ?_ | refine hl_eqlF rfl rfl (by omega) rfl ?_ | refine hl_eql rfl rfl rfl ?_ | refine hl_eqPnil rfl rfl rfl ?_ | refine hl_eqPnn rfl rfl rfl ?_ | refine hl_eqSnil rfl rfl rfl ?_ | refine hl_eqSnn rfl rfl rfl ?_ | refine hl_eqB rfl rfl rfl ?_) | (refine is_neq ?_; first | refine hl_neqT rfl rfl (by omega) rfl ?_ | refine hl_neqF rfl rfl (by omega) rfl ?_ | refine hl_neq rfl rfl rfl ?_ | refine hl_nePnil rfl rfl rfl ?_ | refine hl_neB rfl rfl rfl ?_) | (refine is_un ?_; first | refine hl_not rfl rfl ?_ | refine hl_neg64 rfl (by omega) (by omega) rfl ?_ | refine hl_neg rfl rfl ?_) | (refine is_pick ?_; first | refine hl_pickTB rfl rfl rfl ?_ | refine hl_pickFB rfl rfl rfl ?_ | refine hl_pickTI rfl rfl rfl ?_ | refine hl_pickFI rfl rfl rfl ?_) | (refine is_quo ?_; first | refine hl_quo64 rfl rfl (by omega) (by omega) (by omega) rfl ?_ | refine hl_quo rfl rfl (by omega) rfl ?_) | (refine is_rem ?_; first | refine hl_rem64 rfl rfl (by omega) (by omega) rfl ?_ | refine hl_rem rfl rfl (by omega) rfl ?_) | (refine is_shl ?_; first | refine hl_shl64 rfl rfl (by first | with_reducible exact litc _ | rfl) (by decide) (by omega) rfl ?_) | (refine is_shr ?_; first | refine hl_shr' rfl rfl (by first | with_reducible exact litc _ | rfl) (by first | decide | (simp only [IntKind.bits]; omega)) rfl ?_) | (refine is_shl ?_; first | refine hl_shl' rfl rfl (by first | with_reducible exact litc _ | rfl) (by first | decide | (simp only [IntKind.bits]; omega)) rfl ?_) | (refine is_and ?_; first | refine hl_and rfl rfl rfl ?_) | (refine is_or ?_; first | refine hl_or rfl rfl rfl ?_) | (refine is_xor ?_; first | refine hl_xor rfl rfl rfl ?_) | (refine is_conv ?_; first | refine hl_convI64 rfl (by omega) (by omega) rfl ?_ | refine hl_convInt rfl rfl ?_) | (refine is_call ?_; first | refine hl_len rfl rfl ?_ | refine hl_lenArr rfl ?_ | refine hl_min rfl rfl rfl ?_ | refine hl_max rfl rfl rfl ?_) | (refine is_build ?_; first | refine hl_build rfl (by simp [fillP, evP, ev, updO, upd, argFr, ofL, Value.cells]; rfl) rfl ?_ | refine hl_buildArr rfl (by simp [fillP, evP, ev, updO, upd, argFr, ofL, Value.cells]; rfl) rfl ?_) | (refine is_index ?_; first | refine hl_index rfl rfl (by first | with_reducible exact litc _ | rfl) (by first | assumption | omega) (by first | with_reducible rfl | with_reducible assumption | exact tab_get (by omega) | rfl | assumption) rfl ?_) | (refine is_extract ?_; first | refine hl_extract rfl (by rfl) rfl ?_) | (refine is_store ?_; first | refine hl_storeI rfl rfl (by first | exact .here | exact (.there .here) | exact (.there (.there .here)) | exact (.there (.there (.there .here))) | exact (.there (.there (.there (.there .here)))) | exact (.there (.there (.there (.there (.there .here))))) | exact (.there (.there (.there (.there (.there (.there .here)))))) | exact (.there (.there (.there (.there (.there (.there (.there .here))))))) | exact (.there (.there (.there (.there (.there (.there (.there (.there .here))))))))) (by first | decide | (simp only [List.length_cons, List.length_nil, List.length_set, List.length_map, List.length_append, List.length_replicate, length_tab]; omega) | assumption) rfl ?_ | refine hl_storeB rfl rfl (by first | exact .here | exact (.there .here) | exact (.there (.there .here)) | exact (.there (.there (.there .here))) | exact (.there (.there (.there (.there .here)))) | exact (.there (.there (.there (.there (.there .here))))) | exact (.there (.there (.there (.there (.there (.there .here)))))) | exact (.there (.there (.there (.there (.there (.there (.there .here))))))) | exact (.there (.there (.there (.there (.there (.there (.there (.there .here))))))))) (by first | decide | (simp only [List.length_cons, List.length_nil, List.length_set, List.length_map, List.length_append, List.length_replicate, length_tab]; omega) | assumption) rfl ?_ | refine hl_storeP rfl rfl (by first | exact .here | exact (.there .here) | exact (.there (.there .here)) | exact (.there (.there (.there .here))) | exact (.there (.there (.there (.there .here)))) | exact (.there (.there (.there (.there (.there .here))))) | exact (.there (.there (.there (.there (.there (.there .here)))))) | exact (.there (.there (.there (.there (.there (.there (.there .here))))))) | exact (.there (.there (.there (.there (.there (.there (.there (.there .here))))))))) (by first | decide | (simp only [List.length_cons, List.length_nil, List.length_set, List.length_map, List.length_append, List.length_replicate, length_tab]; omega) | assumption) rfl ?_ | refine hl_storeS rfl rfl (by first | exact .here | exact (.there .here) | exact (.there (.there .here)) | exact (.there (.there (.there .here))) | exact (.there (.there (.there (.there .here)))) | exact (.there (.there (.there (.there (.there .here))))) | exact (.there (.there (.there (.there (.there (.there .here)))))) | exact (.there (.there (.there (.there (.there (.there (.there .here))))))) | exact (.there (.there (.there (.there (.there (.there (.there (.there .here))))))))) (by first | decide | (simp only [List.length_cons, List.length_nil, List.length_set, List.length_map, List.length_append, List.length_replicate, length_tab]; omega) | assumption) rfl ?_ | refine hl_storeT rfl rfl (by first | exact .here | exact (.there .here) | exact (.there (.there .here)) | exact (.there (.there (.there .here))) | exact (.there (.there (.there (.there .here)))) | exact (.there (.there (.there (.there (.there .here))))) | exact (.there (.there (.there (.there (.there (.there .here)))))) | exact (.there (.there (.there (.there (.there (.there (.there .here))))))) | exact (.there (.there (.there (.there (.there (.there (.there (.there .here))))))))) (by first | decide | (simp only [List.length_cons, List.length_nil, List.length_set, List.length_map, List.length_append, List.length_replicate, length_tab]; omega) | assumption) rfl ?_ | refine hl_storeA rfl rfl (by first | exact length_tab _ _ | rfl) (by first | exact tab_one | simp [Value.oneCell']) (by first | exact .here | exact (.there .here) | exact (.there (.there .here)) | exact (.there (.there (.there .here))) | exact (.there (.there (.there (.there .here)))) | exact (.there (.there (.there (.there (.there .here))))) | exact (.there (.there (.there (.there (.there (.there .here)))))) | exact (.there (.there (.there (.there (.there (.there (.there .here))))))) | exact (.there (.there (.there (.there (.there (.there (.there (.there .here))))))))) (by rfl) rfl ?_)) | refine hl_nil_thn ?_)); exact k.out) : G := h ⟨k⟩
theorem op1_ {G K : Prop} (k : K) (h : Owe K → G := by intro k; (first | (refine is_cons ?_; first | (refine is_guard ?_; first | refine hl_run (by rfl) (by rfl) rfl ?_ | refine hl_pass (by rfl) (by rfl) (by rfl) rfl ?_ | refine hl_passU (by rfl) (by rfl) rfl ?_) | (refine is_move ?_; first | refine hl_moveI rfl rfl ?_ | refine hl_moveB rfl rfl ?_ | refine hl_moveP rfl rfl ?_ | refine hl_moveS rfl rfl ?_ | refine hl_moveT rfl rfl ?_ | refine hl_moveA rfl rfl ?_ | refine hl_moveU rfl rfl ?_) | (refine is_load ?_; first | refine hl_loadP rfl (by with_reducible assumption) (by omega) rfl ?_ | refine hl_loadR rfl (by with_reducible assumption) (by first | exact Imp.refl _ | exact Imp.drop (Imp.refl _) | exact Imp.drop (Imp.drop (Imp.refl _)) | exact Imp.drop (Imp.drop (Imp.drop (Imp.refl _))) | exact Imp.drop (Imp.drop (Imp.drop (Imp.drop (Imp.refl _)))) | exact Imp.drop (Imp.drop (Imp.drop (Imp.drop (Imp.drop (Imp.refl _))))) | exact Imp.drop (Imp.drop (Imp.drop (Imp.drop (Imp.drop (Imp.drop (Imp.refl _)))))) | exact Imp.drop (Imp.drop (Imp.drop (Imp.drop (Imp.drop (Imp.drop (Imp.drop (Imp.refl _))))))) | exact Imp.drop (Imp.drop (Imp.drop (Imp.drop (Imp.drop (Imp.drop (Imp.drop (Imp.drop (Imp.refl _))))))))) (by omega) rfl ?_ | refine hl_load1 rfl (by first | exact .here | exact (.there .here) | exact (.there (.there .here)) | exact (.there (.there (.there .here))) | exact (.there (.there (.there (.there .here)))) | exact (.there (.there (.there (.there (.there .here))))) | exact (.there (.there (.there (.there (.there (.there .here)))))) | exact (.there (.there (.there (.there (.there (.there (.there .here))))))) | exact (.there (.there (.there (.there (.there (.there (.there (.there .here))))))))) (by first | with_reducible rfl | with_reducible assumption | exact tab_get (by omega) | rfl | assumption) rfl ?_ | refine hl_loadW rfl (by first | exact .here | exact (.there .here) | exact (.there (.there .here)) | exact (.there (.there (.there .here))) | exact (.there (.there (.there (.there .here)))) | exact (.there (.there (.there (.there (.there .here))))) | exact (.there (.there (.there (.there (.there (.there .here)))))) | exact (.there (.there (.there (.there (.there (.there (.there .here))))))) | exact (.there (.there (.there (.there (.there (.there (.there (.there .here))))))))) (by first | rfl | assumption | (simp only [List.length_cons, List.length_nil, List.length_set, List.length_map, List.length_append, List.length_replicate, length_tab]; omega)) rfl ?_) | (refine is_fieldAddr ?_; first | refine hl_fieldAddr0 rfl rfl ?_ | refine hl_fieldAddr rfl rfl ?_) | (refine is_nilCheck ?_; first | refine hl_nilCheck rfl rfl ?_) | (refine is_assign ?_; first | refine hl_assignI rfl rfl ?_ | refine hl_assignB rfl rfl ?_ | refine hl_assignP rfl rfl ?_ | refine hl_assignS rfl rfl ?_ | refine hl_assignT rfl rfl ?_ | refine hl_assignA rfl rfl ?_ | refine hl_assignU rfl rfl ?_) | (refine is_add ?_; first | refine hl_add64e rfl rfl (by simp only [Int.reduceAdd]; rfl) (by decide) (by decide) rfl ?_ | refine hl_add64 rfl rfl (by omega) (by omega) rfl ?_ | refine hl_add rfl rfl rfl ?_) | (refine is_indexAddr ?_; first | refine hl_indexAddr0 rfl rfl (by first | with_reducible exact litc _ | rfl) (by first | assumption | omega) rfl ?_ | refine hl_indexArr0 rfl rfl (by first | with_reducible exact litc _ | rfl) (by first | assumption | omega) rfl ?_ | refine hl_indexAddr1 rfl rfl (by first | with_reducible exact litc _ | rfl) (by first | assumption | omega) rfl ?_ | refine hl_indexAddr rfl rfl (by first | with_reducible exact litc _ | rfl) (by first | assumption | omega) rfl ?_ | refine hl_indexArr1 rfl rfl (by first | with_reducible exact litc _ | rfl) (by first | assumption | omega) rfl ?_ | refine hl_indexArrZ rfl rfl (by first | with_reducible exact litc _ | rfl) (by first | assumption | omega) rfl ?_ | refine hl_indexArr rfl rfl (by first | with_reducible exact litc _ | rfl) (by first | assumption | omega) rfl ?_) | (refine is_sub ?_; first | refine hl_sub64e rfl rfl (by simp only [Int.reduceSub]; rfl) (by decide) (by decide) rfl ?_ | refine hl_sub64 rfl rfl (by omega) (by omega) rfl ?_ | refine hl_sub rfl rfl rfl ?_) | (refine is_mul ?_; first | refine hl_mul64e rfl rfl (by simp only [Int.reduceMul]; rfl) (by decide) (by decide) rfl ?_ | refine hl_mul64 rfl rfl (by omega) (by omega) rfl ?_ | refine hl_mul rfl rfl rfl ?_) | (refine is_lss ?_; first | refine hl_lssT rfl rfl (by omega) rfl ?_ | refine hl_lssF rfl rfl (by omega) rfl ?_ | refine hl_lss rfl rfl rfl ?_) | (refine is_leq ?_; first | refine hl_leqT rfl rfl (by omega) rfl ?_ | refine hl_leqF rfl rfl (by omega) rfl ?_ | refine hl_leq rfl rfl rfl ?_) | (refine is_gtr ?_; first | refine hl_gtrT rfl rfl (by omega) rfl ?_ | refine hl_gtrF rfl rfl (by omega) rfl ?_ | refine hl_gtr rfl rfl rfl ?_) | (refine is_geq ?_; first | refine hl_geqT rfl rfl (by omega) rfl ?_ | refine hl_geqF rfl rfl (by omega) rfl ?_ | refine hl_geq rfl rfl rfl ?_) | (refine is_eql ?_; first | refine hl_eqlT rfl rfl (by omega) rfl ?_ | refine hl_eqlF rfl rfl (by omega) rfl ?_ | refine hl_eql rfl rfl rfl ?_ | refine hl_eqPnil rfl rfl rfl ?_ | refine hl_eqPnn rfl rfl rfl ?_ | refine hl_eqSnil rfl rfl rfl ?_ | refine hl_eqSnn rfl rfl rfl ?_ | refine hl_eqB rfl rfl rfl ?_) | (refine is_neq ?_; first | refine hl_neqT rfl rfl (by omega) rfl ?_ | refine hl_neqF rfl rfl (by omega) rfl ?_ | refine hl_neq rfl rfl rfl ?_ | refine hl_nePnil rfl rfl rfl ?_ | refine hl_neB rfl rfl rfl ?_) | (refine is_un ?_; first | refine hl_not rfl rfl ?_ | refine hl_neg64 rfl (by omega) (by omega) rfl ?_ | refine hl_neg rfl rfl ?_) | (refine is_pick ?_; first | refine hl_pickTB rfl rfl rfl ?_ | refine hl_pickFB rfl rfl rfl ?_ | refine hl_pickTI rfl rfl rfl ?_ | refine hl_pickFI rfl rfl rfl ?_) | (refine is_quo ?_; first | refine hl_quo64 rfl rfl (by omega) (by omega) (by omega) rfl ?_ | refine hl_quo rfl rfl (by omega) rfl ?_) | (refine is_rem ?_; first | refine hl_rem64 rfl rfl (by omega) (by omega) rfl ?_ | refine hl_rem rfl rfl (by omega) rfl ?_) | (refine is_shl ?_; first | refine hl_shl64 rfl rfl (by first | with_reducible exact litc _ | rfl) (by decide) (by omega) rfl ?_) | (refine is_shr ?_; first | refine hl_shr' rfl rfl (by first | with_reducible exact litc _ | rfl) (by first | decide | (simp only [IntKind.bits]; omega)) rfl ?_) | (refine is_shl ?_; first | refine hl_shl' rfl rfl (by first | with_reducible exact litc _ | rfl) (by first | decide | (simp only [IntKind.bits]; omega)) rfl ?_) | (refine is_and ?_; first | refine hl_and rfl rfl rfl ?_) | (refine is_or ?_; first | refine hl_or rfl rfl rfl ?_) | (refine is_xor ?_; first | refine hl_xor rfl rfl rfl ?_) | (refine is_conv ?_; first | refine hl_convI64 rfl (by omega) (by omega) rfl ?_ | refine hl_convInt rfl rfl ?_) | (refine is_call ?_; first | refine hl_len rfl rfl ?_ | refine hl_lenArr rfl ?_ | refine hl_min rfl rfl rfl ?_ | refine hl_max rfl rfl rfl ?_) | (refine is_build ?_; first | refine hl_build rfl (by simp [fillP, evP, ev, updO, upd, argFr, ofL, Value.cells]; rfl) rfl ?_ | refine hl_buildArr rfl (by simp [fillP, evP, ev, updO, upd, argFr, ofL, Value.cells]; rfl) rfl ?_) | (refine is_index ?_; first | refine hl_index rfl rfl (by first | with_reducible exact litc _ | rfl) (by first | assumption | omega) (by first | with_reducible rfl | with_reducible assumption | exact tab_get (by omega) | rfl | assumption) rfl ?_) | (refine is_extract ?_; first | refine hl_extract rfl (by rfl) rfl ?_) | (refine is_store ?_; first | refine hl_storeI rfl rfl (by first | exact .here | exact (.there .here) | exact (.there (.there .here)) | exact (.there (.there (.there .here))) | exact (.there (.there (.there (.there .here)))) | exact (.there (.there (.there (.there (.there .here))))) | exact (.there (.there (.there (.there (.there (.there .here)))))) | exact (.there (.there (.there (.there (.there (.there (.there .here))))))) | exact (.there (.there (.there (.there (.there (.there (.there (.there .here))))))))) (by first | decide | (simp only [List.length_cons, List.length_nil, List.length_set, List.length_map, List.length_append, List.length_replicate, length_tab]; omega) | assumption) rfl ?_ | refine hl_storeB rfl rfl (by first | exact .here | exact (.there .here) | exact (.there (.there .here)) | exact (.there (.there (.there .here))) | exact (.there (.there (.there (.there .here)))) | exact (.there (.there (.there (.there (.there .here))))) | exact (.there (.there (.there (.there (.there (.there .here)))))) | exact (.there (.there (.there (.there (.there (.there (.there .here))))))) | exact (.there (.there (.there (.there (.there (.there (.there (.there .here))))))))) (by first | decide | (simp only [List.length_cons, List.length_nil, List.length_set, List.length_map, List.length_append, List.length_replicate, length_tab]; omega) | assumption) rfl ?_ | refine hl_storeP rfl rfl (by first | exact .here | exact (.there .here) | exact (.there (.there .here)) | exact (.there (.there (.there .here))) | exact (.there (.there (.there (.there .here)))) | exact (.there (.there (.there (.there (.there .here))))) | exact (.there (.there (.there (.there (.there (.there .here)))))) | exact (.there (.there (.there (.there (.there (.there (.there .here))))))) | exact (.there (.there (.there (.there (.there (.there (.there (.there .here))))))))) (by first | decide | (simp only [List.length_cons, List.length_nil, List.length_set, List.length_map, List.length_append, List.length_replicate, length_tab]; omega) | assumption) rfl ?_ | refine hl_storeS rfl rfl (by first | exact .here | exact (.there .here) | exact (.there (.there .here)) | exact (.there (.there (.there .here))) | exact (.there (.there (.there (.there .here)))) | exact (.there (.there (.there (.there (.there .here))))) | exact (.there (.there (.there (.there (.there (.there .here)))))) | exact (.there (.there (.there (.there (.there (.there (.there .here))))))) | exact (.there (.there (.there (.there (.there (.there (.there (.there .here))))))))) (by first | decide | (simp only [List.length_cons, List.length_nil, List.length_set, List.length_map, List.length_append, List.length_replicate, length_tab]; omega) | assumption) rfl ?_ | refine hl_storeT rfl rfl (by first | exact .here | exact (.there .here) | exact (.there (.there .here)) | exact (.there (.there (.there .here))) | exact (.there (.there (.there (.there .here)))) | exact (.there (.there (.there (.there (.there .here))))) | exact (.there (.there (.there (.there (.there (.there .here)))))) | exact (.there (.there (.there (.there (.there (.there (.there .here))))))) | exact (.there (.there (.there (.there (.there (.there (.there (.there .here))))))))) (by first | decide | (simp only [List.length_cons, List.length_nil, List.length_set, List.length_map, List.length_append, List.length_replicate, length_tab]; omega) | assumption) rfl ?_ | refine hl_storeA rfl rfl (by first | exact length_tab _ _ | rfl) (by first | exact tab_one | simp [Value.oneCell']) (by first | exact .here | exact (.there .here) | exact (.there (.there .here)) | exact (.there (.there (.there .here))) | exact (.there (.there (.there (.there .here)))) | exact (.there (.there (.there (.there (.there .here))))) | exact (.there (.there (.there (.there (.there (.there .here)))))) | exact (.there (.there (.there (.there (.there (.there (.there .here))))))) | exact (.there (.there (.there (.there (.there (.there (.there (.there .here))))))))) (by rfl) rfl ?_)) | refine hl_nil_thn ?_); exact k.out) : G := h ⟨k⟩
theorem gd_ {G K : Prop} (k : K) (h : Owe K → G := by intro k; (first | (refine is_cons ?_; first | (refine is_guard ?_; first | refine hl_run (by rfl) (by rfl) rfl ?_ | refine hl_pass (by rfl) (by rfl) (by rfl) rfl ?_ | refine hl_passU (by rfl) (by rfl) rfl ?_) | (refine is_move ?_; first | refine hl_moveI rfl rfl ?_ | refine hl_moveB rfl rfl ?_ | refine hl_moveP rfl rfl ?_ | refine hl_moveS rfl rfl ?_ | refine hl_moveT rfl rfl ?_ | refine hl_moveA rfl rfl ?_ | refine hl_moveU rfl rfl ?_) | (refine is_load ?_; first | refine hl_loadP rfl (by with_reducible assumption) (by omega) rfl ?_ | refine hl_loadR rfl (by with_reducible assumption) (by first | exact Imp.refl _ | exact Imp.drop (Imp.refl _) | exact Imp.drop (Imp.drop (Imp.refl _)) | exact Imp.drop (Imp.drop (Imp.drop (Imp.refl _))) | exact Imp.drop (Imp.drop (Imp.drop (Imp.drop (Imp.refl _)))) | exact Imp.drop (Imp.drop (Imp.drop (Imp.drop (Imp.drop (Imp.refl _))))) | exact Imp.drop (Imp.drop (Imp.drop (Imp.drop (Imp.drop (Imp.drop (Imp.refl _)))))) | exact Imp.drop (Imp.drop (Imp.drop (Imp.drop (Imp.drop (Imp.drop (Imp.drop (Imp.refl _))))))) | exact Imp.drop (Imp.drop (Imp.drop (Imp.drop (Imp.drop (Imp.drop (Imp.drop (Imp.drop (Imp.refl _))))))))) (by omega) rfl ?_ | refine hl_load1 rfl (by first | exact .here | exact (.there .here) | exact (.there (.there .here)) | exact (.there (.there (.there .here))) | exact (.there (.there (.there (.there .here)))) | exact (.there (.there (.there (.there (.there .here))))) | exact (.there (.there (.there (.there (.there (.there .here)))))) | exact (.there (.there (.there (.there (.there (.there (.there .here))))))) | exact (.there (.there (.there (.there (.there (.there (.there (.there .here))))))))) (by first | with_reducible rfl | with_reducible assumption | exact tab_get (by omega) | rfl | assumption) rfl ?_ | refine hl_loadW rfl (by first | exact .here | exact (.there .here) | exact (.there (.there .here)) | exact (.there (.there (.there .here))) | exact (.there (.there (.there (.there .here)))) | exact (.there (.there (.there (.there (.there .here))))) | exact (.there (.there (.there (.there (.there (.there .here)))))) | exact (.there (.there (.there (.there (.there (.there (.there .here))))))) | exact (.there (.there (.there (.there (.there (.there (.there (.there .here))))))))) (by first | rfl | assumption | (simp only [List.length_cons, List.length_nil, List.length_set, List.length_map, List.length_append, List.length_replicate, length_tab]; omega)) rfl ?_) | (refine is_fieldAddr ?_; first | refine hl_fieldAddr0 rfl rfl ?_ | refine hl_fieldAddr rfl rfl ?_) | (refine is_nilCheck ?_; first | refine hl_nilCheck rfl rfl ?_) | (refine is_assign ?_; first | refine hl_assignI rfl rfl ?_ | refine hl_assignB rfl rfl ?_ | refine hl_assignP rfl rfl ?_ | refine hl_assignS rfl rfl ?_ | refine hl_assignT rfl rfl ?_ | refine hl_assignA rfl rfl ?_ | refine hl_assignU rfl rfl ?_) | (refine is_add ?_; first | refine hl_add64e rfl rfl (by simp only [Int.reduceAdd]; rfl) (by decide) (by decide) rfl ?_ | refine hl_add64 rfl rfl (by omega) (by omega) rfl ?_ | refine hl_add rfl rfl rfl ?_) | (refine is_indexAddr ?_; first | refine hl_indexAddr0 rfl rfl (by first | with_reducible exact litc _ | rfl) (by first | assumption | omega) rfl ?_ | refine hl_indexArr0 rfl rfl (by first | with_reducible exact litc _ | rfl) (by first | assumption | omega) rfl ?_ | refine hl_indexAddr1 rfl rfl (by first | with_reducible exact litc _ | rfl) (by first | assumption | omega) rfl ?_ | refine hl_indexAddr rfl rfl (by first | with_reducible exact litc _ | rfl) (by first | assumption | omega) rfl ?_ | refine hl_indexArr1 rfl rfl (by first | with_reducible exact litc _ | rfl) (by first | assumption | omega) rfl ?_ | refine hl_indexArrZ rfl rfl (by first | with_reducible exact litc _ | rfl) (by first | assumption | omega) rfl ?_ | refine hl_indexArr rfl rfl (by first | with_reducible exact litc _ | rfl) (by first | assumption | omega) rfl ?_) | (refine is_sub ?_; first | refine hl_sub64e rfl rfl (by simp only [Int.reduceSub]; rfl) (by decide) (by decide) rfl ?_ | refine hl_sub64 rfl rfl (by omega) (by omega) rfl ?_ | refine hl_sub rfl rfl rfl ?_) | (refine is_mul ?_; first | refine hl_mul64e rfl rfl (by simp only [Int.reduceMul]; rfl) (by decide) (by decide) rfl ?_ | refine hl_mul64 rfl rfl (by omega) (by omega) rfl ?_ | refine hl_mul rfl rfl rfl ?_) | (refine is_lss ?_; first | refine hl_lssT rfl rfl (by omega) rfl ?_ | refine hl_lssF rfl rfl (by omega) rfl ?_ | refine hl_lss rfl rfl rfl ?_) | (refine is_leq ?_; first | refine hl_leqT rfl rfl (by omega) rfl ?_ | refine hl_leqF rfl rfl (by omega) rfl ?_ | refine hl_leq rfl rfl rfl ?_) | (refine is_gtr ?_; first | refine hl_gtrT rfl rfl (by omega) rfl ?_ | refine hl_gtrF rfl rfl (by omega) rfl ?_ | refine hl_gtr rfl rfl rfl ?_) | (refine is_geq ?_; first | refine hl_geqT rfl rfl (by omega) rfl ?_ | refine hl_geqF rfl rfl (by omega) rfl ?_ | refine hl_geq rfl rfl rfl ?_) | (refine is_eql ?_; first | refine hl_eqlT rfl rfl (by omega) rfl ?_ | refine hl_eqlF rfl rfl (by omega) rfl ?_ | refine hl_eql rfl rfl rfl ?_ | refine hl_eqPnil rfl rfl rfl ?_ | refine hl_eqPnn rfl rfl rfl ?_ | refine hl_eqSnil rfl rfl rfl ?_ | refine hl_eqSnn rfl rfl rfl ?_ | refine hl_eqB rfl rfl rfl ?_) | (refine is_neq ?_; first | refine hl_neqT rfl rfl (by omega) rfl ?_ | refine hl_neqF rfl rfl (by omega) rfl ?_ | refine hl_neq rfl rfl rfl ?_ | refine hl_nePnil rfl rfl rfl ?_ | refine hl_neB rfl rfl rfl ?_) | (refine is_un ?_; first | refine hl_not rfl rfl ?_ | refine hl_neg64 rfl (by omega) (by omega) rfl ?_ | refine hl_neg rfl rfl ?_) | (refine is_pick ?_; first | refine hl_pickTB rfl rfl rfl ?_ | refine hl_pickFB rfl rfl rfl ?_ | refine hl_pickTI rfl rfl rfl ?_ | refine hl_pickFI rfl rfl rfl ?_) | (refine is_quo ?_; first | refine hl_quo64 rfl rfl (by omega) (by omega) (by omega) rfl ?_ | refine hl_quo rfl rfl (by omega) rfl ?_) | (refine is_rem ?_; first | refine hl_rem64 rfl rfl (by omega) (by omega) rfl ?_ | refine hl_rem rfl rfl (by omega) rfl ?_) | (refine is_shl ?_; first | refine hl_shl64 rfl rfl (by first | with_reducible exact litc _ | rfl) (by decide) (by omega) rfl ?_) | (refine is_shr ?_; first | refine hl_shr' rfl rfl (by first | with_reducible exact litc _ | rfl) (by first | decide | (simp only [IntKind.bits]; omega)) rfl ?_) | (refine is_shl ?_; first | refine hl_shl' rfl rfl (by first | with_reducible exact litc _ | rfl) (by first | decide | (simp only [IntKind.bits]; omega)) rfl ?_) | (refine is_and ?_; first | refine hl_and rfl rfl rfl ?_) | (refine is_or ?_; first | refine hl_or rfl rfl rfl ?_) | (refine is_xor ?_; first | refine hl_xor rfl rfl rfl ?_) | (refine is_conv ?_; first | refine hl_convI64 rfl (by omega) (by omega) rfl ?_ | refine hl_convInt rfl rfl ?_) | (refine is_call ?_; first | refine hl_len rfl rfl ?_ | refine hl_lenArr rfl ?_ | refine hl_min rfl rfl rfl ?_ | refine hl_max rfl rfl rfl ?_) | (refine is_build ?_; first | refine hl_build rfl (by simp [fillP, evP, ev, updO, upd, argFr, ofL, Value.cells]; rfl) rfl ?_ | refine hl_buildArr rfl (by simp [fillP, evP, ev, updO, upd, argFr, ofL, Value.cells]; rfl) rfl ?_) | (refine is_index ?_; first | refine hl_index rfl rfl (by first | with_reducible exact litc _ | rfl) (by first | assumption | omega) (by first | with_reducible rfl | with_reducible assumption | exact tab_get (by omega) | rfl | assumption) rfl ?_) | (refine is_extract ?_; first | refine hl_extract rfl (by rfl) rfl ?_)) | refine hd_nil ?_ | refine hq_nil ?_); (repeat (first | (refine is_cons ?_; first | (refine is_guard ?_; first | refine hl_run (by rfl) (by rfl) rfl ?_ | refine hl_pass (by rfl) (by rfl) (by rfl) rfl ?_ | refine hl_passU (by rfl) (by rfl) rfl ?_) | (refine is_move ?_; first | refine hl_moveI rfl rfl ?_ | refine hl_moveB rfl rfl ?_ | refine hl_moveP rfl rfl ?_ | refine hl_moveS rfl rfl ?_ | refine hl_moveT rfl rfl ?_ | refine hl_moveA rfl rfl ?_ | refine hl_moveU rfl rfl ?_) | (refine is_load ?_; first | refine hl_loadP rfl (by with_reducible assumption) (by omega) rfl ?_ | refine hl_loadR rfl (by with_reducible assumption) (by first | exact Imp.refl _ | exact Imp.drop (Imp.refl _) | exact Imp.drop (Imp.drop (Imp.refl _)) | exact Imp.drop (Imp.drop (Imp.drop (Imp.refl _))) | exact Imp.drop (Imp.drop (Imp.drop (Imp.drop (Imp.refl _)))) | exact Imp.drop (Imp.drop (Imp.drop (Imp.drop (Imp.drop (Imp.refl _))))) | exact Imp.drop (Imp.drop (Imp.drop (Imp.drop (Imp.drop (Imp.drop (Imp.refl _)))))) | exact Imp.drop (Imp.drop (Imp.drop (Imp.drop (Imp.drop (Imp.drop (Imp.drop (Imp.refl _))))))) | exact Imp.drop (Imp.drop (Imp.drop (Imp.drop (Imp.drop (Imp.drop (Imp.drop (Imp.drop (Imp.refl _))))))))) (by omega) rfl ?_ | refine hl_load1 rfl (by first | exact .here | exact (.there .here) | exact (.there (.there .here)) | exact (.there (.there (.there .here))) | exact (.there (.there (.there (.there .here)))) | exact (.there (.there (.there (.there (.there .here))))) | exact (.there (.there (.there (.there (.there (.there .here)))))) | exact (.there (.there (.there (.there (.there (.there (.there .here))))))) | exact (.there (.there (.there (.there (.there (.there (.there (.there .here))))))))) (by first | with_reducible rfl | with_reducible assumption | exact tab_get (by omega) | rfl | assumption) rfl ?_ | refine hl_loadW rfl (by first | exact .here | exact (.there .here) | exact (.there (.there .here)) | exact (.there (.there (.there .here))) | exact (.there (.there (.there (.there .here)))) | exact (.there (.there (.there (.there (.there .here))))) | exact (.there (.there (.there (.there (.there (.there .here)))))) | exact (.there (.there (.there (.there (.there (.there (.there .here))))))) | exact (.there (.there (.there (.there (.there (.there (.there (.there .here))))))))) (by first | rfl | assumption | (simp only [List.length_cons, List.length_nil, List.length_set, List.length_map, List.length_append, List.length_replicate, length_tab]; omega)) rfl ?_) | (refine is_fieldAddr ?_; first | refine hl_fieldAddr0 rfl rfl ?_ | refine hl_fieldAddr rfl rfl ?_) | (refine is_nilCheck ?_; first | refine hl_nilCheck rfl rfl ?_) | (refine is_assign ?_; first | refine hl_assignI rfl rfl ?_ | refine hl_assignB rfl rfl ?_ | refine hl_assignP rfl rfl ?_ | refine hl_assignS rfl rfl ?_ | refine hl_assignT rfl rfl ?_ | refine hl_assignA rfl rfl ?_ | refine hl_assignU rfl rfl ?_) | (refine is_add ?_; first | refine hl_add64e rfl rfl (by simp only [Int.reduceAdd]; rfl) (by decide) (by decide) rfl ?_ | refine hl_add64 rfl rfl (by omega) (by omega) rfl ?_ | refine hl_add rfl rfl rfl ?_) | (refine is_indexAddr ?_; first | refine hl_indexAddr0 rfl rfl (by first | with_reducible exact litc _ | rfl) (by first | assumption | omega) rfl ?_ | refine hl_indexArr0 rfl rfl (by first | with_reducible exact litc _ | rfl) (by first | assumption | omega) rfl ?_ | refine hl_indexAddr1 rfl rfl (by first | with_reducible exact litc _ | rfl) (by first | assumption | omega) rfl ?_ | refine hl_indexAddr rfl rfl (by first | with_reducible exact litc _ | rfl) (by first | assumption | omega) rfl ?_ | refine hl_indexArr1 rfl rfl (by first | with_reducible exact litc _ | rfl) (by first | assumption | omega) rfl ?_ | refine hl_indexArrZ rfl rfl (by first | with_reducible exact litc _ | rfl) (by first | assumption | omega) rfl ?_ | refine hl_indexArr rfl rfl (by first | with_reducible exact litc _ | rfl) (by first | assumption | omega) rfl ?_) | (refine is_sub ?_; first | refine hl_sub64e rfl rfl (by simp only [Int.reduceSub]; rfl) (by decide) (by decide) rfl ?_ | refine hl_sub64 rfl rfl (by omega) (by omega) rfl ?_ | refine hl_sub rfl rfl rfl ?_) | (refine is_mul ?_; first | refine hl_mul64e rfl rfl (by simp only [Int.reduceMul]; rfl) (by decide) (by decide) rfl ?_ | refine hl_mul64 rfl rfl (by omega) (by omega) rfl ?_ | refine hl_mul rfl rfl rfl ?_) | (refine is_lss ?_; first | refine hl_lssT rfl rfl (by omega) rfl ?_ | refine hl_lssF rfl rfl (by omega) rfl ?_ | refine hl_lss rfl rfl rfl ?_) | (refine is_leq ?_; first | refine hl_leqT rfl rfl (by omega) rfl ?_ | refine hl_leqF rfl rfl (by omega) rfl ?_ | refine hl_leq rfl rfl rfl ?_) | (refine is_gtr ?_; first | refine hl_gtrT rfl rfl (by omega) rfl ?_ | refine hl_gtrF rfl rfl (by omega) rfl ?_ | refine hl_gtr rfl rfl rfl ?_) | (refine is_geq ?_; first | refine hl_geqT rfl rfl (by omega) rfl ?_ | refine hl_geqF rfl rfl (by omega) rfl ?_ | refine hl_geq rfl rfl rfl ?_) | (refine is_eql ?_; first | refine hl_eqlT rfl rfl (by omega) rfl ?_ | refine hl_eqlF rfl rfl (by omega) rfl ?_ | refine hl_eql rfl rfl rfl ?_ | refine hl_eqPnil rfl rfl rfl ?_ | refine hl_eqPnn rfl rfl rfl ?_ | refine hl_eqSnil rfl rfl rfl ?_ | refine hl_eqSnn rfl rfl rfl ?_ | refine hl_eqB rfl rfl rfl ?_) | (refine is_neq ?_; first | refine hl_neqT rfl rfl (by omega) rfl ?_ | refine hl_neqF rfl rfl (by omega) rfl ?_ | refine hl_neq rfl rfl rfl ?_ | refine hl_nePnil rfl rfl rfl ?_ | refine hl_neB rfl rfl rfl ?_) | (refine is_un ?_; first | refine hl_not rfl rfl ?_ | refine hl_neg64 rfl (by omega) (by omega) rfl ?_ | refine hl_neg rfl rfl ?_) | (refine is_pick ?_; first | refine hl_pickTB rfl rfl rfl ?_ | refine hl_pickFB rfl rfl rfl ?_ | refine hl_pickTI rfl rfl rfl ?_ | refine hl_pickFI rfl rfl rfl ?_) | (refine is_quo ?_; first | refine hl_quo64 rfl rfl (by omega) (by omega) (by omega) rfl ?_ | refine hl_quo rfl rfl (by omega) rfl ?_) | (refine is_rem ?_; first | refine hl_rem64 rfl rfl (by omega) (by omega) rfl ?_ | refine hl_rem rfl rfl (by omega) rfl ?_) | (refine is_shl ?_; first | refine hl_shl64 rfl rfl (by first | with_reducible exact litc _ | rfl) (by decide) (by omega) rfl ?_) | (refine is_shr ?_; first | refine hl_shr' rfl rfl (by first | with_reducible exact litc _ | rfl) (by first | decide | (simp only [IntKind.bits]; omega)) rfl ?_) | (refine is_shl ?_; first | refine hl_shl' rfl rfl (by first | with_reducible exact litc _ | rfl) (by first | decide | (simp only [IntKind.bits]; omega)) rfl ?_) | (refine is_and ?_; first | refine hl_and rfl rfl rfl ?_) | (refine is_or ?_; first | refine hl_or rfl rfl rfl ?_) | (refine is_xor ?_; first | refine hl_xor rfl rfl rfl ?_) | (refine is_conv ?_; first | refine hl_convI64 rfl (by omega) (by omega) rfl ?_ | refine hl_convInt rfl rfl ?_) | (refine is_call ?_; first | refine hl_len rfl rfl ?_ | refine hl_lenArr rfl ?_ | refine hl_min rfl rfl rfl ?_ | refine hl_max rfl rfl rfl ?_) | (refine is_build ?_; first | refine hl_build rfl (by simp [fillP, evP, ev, updO, upd, argFr, ofL, Value.cells]; rfl) rfl ?_ | refine hl_buildArr rfl (by simp [fillP, evP, ev, updO, upd, argFr, ofL, Value.cells]; rfl) rfl ?_) | (refine is_index ?_; first | refine hl_index rfl rfl (by first | with_reducible exact litc _ | rfl) (by first | assumption | omega) (by first | with_reducible rfl | with_reducible assumption | exact tab_get (by omega) | rfl | assumption) rfl ?_) | (refine is_extract ?_; first | refine hl_extract rfl (by rfl) rfl ?_)) | refine hd_nil ?_ | refine hq_nil ?_)); exact k.out) : G := h ⟨k⟩
theorem gd1_ {G K : Prop} (k : K) (h : Owe K → G := by intro k; (first | (refine is_cons ?_; first | (refine is_guard ?_; first | refine hl_run (by rfl) (by rfl) rfl ?_ | refine hl_pass (by rfl) (by rfl) (by rfl) rfl ?_ | refine hl_passU (by rfl) (by rfl) rfl ?_) | (refine is_move ?_; first | refine hl_moveI rfl rfl ?_ | refine hl_moveB rfl rfl ?_ | refine hl_moveP rfl rfl ?_ | refine hl_moveS rfl rfl ?_ | refine hl_moveT rfl rfl ?_ | refine hl_moveA rfl rfl ?_ | refine hl_moveU rfl rfl ?_) | (refine is_load ?_; first | refine hl_loadP rfl (by with_reducible assumption) (by omega) rfl ?_ | refine hl_loadR rfl (by with_reducible assumption) (by first | exact Imp.refl _ | exact Imp.drop (Imp.refl _) | exact Imp.drop (Imp.drop (Imp.refl _)) | exact Imp.drop (Imp.drop (Imp.drop (Imp.refl _))) | exact Imp.drop (Imp.drop (Imp.drop (Imp.drop (Imp.refl _)))) | exact Imp.drop (Imp.drop (Imp.drop (Imp.drop (Imp.drop (Imp.refl _))))) | exact Imp.drop (Imp.drop (Imp.drop (Imp.drop (Imp.drop (Imp.drop (Imp.refl _)))))) | exact Imp.drop (Imp.drop (Imp.drop (Imp.drop (Imp.drop (Imp.drop (Imp.drop (Imp.refl _))))))) | exact Imp.drop (Imp.drop (Imp.drop (Imp.drop (Imp.drop (Imp.drop (Imp.drop (Imp.drop (Imp.refl _))))))))) (by omega) rfl ?_ | refine hl_load1 rfl (by first | exact .here | exact (.there .here) | exact (.there (.there .here)) | exact (.there (.there (.there .here))) | exact (.there (.there (.there (.there .here)))) | exact (.there (.there (.there (.there (.there .here))))) | exact (.there (.there (.there (.there (.there (.there .here)))))) | exact (.there (.there (.there (.there (.there (.there (.there .here))))))) | exact (.there (.there (.there (.there (.there (.there (.there (.there .here))))))))) (by first | with_reducible rfl | with_reducible assumption | exact tab_get (by omega) | rfl | assumption) rfl ?_ | refine hl_loadW rfl (by first | exact .here | exact (.there .here) | exact (.there (.there .here)) | exact (.there (.there (.there .here))) | exact (.there (.there (.there (.there .here)))) | exact (.there (.there (.there (.there (.there .here))))) | exact (.there (.there (.there (.there (.there (.there .here)))))) | exact (.there (.there (.there (.there (.there (.there (.there .here))))))) | exact (.there (.there (.there (.there (.there (.there (.there (.there .here))))))))) (by first | rfl | assumption | (simp only [List.length_cons, List.length_nil, List.length_set, List.length_map, List.length_append, List.length_replicate, length_tab]; omega)) rfl ?_) | (refine is_fieldAddr ?_; first | refine hl_fieldAddr0 rfl rfl ?_ | refine hl_fieldAddr rfl rfl ?_) | (refine is_nilCheck ?_; first | refine hl_nilCheck rfl rfl ?_) | (refine is_assign ?_; first | refine hl_assignI rfl rfl ?_ | refine hl_assignB rfl rfl ?_ | refine hl_assignP rfl rfl ?_ | refine hl_assignS rfl rfl ?_ | refine hl_assignT rfl rfl ?_ | refine hl_assignA rfl rfl ?_ | refine hl_assignU rfl rfl ?_) | (refine is_add ?_; first | refine hl_add64e rfl rfl (by simp only [Int.reduceAdd]; rfl) (by decide) (by decide) rfl ?_ | refine hl_add64 rfl rfl (by omega) (by omega) rfl ?_ | refine hl_add rfl rfl rfl ?_) | (refine is_indexAddr ?_; first | refine hl_indexAddr0 rfl rfl (by first | with_reducible exact litc _ | rfl) (by first | assumption | omega) rfl ?_ | refine hl_indexArr0 rfl rfl (by first | with_reducible exact litc _ | rfl) (by first | assumption | omega) rfl ?_ | refine hl_indexAddr1 rfl rfl (by first | with_reducible exact litc _ | rfl) (by first | assumption | omega) rfl ?_ | refine hl_indexAddr rfl rfl (by first | with_reducible exact litc _ | rfl) (by first | assumption | omega) rfl ?_ | refine hl_indexArr1 rfl rfl (by first | with_reducible exact litc _ | rfl) (by first | assumption | omega) rfl ?_ | refine hl_indexArrZ rfl rfl (by first | with_reducible exact litc _ | rfl) (by first | assumption | omega) rfl ?_ | refine hl_indexArr rfl rfl (by first | with_reducible exact litc _ | rfl) (by first | assumption | omega) rfl ?_) | (refine is_sub ?_; first | refine hl_sub64e rfl rfl (by simp only [Int.reduceSub]; rfl) (by decide) (by decide) rfl ?_ | refine hl_sub64 rfl rfl (by omega) (by omega) rfl ?_ | refine hl_sub rfl rfl rfl ?_) | (refine is_mul ?_; first | refine hl_mul64e rfl rfl (by simp only [Int.reduceMul]; rfl) (by decide) (by decide) rfl ?_ | refine hl_mul64 rfl rfl (by omega) (by omega) rfl ?_ | refine hl_mul rfl rfl rfl ?_) | (refine is_lss ?_; first | refine hl_lssT rfl rfl (by omega) rfl ?_ | refine hl_lssF rfl rfl (by omega) rfl ?_ | refine hl_lss rfl rfl rfl ?_) | (refine is_leq ?_; first | refine hl_leqT rfl rfl (by omega) rfl ?_ | refine hl_leqF rfl rfl (by omega) rfl ?_ | refine hl_leq rfl rfl rfl ?_) | (refine is_gtr ?_; first | refine hl_gtrT rfl rfl (by omega) rfl ?_ | refine hl_gtrF rfl rfl (by omega) rfl ?_ | refine hl_gtr rfl rfl rfl ?_) | (refine is_geq ?_; first | refine hl_geqT rfl rfl (by omega) rfl ?_ | refine hl_geqF rfl rfl (by omega) rfl ?_ | refine hl_geq rfl rfl rfl ?_) | (refine is_eql ?_; first | refine hl_eqlT rfl rfl (by omega) rfl ?_ | refine hl_eqlF rfl rfl (by omega) rfl ?_ | refine hl_eql rfl rfl rfl ?_ | refine hl_eqPnil rfl rfl rfl ?_ | refine hl_eqPnn rfl rfl rfl ?_ | refine hl_eqSnil rfl rfl rfl ?_ | refine hl_eqSnn rfl rfl rfl ?_ | refine hl_eqB rfl rfl rfl ?_) | (refine is_neq ?_; first | refine hl_neqT rfl rfl (by omega) rfl ?_ | refine hl_neqF rfl rfl (by omega) rfl ?_ | refine hl_neq rfl rfl rfl ?_ | refine hl_nePnil rfl rfl rfl ?_ | refine hl_neB rfl rfl rfl ?_) | (refine is_un ?_; first | refine hl_not rfl rfl ?_ | refine hl_neg64 rfl (by omega) (by omega) rfl ?_ | refine hl_neg rfl rfl ?_) | (refine is_pick ?_; first | refine hl_pickTB rfl rfl rfl ?_ | refine hl_pickFB rfl rfl rfl ?_ | refine hl_pickTI rfl rfl rfl ?_ | refine hl_pickFI rfl rfl rfl ?_) | (refine is_quo ?_; first | refine hl_quo64 rfl rfl (by omega) (by omega) (by omega) rfl ?_ | refine hl_quo rfl rfl (by omega) rfl ?_) | (refine is_rem ?_; first | refine hl_rem64 rfl rfl (by omega) (by omega) rfl ?_ | refine hl_rem rfl rfl (by omega) rfl ?_) | (refine is_shl ?_; first | refine hl_shl64 rfl rfl (by first | with_reducible exact litc _ | rfl) (by decide) (by omega) rfl ?_) | (refine is_shr ?_; first | refine hl_shr' rfl rfl (by first | with_reducible exact litc _ | rfl) (by first | decide | (simp only [IntKind.bits]; omega)) rfl ?_) | (refine is_shl ?_; first | refine hl_shl' rfl rfl (by first | with_reducible exact litc _ | rfl) (by first | decide | (simp only [IntKind.bits]; omega)) rfl ?_) | (refine is_and ?_; first | refine hl_and rfl rfl rfl ?_) | (refine is_or ?_; first | refine hl_or rfl rfl rfl ?_) | (refine is_xor ?_; first | refine hl_xor rfl rfl rfl ?_) | (refine is_conv ?_; first | refine hl_convI64 rfl (by omega) (by omega) rfl ?_ | refine hl_convInt rfl rfl ?_) | (refine is_call ?_; first | refine hl_len rfl rfl ?_ | refine hl_lenArr rfl ?_ | refine hl_min rfl rfl rfl ?_ | refine hl_max rfl rfl rfl ?_) | (refine is_build ?_; first | refine hl_build rfl (by simp [fillP, evP, ev, updO, upd, argFr, ofL, Value.cells]; rfl) rfl ?_ | refine hl_buildArr rfl (by simp [fillP, evP, ev, updO, upd, argFr, ofL, Value.cells]; rfl) rfl ?_) | (refine is_index ?_; first | refine hl_index rfl rfl (by first | with_reducible exact litc _ | rfl) (by first | assumption | omega) (by first | with_reducible rfl | with_reducible assumption | exact tab_get (by omega) | rfl | assumption) rfl ?_) | (refine is_extract ?_; first | refine hl_extract rfl (by rfl) rfl ?_)) | refine hd_nil ?_ | refine hq_nil ?_); exact k.out) : G := h ⟨k⟩
theorem bx_ {G : Prop} {K : Nat → Prop} (k : ∀ g, K g) (h : Owe (∀ g, K g) → G := by intro k; (refine is_cons ?_; first | (refine is_box ?_; first | refine hl_boxA rfl rfl (fun g => ?_) | refine hl_boxI rfl rfl (fun g => ?_) | refine hl_boxB rfl rfl (fun g => ?_) | refine hl_boxP rfl rfl (fun g => ?_) | refine hl_boxS rfl rfl (fun g => ?_) | refine hl_boxT rfl rfl (fun g => ?_)) | refine hl_alloc (by simp [Value.cells]; rfl) rfl (fun g => ?_) | refine hl_buildSl rfl (by decide) rfl (by rfl) (by simp [fillP, evP, ev, updO, upd, argFr, ofL, Value.cells]; rfl) (by rfl) rfl (fun g => ?_)); exact k.out g) : G := h ⟨k⟩
end Go.Proofs.Ytoobhebbgbhahaa
namespace Go.Proofs.Ytoobhebbgbhahaa
open Go.RowKit
theorem app_swap (A C D : List Ent) : (A ++ (C ++ D)).Perm (C ++ (A ++ D)) := by
  rw [← List.append_assoc, ← List.append_assoc]
  exact List.perm_append_comm.append_right D
theorem Rds.take {w0 : World} {B : Nat} {H : List Ent} {a : Option Addr} {l : List Value} (h : Rds w0 B H a l) (n : Nat) : Rds w0 B H a (l.take n) :=
  ⟨fun w hw ad ha j u hu => h.cell w hw ad ha j u (by rw [List.getElem?_take] at hu; split at hu; exact hu; cases hu), fun h0 => by rw [h.nil h0]; simp, fun u hu => h.one u (List.mem_of_mem_take hu)⟩
theorem Fn.monoI {P : Program} {w0 : World} {B : Nat} {f : FuncId} {args : List Value} {H : List Ent} {R R' : Value → List Ent → Prop} (h : Fn P w0 B f args H R) (hr : ∀ v H', R v H' → ∃ H2, Imp H' H2 ∧ R' v H2) : Fn P w0 B f args H R' :=
  ⟨h.fn, fun w hw => (h.run w hw).mono fun e w' ⟨v, H', a, b, d⟩ => by
    obtain ⟨H2, hi, hr2⟩ := hr _ _ d
    exact ⟨v, H2, a, hi _ _ _ b, hr2⟩⟩
theorem Own.permE {e sz n : Nat} {v : Value} {C : List Value} {F H : List Ent} (h : Own e sz v n C F H) : ∃ X : List Ent, H.Perm (X ++ F) ∧ ∀ F', Own e sz v n C F' (X ++ F') := by
  rcases h with ⟨h1, h2, h3, h4⟩ | ⟨g, cap, h1, h2, h3, h4, h5⟩
  · exact ⟨[], h4, fun F' => .inl ⟨h1, h2, h3, List.Perm.refl _⟩⟩
  · exact ⟨[_], h5, fun F' => .inr ⟨g, cap, h1, h2, h3, h4, List.Perm.refl _⟩⟩
theorem Imp.tail (X F : List Ent) : Imp (X ++ F) F := by
  induction X with
  | nil => exact Imp.refl _
  | cons x X ih => exact Imp.drop ih
/-- Less is told of a block. -/
theorem Imp.pre {g T k : Nat} {C C' : List Value} {F : List Ent} (h : C' <+: C) (h0 : C' ≠ [] ∨ 0 < k ∨ C = C') : Imp (⟨g, T, C, k⟩ :: F) (⟨g, T, C', k⟩ :: F) := by
  intro w0 B w hw
  refine ⟨hw.below, hw.lt, hw.nodup, fun e he => ?_⟩
  rcases List.mem_cons.1 he with rfl | he
  · obtain ⟨hB, ⟨hT9, A, m, h1, h2, h3⟩ | ⟨hT9, hC9, h9⟩⟩ := hw.own _ (List.mem_cons_self ..)
    rotate_left
    · dsimp only at hC9
      subst hC9
      exact ⟨hB, .inr ⟨hT9, List.prefix_nil.1 h, h9⟩⟩
    dsimp only at h2
    refine ⟨hB, .inl ⟨hT9, A, m, h1, ?_, h.trans h3⟩⟩
    rcases h2 with h2 | ⟨h4, h5, h6⟩
    · exact .inl h2
    · refine .inr ⟨h4, ?_, h6⟩
      rcases h0 with h0 | h0 | rfl
      · exact h0
      · omega
      · exact h5
  · exact hw.own e (List.mem_cons_of_mem _ he)
/-- A row cut off. -/
theorem Own.cut {e n m cap : Nat} {a : Option Addr} {C : List Value} {F H : List Ent} (h : Own e 1 (.slice a n cap) n C F H) (hm : m ≤ n) : ∃ H2, Imp H H2 ∧ Own e 1 (.slice a m cap) m (C.take m) F H2 := by
  rcases h with ⟨h1, h2, h3, h4⟩ | ⟨g, cap', h1, h2, h3, h4, h5⟩
  · cases h1
    obtain rfl : m = 0 := by omega
    subst h3
    exact ⟨F, Imp.perm h4 (Imp.refl _), .inl ⟨rfl, rfl, by simp, List.Perm.refl _⟩⟩
  · cases h1
    refine ⟨⟨g, e, C.take m, cap * 1⟩ :: F, Imp.perm h5 (Imp.pre (List.take_prefix _ _) ?_), .inr ⟨g, cap, rfl, by omega, h3, by rw [List.length_take]; omega, List.Perm.refl _⟩⟩
    rcases Nat.eq_zero_or_pos n with h0 | h0
    · right; right
      have : C = [] := List.eq_nil_of_length_eq_zero (by omega)
      rw [this]; simp
    · right; left; omega
section
variable {c : Cx} {Q : Pst} {fr : Fr} {H F : List Ent} {ops : Array Oper} {rest : List Oper} {dst : Option Nat} {ty : TypeId} {pos : String} {after : Array Edge}
variable {x y : Operand} {T u e : TypeId} {S : List Oper → Fr → List Ent → Prop} [hS : Stp c ops S]
include hS
/-- 's[:j]'. -/
theorem hl_sliceTo {a : Option Addr} {len cap j sz : Nat} {hi : Operand} {kj : IntKind} {jz : Int} [hT : TSlc c.P T e] [TSz c.P e sz] (hx : ev fr x = .slice a len cap) (hhi : ev fr hi = .int kj jz) (hjz : jz = (j : Int)) (hj : j ≤ cap) (hd : dOk c.n dst = true)
    (h : S rest (updO fr dst (.slice a j cap)) H) : S (⟨dst, .slice T x none (some hi) none, ty, pos, after, none⟩ :: rest) fr H := by
  subst hjz
  refine hl_pure hd _ (fun w _ => ?_) h
  have h2 : ((j : Int) ≤ (cap : Int)) := by omega
  have hb : (Instr.sliceBounds true len cap none (some (ev fr hi)) none).run c.P w = .ok (0, j, cap) w := by
    simp [Instr.sliceBounds, Instr.sliceBound, asIntOf, hhi, hj]
  have hs : (Instr.sliceAt T (ev fr x) none (some (ev fr hi)) none).run c.P w = .ok (.slice a j cap) w := by
    simp only [Instr.sliceAt, Instr.slice, Sem.run_bind, run_underlying hT.h, Result.andThen_ok, hx, hb, sizeOf_sz (T := e) (n := sz), Sem.run_pure]
    by_cases hc : cap = 0
    · simp [hc]
    · cases a <;> simp [hc, Addr.add]
  simp [execOp, hs]
/-- 's[:j:j]'. -/
theorem hl_sliceTo3 {a : Option Addr} {len cap j sz : Nat} {hi mx : Operand} {kj km : IntKind} {jz : Int} [hT : TSlc c.P T e] [TSz c.P e sz] (hx : ev fr x = .slice a len cap) (hhi : ev fr hi = .int kj jz) (hmx : ev fr mx = .int km jz) (hjz : jz = (j : Int)) (hj : j ≤ cap) (hd : dOk c.n dst = true)
    (h : S rest (updO fr dst (.slice a j j)) H) : S (⟨dst, .slice T x none (some hi) (some mx), ty, pos, after, none⟩ :: rest) fr H := by
  subst hjz
  refine hl_pure hd _ (fun w _ => ?_) h
  have hb : (Instr.sliceBounds true len cap none (some (ev fr hi)) (some (ev fr mx))).run c.P w = .ok (0, j, j) w := by
    simp [Instr.sliceBounds, Instr.sliceBound, asIntOf, hhi, hmx, hj]
  have hs : (Instr.sliceAt T (ev fr x) none (some (ev fr hi)) (some (ev fr mx))).run c.P w = .ok (.slice a j j) w := by
    simp only [Instr.sliceAt, Instr.slice, Sem.run_bind, run_underlying hT.h, Result.andThen_ok, hx, hb, sizeOf_sz (T := e) (n := sz), Sem.run_pure]
    by_cases hc : j = 0
    · simp [hc]
    · cases a <;> simp [hc, Addr.add]
  simp [execOp, hs]
/-- 's[i:j]' of what is known to lie there. -/
theorem hl_sliceR {a : Option Addr} {len cap i j : Nat} {l : List Value} {lo hi : Option Operand} {ki kj : IntKind} [hT : TSlc c.P T e] [TSz c.P e 1] (hx : ev fr x = .slice a len cap) (hr : Rds c.w0 c.B H a l) (hl : l.length = len) (hle : len ≤ cap) (hn : a = none → cap = 0)
    (hlo : match lo with | some o => ev fr o = .int ki (i : Int) | none => i = 0) (hhi : match hi with | some o => ev fr o = .int kj (j : Int) | none => j = len) (hij : i ≤ j) (hj : j ≤ len) (hd : dOk c.n dst = true)
    (h : ∀ a', Rds c.w0 c.B H a' ((l.drop i).take (j - i)) → (a' = none → cap - i = 0) → S rest (updO fr dst (.slice a' (j - i) (cap - i))) H) :
    S (⟨dst, .slice T x lo hi none, ty, pos, after, none⟩ :: rest) fr H := by
  refine hl_pure hd _ (fun w _ => ?_) (h (if cap = i then a else a.map (·.add i)) ?_ ?_)
  · have h1 : ((i : Int) ≤ (j : Int)) := by omega
    have h2 : ((j : Int) ≤ (cap : Int)) := by omega
    have hb : (Instr.sliceBounds true len cap (lo.map (ev fr)) (hi.map (ev fr)) none).run c.P w = .ok (i, j, cap) w := by
      have hjc : j ≤ cap := by omega
      cases hi with
      | none =>
        dsimp only at hhi; subst hhi
        cases lo with
        | none => dsimp only at hlo; subst hlo; simp [Instr.sliceBounds]
        | some o => dsimp only at hlo; simp [Instr.sliceBounds, Instr.sliceBound, asIntOf, hlo, hij]
      | some o2 =>
        dsimp only at hhi
        cases lo with
        | none => dsimp only at hlo; subst hlo; simp [Instr.sliceBounds, Instr.sliceBound, asIntOf, hhi, hjc]
        | some o => dsimp only at hlo; simp [Instr.sliceBounds, Instr.sliceBound, asIntOf, hlo, hhi, hij, hjc]
    have hs : (Instr.sliceAt T (ev fr x) (lo.map (ev fr)) (hi.map (ev fr)) none).run c.P w = .ok (.slice (if cap = i then a else a.map (·.add i)) (j - i) (cap - i)) w := by
      simp only [Instr.sliceAt, Instr.slice, Sem.run_bind, run_underlying hT.h, Result.andThen_ok, hx, hb, sizeOf_sz (T := e) (n := 1), Sem.run_pure, Nat.mul_one]
    simp [execOp, hs]
  · by_cases hc : cap = i
    · rw [if_pos hc]
      have h0 : j - i = 0 := by omega
      rw [h0, List.take_zero]
      exact ⟨fun _ _ _ _ j u hu => by simp at hu, fun _ => rfl, fun _ h => by cases h⟩
    · rw [if_neg hc]
      refine ⟨fun w hw ad ha k v hv => ?_, fun h0 => ?_, fun v hv => hr.one v (List.mem_of_mem_drop (List.mem_of_mem_take hv))⟩
      · cases a with
        | none => cases ha
        | some a =>
          cases ha
          rw [List.getElem?_take] at hv
          split at hv
          · rw [List.getElem?_drop] at hv
            have := hr.cell w hw a rfl (i + k) v hv
            rw [← this]
            congr 1
            unfold Addr.add
            cases a with
            | mk b o s => by_cases h1 : i = 0 <;> by_cases h2 : k = 0 <;> simp [h1, h2, Nat.add_assoc]
          · cases hv
      · cases a with
        | none =>
          have := hr.nil rfl
          rw [this]; simp
        | some a => cases h0
  · intro h0
    cases a with
    | none => have := hn rfl; omega
    | some a =>
      split at h0
      · cases h0
      · cases h0
theorem hl_strAdd {a b : ByteArray} (hx : ev fr x = .string a) (hy : ev fr y = .string b) (hl : a.size + b.size ≤ 9223372036854775807) (hd : dOk c.n dst = true) (k : S rest (updO fr dst (.string (a ++ b))) H) : S (⟨dst, .binOp .add T x y u, ty, pos, after, none⟩ :: rest) fr H :=
  hl_bin .add hx hy hd (fun w => by simp [eqGuard_add]) (fun w => by
    have : ¬ ((a.size + b.size : Nat) : Int) > IntKind.i64.max := by
      show ¬ ((a.size + b.size : Nat) : Int) > 9223372036854775807
      omega
    simp only [binOp, Op.stringOp]
    rw [if_neg this]
    simp) k
/-- Of bytes. -/
theorem hl_strAddL {l m : List UInt8} (hx : ev fr x = .string ⟨l.toArray⟩) (hy : ev fr y = .string ⟨m.toArray⟩) (hl : l.length + m.length ≤ 9223372036854775807) (hd : dOk c.n dst = true) (k : S rest (updO fr dst (.string ⟨(l ++ m).toArray⟩)) H) : S (⟨dst, .binOp .add T x y u, ty, pos, after, none⟩ :: rest) fr H := by
  refine hl_strAdd hx hy (by simpa [ByteArray.size] using hl) hd ?_
  have : (ByteArray.mk l.toArray) ++ (ByteArray.mk m.toArray) = ByteArray.mk (l ++ m).toArray := by
    apply ByteArray.ext
    simp [ByteArray.data_append]
  rw [this]; exact k
omit hS in
theorem ba_toList (l : List UInt8) : (ByteArray.mk l.toArray).toList = l := by
  simp
theorem hl_strEqL {l m : List UInt8} (hx : ev fr x = .string ⟨l.toArray⟩) (hy : ev fr y = .string ⟨m.toArray⟩) (hd : dOk c.n dst = true) (k : S rest (updO fr dst (.bool (l == m))) H) : S (⟨dst, .binOp .eql T x y u, ty, pos, after, none⟩ :: rest) fr H :=
  hl_strEq hx hy hd (by rw [ba_toList, ba_toList]; exact k)
theorem hl_strNeL {l m : List UInt8} (hx : ev fr x = .string ⟨l.toArray⟩) (hy : ev fr y = .string ⟨m.toArray⟩) (hd : dOk c.n dst = true) (k : S rest (updO fr dst (.bool (!(l == m)))) H) : S (⟨dst, .binOp .neq T x y u, ty, pos, after, none⟩ :: rest) fr H :=
  hl_strNe hx hy hd (by rw [ba_toList, ba_toList]; exact k)
theorem hl_strEqT {a b : ByteArray} (hx : ev fr x = .string a) (hy : ev fr y = .string b) (hab : a = b) (hd : dOk c.n dst = true) (k : S rest (updO fr dst (.bool true)) H) : S (⟨dst, .binOp .eql T x y u, ty, pos, after, none⟩ :: rest) fr H :=
  hl_strEq hx hy hd (by rw [hab, beq_self_eq_true]; exact k)
theorem hl_strNeF {a b : ByteArray} (hx : ev fr x = .string a) (hy : ev fr y = .string b) (hab : a = b) (hd : dOk c.n dst = true) (k : S rest (updO fr dst (.bool false)) H) : S (⟨dst, .binOp .neq T x y u, ty, pos, after, none⟩ :: rest) fr H :=
  hl_strNe hx hy hd (by rw [hab, beq_self_eq_true]; exact k)
end
section
variable {c : Cx} {Q : Pst} {fr : Fr} {H F : List Ent} {ops : Array Oper} {rest : List Oper} {dst : Option Nat} {ty : TypeId} {pos : String} {after : Array Edge}
variable {x y : Operand} {T u e : TypeId}
/-- '[]byte("..")': the row is marked; it is only read from now on. -/
theorem hl_convLit {g n cap k : Nat} {C : List Value} [hT : TSlc c.P T e] [he : TInt c.P e .u8] (hx : ev fr x = .slice (some ⟨g, 0, none⟩) n cap) (ht : Take H ⟨g, e, C, k⟩ F) (hk : C.length = k) (h0 : 0 < k) (hd : dOk c.n dst = true)
    (h : HL c ops Q rest (updO fr dst (.slice (some ⟨g, 0, none⟩) n cap)) (⟨g, e, C, 0⟩ :: F)) : HL c ops Q (⟨dst, .convert T T x, ty, pos, after, none⟩ :: rest) fr H :=
  hl_some hd fun w hw => by
    have hw := hw.take ht
    obtain ⟨hB, hh9⟩ := hw.own _ (List.mem_cons_self ..)
    obtain ⟨hT9, A, m, hA, hk2, hP⟩ := hh9.cellsC (by intro h9; dsimp only at h9; rw [h9] at hk; simp at hk; omega)
    dsimp only at hA hk2 hP hT9
    obtain ⟨rfl, hAk⟩ : m = (0, 0) ∧ A.size = k := by
      rcases hk2 with h | ⟨h1, _⟩
      · exact h
      · omega
    have hsh : w.shape? g = some (e, A.size) := by
      unfold World.shape?; rw [hA]
    have hne : C ≠ [] := fun h => by rw [h] at hk; simp at hk; omega
    have hfz : (w.freeze ⟨g, A.size, none⟩ 1).heap[g]? = some (.cells A e (A.size, A.size + 1)) := by
      unfold World.freeze
      rw [if_neg (by decide)]
      obtain ⟨hlt, hAe⟩ := Array.getElem?_eq_some_iff.1 hA
      simp [Array.getElem?_modify, hA]
    have hoth : ∀ j, j ≠ g → (w.freeze ⟨g, A.size, none⟩ 1).heap[j]? = w.heap[j]? := by
      intro j hj
      unfold World.freeze
      rw [if_neg (by decide)]
      simp only [Array.getElem?_modify]
      rw [if_neg (fun h => hj h.symm)]
    have hsz : (w.freeze ⟨g, A.size, none⟩ 1).heap.size = w.heap.size := by
      unfold World.freeze
      rw [if_neg (by decide)]
      simp
    refine ⟨_, w.freeze ⟨g, A.size, none⟩ 1, _, ?_, hw.drop.cons ⟨g, e, C, 0⟩ hB hw.notin (.inl ⟨hT9, A, _, hfz, .inr ⟨rfl, hne, Nat.le_refl _⟩, hP⟩) ?_ (fun j _ hj => hoth j hj), h⟩
    · simp [execOp, hx, convert, run_underlying hT.h, run_underlying he.h, markStringish, hsh]
    · refine ⟨?_, ?_, ?_, by rw [hsz]; exact Nat.le_refl _, fun j hj => hoth j (by show j ≠ g; dsimp only at hB; omega)⟩ <;> (unfold World.freeze; rw [if_neg (by decide)])
end
end Go.Proofs.Ytoobhebbgbhahaa
namespace Go.Proofs.Ytoobhebbgbhahaa
def I64 (n : Int) : Prop := -9223372036854775808 ≤ n ∧ n ≤ 9223372036854775807
def zz (n : Int) : Nat := if 0 ≤ n then (2 * n).toNat else (-2 * n - 1).toNat
def unzz (u : Nat) : Int := if u % 2 = 0 then ((u / 2 : Nat) : Int) else -1 - ((u / 2 : Nat) : Int)
theorem unzz_zz (n : Int) : unzz (zz n) = n := by
  unfold unzz zz
  split <;> split <;> omega
theorem zz_unzz (u : Nat) : zz (unzz u) = u := by
  unfold unzz zz
  split <;> split <;> omega
theorem zz_lt {n : Int} (h : I64 n) : zz n < 18446744073709551616 := by
  obtain ⟨h1, h2⟩ := h
  unfold zz
  split <;> omega
theorem unzz_in {u : Nat} (h : u < 18446744073709551616) : I64 (unzz u) := by
  unfold unzz I64
  split <;> omega
def putU (u : Nat) : List UInt8 := if _h : u < 128 then [UInt8.ofNat u] else UInt8.ofNat (u % 128 + 128) :: putU (u / 128)
termination_by u
theorem putU_lt {u : Nat} (h : u < 128) : putU u = [UInt8.ofNat u] := by rw [putU, dif_pos h]
theorem putU_ge {u : Nat} (h : ¬ u < 128) : putU u = UInt8.ofNat (u % 128 + 128) :: putU (u / 128) := by rw [putU, dif_neg h]
def numB (n : Int) : List UInt8 := putU (zz n)
def numsB (l : List Int) : List UInt8 := l.flatMap numB
theorem numsB_cons (n : Int) (l : List Int) : numsB (n :: l) = numB n ++ numsB l := rfl
theorem numsB_append (l m : List Int) : numsB (l ++ m) = numsB l ++ numsB m := by simp [numsB]
def lstB (l : List Int) : List UInt8 := numB (l.length : Int) ++ numsB l
structure Pt where
  x : Int
  y : Int
/-- An edit: its ten numbers, four lists. -/
structure Ed where
  f : List Int
  P : List Int
  S : List Pt
  m : List Int
  Q : List Int
def ptsB (l : List Pt) : List UInt8 := l.flatMap fun p => numB p.x ++ numB p.y
def Ed.put (e : Ed) : List UInt8 := numsB e.f ++ (lstB e.P ++ (numB (e.S.length : Int) ++ (ptsB e.S ++ (numsB e.m ++ lstB e.Q))))
structure Ed.wf (e : Ed) : Prop where
  f : ∀ n ∈ e.f, I64 n
  P : ∀ n ∈ e.P, I64 n
  S : ∀ p ∈ e.S, I64 p.x ∧ I64 p.y
  m : ∀ n ∈ e.m, I64 n
  Q : ∀ n ∈ e.Q, I64 n
  fl : e.f.length = 10
  ml : e.m.length = 6
  Pl : e.P.length ≤ 1000000
  Sl : e.S.length ≤ 1000000
  Ql : e.Q.length ≤ 1000000
/-- What is read; the first error. -/
structure Rd where
  l : List UInt8
  e : Nat
def getU : Nat → Nat → List UInt8 → Nat × List UInt8 × Nat
  | _, _, [] => (0, [], 20)
  | k, u, c :: r => if (k = 9 ∧ 1 < c.toNat) ∨ (0 < k ∧ c.toNat = 0) then (0, r, 25) else if c.toNat < 128 then (u + c.toNat % 128 * 2 ^ (7 * k), r, 0) else getU (k + 1) (u + c.toNat % 128 * 2 ^ (7 * k)) r
def Rd.num (s : Rd) : Int × Rd := if s.e ≠ 0 then (0, s) else (if (getU 0 0 s.l).2.2 = 0 then unzz (getU 0 0 s.l).1 else 0, ⟨(getU 0 0 s.l).2.1, (getU 0 0 s.l).2.2⟩)
def Rd.size (s : Rd) : Nat × Rd := if s.num.2.e ≠ 0 then (0, s.num.2) else if s.num.1 < 0 then (0, ⟨s.num.2.l, 25⟩) else if (s.num.2.l.length : Int) < s.num.1 then (0, ⟨s.num.2.l, 20⟩) else (s.num.1.toNat, s.num.2)
def Rd.numsP : Nat → Rd → List Int × Rd
  | 0, s => ([], s)
  | k + 1, s => if s.e ≠ 0 then ([], s) else (s.num.1 :: (Rd.numsP k s.num.2).1, (Rd.numsP k s.num.2).2)
def Rd.nums (s : Rd) : List Int × Rd := Rd.numsP s.size.1 s.size.2
def Rd.fix : Nat → Rd → List Int × Rd
  | 0, s => ([], s)
  | k + 1, s => (s.num.1 :: (Rd.fix k s.num.2).1, (Rd.fix k s.num.2).2)
def Rd.ptsP : Nat → Rd → List Pt × Rd
  | 0, s => ([], s)
  | k + 1, s => if s.e ≠ 0 then ([], s) else (⟨s.num.1, s.num.2.num.1⟩ :: (Rd.ptsP k s.num.2.num.2).1, (Rd.ptsP k s.num.2.num.2).2)
def Ed.zero : Ed := ⟨[0, 0, 0, 0, 0, 0, 0, 0, 0, 0], [], [], [0, 0, 0, 0, 0, 0], []⟩
def getR (b : List UInt8) : Ed × Rd :=
  let r1 := Rd.fix 10 ⟨b, 0⟩
  let r2 := r1.2.nums
  let r3 := r2.2.size
  let r4 := Rd.ptsP r3.1 r3.2
  let r5 := Rd.fix 6 r4.2
  let r6 := r5.2.nums
  (⟨r1.1, r2.1, r4.1, r5.1, r6.1⟩, r6.2)
def Rd.endE (s : Rd) : Nat := if s.e = 0 ∧ s.l ≠ [] then 25 else s.e
def getE (b : List UInt8) : Ed × Nat := if (getR b).2.endE = 0 then ((getR b).1, 0) else (Ed.zero, (getR b).2.endE)

/-! What is written is read -/
theorem byte_ofNat {n : Nat} (h : n < 256) : (UInt8.ofNat n).toNat = n := by rw [UInt8.toNat_ofNat']; omega
theorem getU_put : ∀ (v k u : Nat) (r : List UInt8), v * 2 ^ (7 * k) < 18446744073709551616 → (0 < k → 0 < v) → getU k u (putU v ++ r) = (u + v * 2 ^ (7 * k), r, 0) := by
  intro v
  induction v using Nat.strongRecOn with
  | _ v ih =>
    intro k u r hb hv
    have h9 : k = 9 → v ≤ 1 := by
      rintro rfl
      simp only [Nat.reduceMul, Nat.reducePow] at hb
      omega
    by_cases hlt : v < 128
    · rw [putU_lt hlt]
      simp only [List.cons_append, List.nil_append, getU, byte_ofNat (show v < 256 by omega)]
      rw [if_neg (by omega), if_pos hlt, Nat.mod_eq_of_lt hlt]
    · rw [putU_ge hlt]
      simp only [List.cons_append, getU, byte_ofNat (show v % 128 + 128 < 256 by omega)]
      rw [if_neg (by omega), if_neg (by omega), show (v % 128 + 128) % 128 = v % 128 by omega]
      have e : 2 ^ (7 * (k + 1)) = 128 * 2 ^ (7 * k) := by rw [show 7 * (k + 1) = 7 + 7 * k by omega, Nat.pow_add]
      have hd : v / 128 * 2 ^ (7 * (k + 1)) + v % 128 * 2 ^ (7 * k) = v * 2 ^ (7 * k) := by
        rw [e, ← Nat.mul_assoc, ← Nat.add_mul]
        congr 1
        omega
      rw [ih (v / 128) (by omega) (k + 1) _ r (by omega) (fun _ => by omega)]
      congr 1
      omega
theorem Rd.num_put {n : Int} (h : I64 n) (r : List UInt8) : Rd.num ⟨numB n ++ r, 0⟩ = (n, ⟨r, 0⟩) := by
  have := getU_put (zz n) 0 0 r (by simpa using zz_lt h) (fun h => absurd h (by omega))
  unfold Rd.num numB
  rw [if_neg (by simp)]
  dsimp only
  rw [this]
  simp [unzz_zz]
theorem Rd.fix_put : ∀ (l : List Int) (r : List UInt8), (∀ n ∈ l, I64 n) → Rd.fix l.length ⟨numsB l ++ r, 0⟩ = (l, ⟨r, 0⟩)
  | [], r, _ => rfl
  | n :: l, r, h => by
    rw [numsB_cons, List.append_assoc, List.length_cons, Rd.fix, Rd.num_put (h n (by simp))]
    dsimp only
    rw [Rd.fix_put l r (fun m hm => h m (by simp [hm]))]
theorem Rd.numsP_put : ∀ (l : List Int) (r : List UInt8), (∀ n ∈ l, I64 n) → Rd.numsP l.length ⟨numsB l ++ r, 0⟩ = (l, ⟨r, 0⟩)
  | [], r, _ => rfl
  | n :: l, r, h => by
    rw [numsB_cons, List.append_assoc, List.length_cons, Rd.numsP, Rd.num_put (h n (by simp)), if_neg (by simp)]
    dsimp only
    rw [Rd.numsP_put l r (fun m hm => h m (by simp [hm]))]
theorem length_putU (u : Nat) : 0 < (putU u).length := by
  rw [putU]; split <;> simp
theorem length_numB (n : Int) : 0 < (numB n).length := length_putU _
theorem length_numsB : ∀ l : List Int, l.length ≤ (numsB l).length
  | [] => Nat.le_refl _
  | n :: l => by have := length_numsB l; have := length_numB n; rw [numsB_cons, List.length_append, List.length_cons]; omega
theorem length_ptsB : ∀ l : List Pt, l.length ≤ (ptsB l).length
  | [] => Nat.le_refl _
  | p :: l => by
    have := length_ptsB l
    have := length_numB p.x
    unfold ptsB at *
    rw [List.flatMap_cons, List.length_append, List.length_append, List.length_cons]; omega
theorem Rd.size_put {n : Nat} (hn : n ≤ 1000000) {r : List UInt8} (h : n ≤ r.length) : Rd.size ⟨numB (n : Int) ++ r, 0⟩ = (n, ⟨r, 0⟩) := by
  unfold Rd.size
  rw [Rd.num_put ⟨by omega, by omega⟩, if_neg (by simp), if_neg (by dsimp only; omega), if_neg (by dsimp only; omega)]
  simp
theorem Rd.nums_put {l : List Int} (hl : l.length ≤ 1000000) (h : ∀ n ∈ l, I64 n) (r : List UInt8) : Rd.nums ⟨lstB l ++ r, 0⟩ = (l, ⟨r, 0⟩) := by
  unfold Rd.nums lstB
  rw [List.append_assoc, Rd.size_put hl (by have := length_numsB l; rw [List.length_append]; omega)]
  exact Rd.numsP_put l r h
theorem Rd.ptsP_put : ∀ (l : List Pt) (r : List UInt8), (∀ p ∈ l, I64 p.x ∧ I64 p.y) → Rd.ptsP l.length ⟨ptsB l ++ r, 0⟩ = (l, ⟨r, 0⟩)
  | [], r, _ => rfl
  | p :: l, r, h => by
    obtain ⟨h1, h2⟩ := h p (by simp)
    rw [show ptsB (p :: l) = (numB p.x ++ numB p.y) ++ ptsB l from rfl, List.append_assoc, List.append_assoc, List.length_cons, Rd.ptsP, Rd.num_put h1, if_neg (by simp)]
    dsimp only
    rw [Rd.num_put h2]
    dsimp only
    rw [Rd.ptsP_put l r (fun m hm => h m (by simp [hm]))]
theorem getR_put {e : Ed} (h : e.wf) (r : List UInt8) : getR (e.put ++ r) = (e, ⟨r, 0⟩) := by
  have hL1 := length_ptsB e.S
  unfold getR Ed.put
  have f1 := Rd.fix_put e.f (lstB e.P ++ (numB (e.S.length : Int) ++ (ptsB e.S ++ (numsB e.m ++ lstB e.Q))) ++ r) h.f
  rw [h.fl] at f1
  have f5 := Rd.fix_put e.m (lstB e.Q ++ r) h.m
  rw [h.ml] at f5
  dsimp only
  rw [List.append_assoc, f1]
  dsimp only
  rw [List.append_assoc, Rd.nums_put h.Pl h.P]
  dsimp only
  rw [List.append_assoc, Rd.size_put h.Sl (by rw [List.append_assoc, List.length_append]; omega)]
  dsimp only
  rw [List.append_assoc, Rd.ptsP_put e.S _ h.S]
  dsimp only
  rw [List.append_assoc, f5]
  dsimp only
  rw [Rd.nums_put h.Ql h.Q]
theorem getE_put {e : Ed} (h : e.wf) : getE e.put = (e, 0) := by
  have := getR_put h []
  rw [List.append_nil] at this
  unfold getE
  rw [this]
  rfl
theorem put_inj {e e' : Ed} (h : e.wf) (h' : e'.wf) (hp : e.put = e'.put) : e = e' := by
  have := getE_put h
  rw [hp, getE_put h'] at this
  exact (Prod.mk.inj this).1.symm

/-! What is read was written so -/
theorem getU_was : ∀ (l : List UInt8) (k u u' : Nat) (r : List UInt8), k ≤ 9 → getU k u l = (u', r, 0) → ∃ v, u' = u + v * 2 ^ (7 * k) ∧ l = putU v ++ r ∧ v * 2 ^ (7 * k) < 18446744073709551616 ∧ (0 < k → 0 < v)
  | [], k, u, u', r, _, h => by simp [getU] at h
  | c :: l, k, u, u', r, hk, h => by
    rw [getU] at h
    split at h
    · simp at h
    · rename_i hc
      have h256 := c.toNat_lt
      split at h
      · rename_i hlt
        obtain ⟨rfl, rfl, _⟩ : u + c.toNat % 128 * 2 ^ (7 * k) = u' ∧ l = r ∧ True := by simpa using h
        refine ⟨c.toNat, by rw [Nat.mod_eq_of_lt hlt], ?_, ?_, fun _ => by omega⟩
        · rw [putU_lt hlt]; simp
        · rcases Nat.lt_or_ge k 9 with h9 | h9
          · have : 2 ^ (7 * k) ≤ 2 ^ 56 := Nat.pow_le_pow_right (by decide) (by omega)
            have := Nat.mul_le_mul (show c.toNat ≤ 127 by omega) this
            simp only [Nat.reducePow] at this
            omega
          · obtain rfl : k = 9 := by omega
            simp only [Nat.reduceMul, Nat.reducePow]
            omega
      · rename_i hge
        have h9 : k ≠ 9 := fun h => hc (.inl ⟨h, by omega⟩)
        obtain ⟨v, h1, h2, h3, h4⟩ := getU_was l (k + 1) _ u' r (by omega) h
        have hv := h4 (by omega)
        have e : 2 ^ (7 * (k + 1)) = 128 * 2 ^ (7 * k) := by rw [show 7 * (k + 1) = 7 + 7 * k by omega, Nat.pow_add]
        have hd : (v * 128 + c.toNat % 128) * 2 ^ (7 * k) = v * 2 ^ (7 * (k + 1)) + c.toNat % 128 * 2 ^ (7 * k) := by
          rw [e, ← Nat.mul_assoc, ← Nat.add_mul]
        refine ⟨v * 128 + c.toNat % 128, by rw [h1, hd]; omega, ?_, ?_, fun _ => by omega⟩
        · rw [putU_ge (by omega), show (v * 128 + c.toNat % 128) % 128 + 128 = c.toNat by omega, show (v * 128 + c.toNat % 128) / 128 = v by omega, h2]
          simp
        · -- below 2 ^ 64, for v * 2 ^ (7 (k + 1)) is a multiple of 2 ^ (7 (k + 1)), which divides 2 ^ 64 or k + 1 is 9 or less
          rw [hd]
          have hkk : 7 * (k + 1) ≤ 63 := by omega
          obtain ⟨j, hj⟩ : ∃ j, 64 = 7 * (k + 1) + j := ⟨64 - 7 * (k + 1), by omega⟩
          have e2 : (18446744073709551616 : Nat) = 2 ^ j * 2 ^ (7 * (k + 1)) := by rw [← Nat.pow_add, Nat.add_comm, ← hj]
          have h5 : v < 2 ^ j := by
            rw [e2] at h3
            exact Nat.lt_of_mul_lt_mul_right h3
          have h6 : (v + 1) * 2 ^ (7 * (k + 1)) ≤ 2 ^ j * 2 ^ (7 * (k + 1)) := Nat.mul_le_mul_right _ h5
          rw [← e2, Nat.add_mul, Nat.one_mul] at h6
          have h7 : c.toNat % 128 * 2 ^ (7 * k) < 2 ^ (7 * (k + 1)) := by
            rw [e]
            exact Nat.mul_lt_mul_of_pos_right (by omega) (Nat.two_pow_pos _)
          omega
theorem Rd.num_was {s : Rd} (h : s.num.2.e = 0) : s.e = 0 ∧ s.l = numB s.num.1 ++ s.num.2.l ∧ I64 s.num.1 := by
  obtain ⟨l, e⟩ := s
  by_cases h0 : e = 0
  · subst h0
    unfold Rd.num at h ⊢
    dsimp only at h ⊢
    rw [if_neg (by simp)] at h ⊢
    dsimp only at h ⊢
    rw [if_pos h]
    obtain ⟨v, h1, h2, h3, _⟩ := getU_was l 0 0 (getU 0 0 l).1 (getU 0 0 l).2.1 (by omega) (Prod.ext rfl (Prod.ext rfl h))
    rw [h1]
    have e0 : 0 + v * 2 ^ (7 * 0) = v := by simp
    rw [e0]
    simp only [Nat.mul_zero, Nat.pow_zero, Nat.mul_one] at h3
    refine ⟨rfl, ?_, unzz_in h3⟩
    unfold numB
    rw [zz_unzz]
    exact h2
  · unfold Rd.num at h
    rw [if_pos h0] at h
    exact absurd h h0
theorem Rd.fix_was : ∀ (k : Nat) (s : Rd), (Rd.fix k s).2.e = 0 → s.e = 0 ∧ s.l = numsB (Rd.fix k s).1 ++ (Rd.fix k s).2.l ∧ (∀ n ∈ (Rd.fix k s).1, I64 n) ∧ (Rd.fix k s).1.length = k
  | 0, s, h => ⟨h, rfl, by simp [Rd.fix], rfl⟩
  | k + 1, s, h => by
    rw [Rd.fix] at h ⊢
    dsimp only at h ⊢
    obtain ⟨h1, h2, h3, h4⟩ := Rd.fix_was k s.num.2 h
    obtain ⟨g1, g2, g3⟩ := Rd.num_was h1
    refine ⟨g1, ?_, fun n hn => ?_, by rw [List.length_cons, h4]⟩
    · rw [numsB_cons, List.append_assoc, ← h2]; exact g2
    · rcases List.mem_cons.1 hn with rfl | hn
      · exact g3
      · exact h3 n hn
theorem Rd.numsP_was : ∀ (k : Nat) (s : Rd), (Rd.numsP k s).2.e = 0 → s.e = 0 ∧ s.l = numsB (Rd.numsP k s).1 ++ (Rd.numsP k s).2.l ∧ (∀ n ∈ (Rd.numsP k s).1, I64 n) ∧ (Rd.numsP k s).1.length = k
  | 0, s, h => ⟨h, rfl, by simp [Rd.numsP], rfl⟩
  | k + 1, s, h => by
    by_cases h0 : s.e ≠ 0
    · rw [Rd.numsP, if_pos h0] at h
      exact absurd h h0
    rw [Rd.numsP, if_neg h0] at h ⊢
    dsimp only at h ⊢
    obtain ⟨h1, h2, h3, h4⟩ := Rd.numsP_was k s.num.2 h
    obtain ⟨g1, g2, g3⟩ := Rd.num_was h1
    refine ⟨g1, ?_, fun n hn => ?_, by rw [List.length_cons, h4]⟩
    · rw [numsB_cons, List.append_assoc, ← h2]; exact g2
    · rcases List.mem_cons.1 hn with rfl | hn
      · exact g3
      · exact h3 n hn
theorem Rd.ptsP_was : ∀ (k : Nat) (s : Rd), (Rd.ptsP k s).2.e = 0 → s.e = 0 ∧ s.l = ptsB (Rd.ptsP k s).1 ++ (Rd.ptsP k s).2.l ∧ (∀ p ∈ (Rd.ptsP k s).1, I64 p.x ∧ I64 p.y) ∧ (Rd.ptsP k s).1.length = k
  | 0, s, h => ⟨h, rfl, by simp [Rd.ptsP], rfl⟩
  | k + 1, s, h => by
    by_cases h0 : s.e ≠ 0
    · rw [Rd.ptsP, if_pos h0] at h
      exact absurd h h0
    rw [Rd.ptsP, if_neg h0] at h ⊢
    dsimp only at h ⊢
    obtain ⟨h1, h2, h3, h4⟩ := Rd.ptsP_was k s.num.2.num.2 h
    obtain ⟨f1, f2, f3⟩ := Rd.num_was h1
    obtain ⟨g1, g2, g3⟩ := Rd.num_was f1
    refine ⟨g1, ?_, fun n hn => ?_, by rw [List.length_cons, h4]⟩
    · show s.l = ((numB s.num.1 ++ numB s.num.2.num.1) ++ ptsB _) ++ _
      rw [List.append_assoc, List.append_assoc, ← h2, ← f2]
      exact g2
    · rcases List.mem_cons.1 hn with rfl | hn
      · exact ⟨g3, f3⟩
      · exact h3 n hn
theorem Rd.size_was {s : Rd} (h : s.size.2.e = 0) : s.e = 0 ∧ s.l = numB (s.size.1 : Int) ++ s.size.2.l ∧ s.size.1 ≤ s.size.2.l.length := by
  unfold Rd.size at h ⊢
  by_cases h1 : s.num.2.e ≠ 0
  · rw [if_pos h1] at h; exact absurd h h1
  rw [if_neg h1] at h ⊢
  by_cases h2 : s.num.1 < 0
  · rw [if_pos h2] at h; simp at h
  rw [if_neg h2] at h ⊢
  by_cases h3 : (s.num.2.l.length : Int) < s.num.1
  · rw [if_pos h3] at h; simp at h
  rw [if_neg h3] at h ⊢
  dsimp only at h ⊢
  obtain ⟨g1, g2, _⟩ := Rd.num_was h
  exact ⟨g1, by rw [show ((s.num.1.toNat : Nat) : Int) = s.num.1 by omega]; exact g2, by omega⟩
theorem Rd.nums_was {s : Rd} (h : s.nums.2.e = 0) : s.e = 0 ∧ s.l = lstB s.nums.1 ++ s.nums.2.l ∧ (∀ n ∈ s.nums.1, I64 n) ∧ s.nums.1.length ≤ s.l.length := by
  unfold Rd.nums at h ⊢
  obtain ⟨h1, h2, h3, h4⟩ := Rd.numsP_was _ _ h
  obtain ⟨g1, g2, g3⟩ := Rd.size_was h1
  refine ⟨g1, ?_, h3, ?_⟩
  · unfold lstB
    rw [h4, List.append_assoc, ← h2]
    exact g2
  · rw [h4, g2, List.length_append]; omega
attribute [irreducible] Rd.fix Rd.nums Rd.size Rd.ptsP Rd.num getU
theorem getR_was {b : List UInt8} (h : (getR b).2.e = 0) (hb : b.length ≤ 1000000) : b = (getR b).1.put ++ (getR b).2.l ∧ (getR b).1.wf := by
  unfold getR at h ⊢
  dsimp only at h ⊢
  obtain ⟨a1, a2, a3, a4⟩ := Rd.nums_was h
  obtain ⟨b1, b2, b3, b4⟩ := Rd.fix_was _ _ a1
  obtain ⟨c1, c2, c3, c4⟩ := Rd.ptsP_was _ _ b1
  obtain ⟨d1, d2, d3⟩ := Rd.size_was c1
  obtain ⟨e1, e2, e3, e4⟩ := Rd.nums_was d1
  obtain ⟨f1, f2, f3, f4⟩ := Rd.fix_was _ _ e1
  have l1 := congrArg List.length f2
  have l2 := congrArg List.length e2
  have l3 := congrArg List.length d2
  have l4 := congrArg List.length c2
  have l5 := congrArg List.length b2
  rw [List.length_append] at l1 l2 l3 l4 l5
  dsimp only at l1
  refine ⟨?_, f3, e3, c3, b3, a3, f4, b4, ?_, ?_, ?_⟩
  · unfold Ed.put
    dsimp only
    rw [c4]
    simp only [List.append_assoc]
    rw [← a2, ← b2, ← c2, ← d2, ← e2]
    exact f2
  all_goals dsimp only; omega
theorem getE_was {b : List UInt8} (h : (getE b).2 = 0) (hb : b.length ≤ 1000000) : b = (getE b).1.put ∧ (getE b).1.wf := by
  unfold getE at h ⊢
  by_cases h0 : (getR b).2.endE = 0
  · rw [if_pos h0]
    unfold Rd.endE at h0
    by_cases h1 : (getR b).2.e = 0 ∧ (getR b).2.l ≠ []
    · rw [if_pos h1] at h0; simp at h0
    · rw [if_neg h1] at h0
      have h2 : (getR b).2.l = [] := Classical.byContradiction fun h => h1 ⟨h0, h⟩
      obtain ⟨g1, g2⟩ := getR_was h0 hb
      rw [h2, List.append_nil] at g1
      exact ⟨g1, g2⟩
  · rw [if_neg h0] at h
    exact absurd h h0
end Go.Proofs.Ytoobhebbgbhahaa
namespace Go.Proofs.Ytoobhebbgbhahaa
def Rd.ap (s : Rd) (x : List UInt8) : Rd := ⟨s.l ++ x, s.e⟩
def Ok3 (e : Nat) : Prop := e = 0 ∨ e = 20 ∨ e = 25
theorem getU_ok3 : ∀ (l : List UInt8) (k u : Nat), Ok3 (getU k u l).2.2
  | [], k, u => by rw [getU]; exact .inr (.inl rfl)
  | c :: l, k, u => by
    rw [getU]
    split
    · exact .inr (.inr rfl)
    · split
      · exact .inl rfl
      · exact getU_ok3 l _ _
theorem getU_ext (x : List UInt8) : ∀ (l : List UInt8) (k u : Nat), (getU k u l).2.2 ≠ 20 → getU k u (l ++ x) = ((getU k u l).1, (getU k u l).2.1 ++ x, (getU k u l).2.2)
  | [], k, u, h => by rw [getU] at h; exact absurd rfl h
  | c :: l, k, u, h => by
    rw [getU] at h
    rw [List.cons_append, getU, getU]
    split
    · rfl
    · rename_i h1
      rw [if_neg h1] at h
      split
      · rfl
      · rename_i h2
        rw [if_neg h2] at h
        exact getU_ext x l _ _ h
theorem Rd.num_ok3 {s : Rd} (h : Ok3 s.e) : Ok3 s.num.2.e := by
  rw [Rd.num]
  split
  · exact h
  · exact getU_ok3 _ _ _
theorem Rd.num_ext {s : Rd} (x : List UInt8) (h : s.num.2.e ≠ 20) : s.e ≠ 20 ∧ (s.ap x).num = (s.num.1, s.num.2.ap x) := by
  by_cases h0 : s.e ≠ 0
  · rw [Rd.num, if_pos h0] at h
    rw [Rd.num, Rd.num, if_pos h0, if_pos (show (s.ap x).e ≠ 0 from h0)]
    exact ⟨h, rfl⟩
  · rw [Rd.num, if_neg h0] at h
    dsimp only at h
    rw [Rd.num, Rd.num, if_neg h0, if_neg (show ¬ (s.ap x).e ≠ 0 from h0)]
    refine ⟨by omega, ?_⟩
    have := getU_ext x s.l 0 0 h
    show (if (getU 0 0 (s.l ++ x)).2.2 = 0 then unzz (getU 0 0 (s.l ++ x)).1 else 0, (⟨(getU 0 0 (s.l ++ x)).2.1, (getU 0 0 (s.l ++ x)).2.2⟩ : Rd)) = _
    rw [this]
    rfl
theorem Rd.size_ok3 {s : Rd} (h : Ok3 s.e) : Ok3 s.size.2.e := by
  rw [Rd.size]
  split
  · exact Rd.num_ok3 h
  · split
    · exact .inr (.inr rfl)
    · split
      · exact .inr (.inl rfl)
      · exact Rd.num_ok3 h
theorem Rd.size_ext {s : Rd} (x : List UInt8) (h : s.size.2.e ≠ 20) : s.e ≠ 20 ∧ (s.ap x).size = (s.size.1, s.size.2.ap x) := by
  rw [Rd.size] at h
  rw [Rd.size, Rd.size]
  by_cases h1 : s.num.2.e ≠ 0
  · rw [if_pos h1] at h
    obtain ⟨g1, g2⟩ := Rd.num_ext x h
    rw [g2]
    dsimp only
    rw [if_pos (show (s.num.2.ap x).e ≠ 0 from h1), if_pos h1]
    exact ⟨g1, rfl⟩
  · obtain ⟨g1, g2⟩ := Rd.num_ext (s := s) x (by omega)
    rw [g2]
    rw [if_neg h1] at h
    dsimp only
    rw [if_neg (show ¬ (s.num.2.ap x).e ≠ 0 from h1), if_neg h1]
    by_cases h2 : s.num.1 < 0
    · rw [if_pos h2, if_pos h2]
      exact ⟨g1, rfl⟩
    · rw [if_neg h2] at h
      rw [if_neg h2, if_neg h2]
      by_cases h3 : (s.num.2.l.length : Int) < s.num.1
      · rw [if_pos h3] at h
        exact absurd rfl h
      · rw [if_neg h3, if_neg (by show ¬ (((s.num.2.l ++ x).length : Nat) : Int) < _; rw [List.length_append]; omega)]
        exact ⟨g1, rfl⟩
theorem Rd.fix_ok3 : ∀ (k : Nat) {s : Rd}, Ok3 s.e → Ok3 (Rd.fix k s).2.e
  | 0, s, h => by rw [Rd.fix]; exact h
  | k + 1, s, h => by rw [Rd.fix]; exact Rd.fix_ok3 k (Rd.num_ok3 h)
theorem Rd.fix_ext (x : List UInt8) : ∀ (k : Nat) (s : Rd), (Rd.fix k s).2.e ≠ 20 → s.e ≠ 20 ∧ Rd.fix k (s.ap x) = ((Rd.fix k s).1, (Rd.fix k s).2.ap x)
  | 0, s, h => by
    rw [Rd.fix] at h
    rw [Rd.fix, Rd.fix]
    exact ⟨h, rfl⟩
  | k + 1, s, h => by
    rw [Rd.fix] at h
    obtain ⟨h1, h2⟩ := Rd.fix_ext x k s.num.2 h
    obtain ⟨g1, g2⟩ := Rd.num_ext x h1
    rw [Rd.fix, Rd.fix, g2]
    dsimp only
    rw [h2]
    exact ⟨g1, rfl⟩
theorem Rd.numsP_ok3 : ∀ (k : Nat) {s : Rd}, Ok3 s.e → Ok3 (Rd.numsP k s).2.e
  | 0, s, h => by rw [Rd.numsP]; exact h
  | k + 1, s, h => by
    rw [Rd.numsP]
    split
    · exact h
    · exact Rd.numsP_ok3 k (Rd.num_ok3 h)
theorem Rd.numsP_ext (x : List UInt8) : ∀ (k : Nat) (s : Rd), (Rd.numsP k s).2.e ≠ 20 → s.e ≠ 20 ∧ Rd.numsP k (s.ap x) = ((Rd.numsP k s).1, (Rd.numsP k s).2.ap x)
  | 0, s, h => by
    rw [Rd.numsP] at h
    rw [Rd.numsP, Rd.numsP]
    exact ⟨h, rfl⟩
  | k + 1, s, h => by
    rw [Rd.numsP] at h
    rw [Rd.numsP, Rd.numsP]
    by_cases h0 : s.e ≠ 0
    · rw [if_pos h0] at h
      rw [if_pos h0, if_pos (show (s.ap x).e ≠ 0 from h0)]
      exact ⟨h, rfl⟩
    rw [if_neg h0] at h
    obtain ⟨h1, h2⟩ := Rd.numsP_ext x k s.num.2 h
    obtain ⟨g1, g2⟩ := Rd.num_ext x h1
    rw [if_neg h0, if_neg (show ¬ (s.ap x).e ≠ 0 from h0), g2]
    dsimp only
    rw [h2]
    exact ⟨g1, rfl⟩
theorem Rd.ptsP_ok3 : ∀ (k : Nat) {s : Rd}, Ok3 s.e → Ok3 (Rd.ptsP k s).2.e
  | 0, s, h => by rw [Rd.ptsP]; exact h
  | k + 1, s, h => by
    rw [Rd.ptsP]
    split
    · exact h
    · exact Rd.ptsP_ok3 k (Rd.num_ok3 (Rd.num_ok3 h))
theorem Rd.ptsP_ext (x : List UInt8) : ∀ (k : Nat) (s : Rd), (Rd.ptsP k s).2.e ≠ 20 → s.e ≠ 20 ∧ Rd.ptsP k (s.ap x) = ((Rd.ptsP k s).1, (Rd.ptsP k s).2.ap x)
  | 0, s, h => by
    rw [Rd.ptsP] at h
    rw [Rd.ptsP, Rd.ptsP]
    exact ⟨h, rfl⟩
  | k + 1, s, h => by
    rw [Rd.ptsP] at h
    rw [Rd.ptsP, Rd.ptsP]
    by_cases h0 : s.e ≠ 0
    · rw [if_pos h0] at h
      rw [if_pos h0, if_pos (show (s.ap x).e ≠ 0 from h0)]
      exact ⟨h, rfl⟩
    rw [if_neg h0] at h
    obtain ⟨h1, h2⟩ := Rd.ptsP_ext x k s.num.2.num.2 h
    obtain ⟨f1, f2⟩ := Rd.num_ext x h1
    obtain ⟨g1, g2⟩ := Rd.num_ext x f1
    rw [if_neg h0, if_neg (show ¬ (s.ap x).e ≠ 0 from h0), g2]
    dsimp only
    rw [f2]
    dsimp only
    rw [h2]
    exact ⟨g1, rfl⟩
theorem Rd.nums_ok3 {s : Rd} (h : Ok3 s.e) : Ok3 s.nums.2.e := by
  rw [Rd.nums]
  exact Rd.numsP_ok3 _ (Rd.size_ok3 h)
theorem Rd.nums_ext {s : Rd} (x : List UInt8) (h : s.nums.2.e ≠ 20) : s.e ≠ 20 ∧ (s.ap x).nums = (s.nums.1, s.nums.2.ap x) := by
  rw [Rd.nums] at h
  obtain ⟨h1, h2⟩ := Rd.numsP_ext x _ _ h
  obtain ⟨g1, g2⟩ := Rd.size_ext x h1
  rw [Rd.nums, Rd.nums, g2]
  exact ⟨g1, h2⟩
theorem getR_ok3 (b : List UInt8) : Ok3 (getR b).2.e := by
  unfold getR
  dsimp only
  exact Rd.nums_ok3 (Rd.fix_ok3 _ (Rd.ptsP_ok3 _ (Rd.size_ok3 (Rd.nums_ok3 (Rd.fix_ok3 _ (.inl rfl))))))
theorem getR_ext {b : List UInt8} (x : List UInt8) (h : (getR b).2.e ≠ 20) : getR (b ++ x) = ((getR b).1, (getR b).2.ap x) := by
  unfold getR at h ⊢
  dsimp only at h ⊢
  obtain ⟨a1, a2⟩ := Rd.nums_ext x h
  obtain ⟨b1, b2⟩ := Rd.fix_ext x _ _ a1
  obtain ⟨c1, c2⟩ := Rd.ptsP_ext x _ _ b1
  obtain ⟨d1, d2⟩ := Rd.size_ext x c1
  obtain ⟨e1, e2⟩ := Rd.nums_ext x d1
  obtain ⟨f1, f2⟩ := Rd.fix_ext x _ _ e1
  have f2' : Rd.fix 10 ⟨b ++ x, 0⟩ = ((Rd.fix 10 ⟨b, 0⟩).1, (Rd.fix 10 ⟨b, 0⟩).2.ap x) := f2
  rw [f2']
  dsimp only
  rw [e2]
  dsimp only
  rw [d2]
  dsimp only
  rw [c2]
  dsimp only
  rw [b2]
  dsimp only
  rw [a2]
theorem endE_20 {t : Rd} (h : t.e = 20) : t.endE = 20 := by
  unfold Rd.endE
  rw [if_neg (by rw [h]; simp), h]
theorem endE_25 {t : Rd} {x : List UInt8} (hx : x ≠ []) (h : Ok3 t.e) (h2 : t.e ≠ 20) : (t.ap x).endE = 25 := by
  unfold Rd.endE Rd.ap
  dsimp only
  rcases h with h0 | h0 | h0
  · rw [if_pos ⟨h0, by simp [hx]⟩]
  · exact absurd h0 h2
  · rw [if_neg (by rw [h0]; simp), h0]
def outE (r : Ed × Rd) : Ed × Nat := if r.2.endE = 0 then (r.1, 0) else (Ed.zero, r.2.endE)
theorem getE_out (b : List UInt8) : getE b = outE (getR b) := rfl
theorem outE_of {r : Ed × Rd} (h : r.2.endE ≠ 0) : (outE r).2 = r.2.endE := by unfold outE; rw [if_neg h]
theorem getE_ext {b x : List UInt8} (hx : x ≠ []) (h : (getE b).2 ≠ 20) : (getE (b ++ x)).2 = 25 := by
  rw [getE_out] at h ⊢
  have hok := getR_ok3 b
  have hext := getR_ext (b := b) x
  generalize getR b = r at h hok hext
  have key : r.2.e ≠ 20 := fun h20 => h (by rw [outE_of (by rw [endE_20 h20]; decide), endE_20 h20])
  rw [hext key, outE_of (by show (r.2.ap x).endE ≠ 0; rw [endE_25 hx hok key]; decide)]
  exact endE_25 hx hok key
theorem getE_cut {e : Ed} (h : e.wf) {k : Nat} (hk : k < e.put.length) : (getE (e.put.take k)).2 = 20 := by
  refine Classical.byContradiction fun hn => ?_
  have := getE_ext (x := e.put.drop k) (by
    intro h0
    have := congrArg List.length h0
    rw [List.length_drop, List.length_nil] at this
    omega) hn
  rw [List.take_append_drop, getE_put h] at this
  simp at this
theorem getE_more {e : Ed} (h : e.wf) {x : List UInt8} (hx : x ≠ []) : (getE (e.put ++ x)).2 = 25 :=
  getE_ext hx (by rw [getE_put h]; exact (by decide : (0 : Nat) ≠ 20))
theorem length_putU_le : ∀ (k u : Nat), u < 128 ^ (k + 1) → (putU u).length ≤ k + 1
  | 0, u, h => by rw [putU_lt (by simpa using h)]; simp
  | k + 1, u, h => by
    by_cases h0 : u < 128
    · rw [putU_lt h0]; simp
    · rw [putU_ge h0, List.length_cons]
      have := length_putU_le k (u / 128) (by rw [Nat.div_lt_iff_lt_mul (by decide)]; rw [Nat.pow_succ] at h; exact h)
      omega
theorem length_numB_le {n : Int} (h : I64 n) : (numB n).length ≤ 10 :=
  length_putU_le 9 _ (Nat.lt_trans (zz_lt h) (by decide))
end Go.Proofs.Ytoobhebbgbhahaa
namespace Go.Proofs.Ytoobhebbgbhahaa
open Go.RowKit
theorem bits_u64x (a b : BitVec 64) : bits .xor .u64 (a.toNat : Int) (b.toNat : Int) = ((a ^^^ b).toNat : Int) := by
  rw [show bits .xor .u64 (a.toNat : Int) (b.toNat : Int) = IntKind.u64.wrap ((BitVec.ofInt 64 (a.toNat : Int) ^^^ BitVec.ofInt 64 (b.toNat : Int)).toNat : Int) from rfl, BitVec.ofInt_natCast, BitVec.ofInt_natCast, BitVec.ofNat_toNat, BitVec.ofNat_toNat]
  simp only [BitVec.setWidth_eq]
  exact IntWalk.u64_in _ (by have := (a ^^^ b).isLt; omega)
theorem bits_u64o (a b : BitVec 64) : bits .or .u64 (a.toNat : Int) (b.toNat : Int) = ((a ||| b).toNat : Int) := by
  rw [show bits .or .u64 (a.toNat : Int) (b.toNat : Int) = IntKind.u64.wrap ((BitVec.ofInt 64 (a.toNat : Int) ||| BitVec.ofInt 64 (b.toNat : Int)).toNat : Int) from rfl, BitVec.ofInt_natCast, BitVec.ofInt_natCast, BitVec.ofNat_toNat, BitVec.ofNat_toNat]
  simp only [BitVec.setWidth_eq]
  exact IntWalk.u64_in _ (by have := (a ||| b).isLt; omega)
theorem bits_u64a (a b : BitVec 64) : bits .and .u64 (a.toNat : Int) (b.toNat : Int) = ((a &&& b).toNat : Int) := by
  rw [show bits .and .u64 (a.toNat : Int) (b.toNat : Int) = IntKind.u64.wrap ((BitVec.ofInt 64 (a.toNat : Int) &&& BitVec.ofInt 64 (b.toNat : Int)).toNat : Int) from rfl, BitVec.ofInt_natCast, BitVec.ofInt_natCast, BitVec.ofNat_toNat, BitVec.ofNat_toNat]
  simp only [BitVec.setWidth_eq]
  exact IntWalk.u64_in _ (by have := (a &&& b).isLt; omega)
theorem toNat64 {a : Nat} (h : a < 18446744073709551616) : ((BitVec.ofNat 64 a).toNat : Int) = (a : Int) := by
  rw [BitVec.toNat_ofNat, Nat.mod_eq_of_lt (by simpa using h)]
theorem xor64u (a b : Nat) (ha : a < 18446744073709551616) (hb : b < 18446744073709551616) : bits .xor .u64 (a : Int) (b : Int) = ((a ^^^ b : Nat) : Int) := by
  rw [← toNat64 ha, ← toNat64 hb, bits_u64x, BitVec.toNat_xor]
  rw [BitVec.toNat_ofNat, BitVec.toNat_ofNat, Nat.mod_eq_of_lt (by simpa using ha), Nat.mod_eq_of_lt (by simpa using hb)]
theorem or64u (a b : Nat) (ha : a < 18446744073709551616) (hb : b < 18446744073709551616) : bits .or .u64 (a : Int) (b : Int) = ((a ||| b : Nat) : Int) := by
  rw [← toNat64 ha, ← toNat64 hb, bits_u64o, BitVec.toNat_or]
  rw [BitVec.toNat_ofNat, BitVec.toNat_ofNat, Nat.mod_eq_of_lt (by simpa using ha), Nat.mod_eq_of_lt (by simpa using hb)]
theorem and64u (a b : Nat) (ha : a < 18446744073709551616) (hb : b < 18446744073709551616) : bits .and .u64 (a : Int) (b : Int) = ((a &&& b : Nat) : Int) := by
  rw [← toNat64 ha, ← toNat64 hb, bits_u64a, BitVec.toNat_and]
  rw [BitVec.toNat_ofNat, BitVec.toNat_ofNat, Nat.mod_eq_of_lt (by simpa using ha), Nat.mod_eq_of_lt (by simpa using hb)]
theorem xor_ones (a : Nat) (ha : a < 18446744073709551616) : a ^^^ 18446744073709551615 = 18446744073709551615 - a := by
  have h := BitVec.toNat_xor (BitVec.ofNat 64 a) (BitVec.allOnes 64)
  rw [BitVec.xor_allOnes, BitVec.toNat_not, BitVec.toNat_allOnes, BitVec.toNat_ofNat, Nat.mod_eq_of_lt (by simpa using ha)] at h
  simp only [Nat.reducePow, Nat.reduceSub] at h
  exact h.symm
/-- The number as it is written. -/
theorem zz_u64 {n : Int} (h : I64 n) : bits .xor .u64 (IntKind.u64.wrap (IntKind.u64.wrap n * 2 ^ 1)) (IntKind.u64.wrap (n / 2 ^ 63)) = (zz n : Int) := by
  obtain ⟨h1, h2⟩ := h
  by_cases h0 : 0 ≤ n
  · obtain ⟨k, rfl⟩ := Int.eq_ofNat_of_zero_le h0
    rw [IntWalk.u64_in (k : Int) (by omega), IntWalk.u64_in ((k : Int) * 2 ^ 1) (by omega), show (k : Int) / 2 ^ 63 = 0 by omega, show IntKind.u64.wrap 0 = ((0 : Nat) : Int) from rfl, show (k : Int) * 2 ^ 1 = ((2 * k : Nat) : Int) by omega, xor64u _ _ (by omega) (by omega), Nat.xor_zero]
    unfold zz
    rw [if_pos h0]
    omega
  · obtain ⟨k, rfl⟩ : ∃ k : Nat, n = -1 - (k : Int) := ⟨(-1 - n).toNat, by omega⟩
    have e1 : IntKind.u64.wrap (-1 - (k : Int)) = ((18446744073709551615 - k : Nat) : Int) := by
      rw [show IntKind.u64.wrap (-1 - (k : Int)) = (-1 - (k : Int)) % 18446744073709551616 from rfl]
      omega
    have e2 : IntKind.u64.wrap (((18446744073709551615 - k : Nat) : Int) * 2 ^ 1) = ((18446744073709551614 - 2 * k : Nat) : Int) := by
      rw [show IntKind.u64.wrap (((18446744073709551615 - k : Nat) : Int) * 2 ^ 1) = (((18446744073709551615 - k : Nat) : Int) * 2 ^ 1) % 18446744073709551616 from rfl]
      omega
    rw [e1, e2, show (-1 - (k : Int)) / 2 ^ 63 = -1 by omega, show IntKind.u64.wrap (-1) = ((18446744073709551615 : Nat) : Int) from rfl, xor64u _ _ (by omega) (by omega), xor_ones _ (by omega)]
    unfold zz
    rw [if_neg h0]
    omega
theorem byteOr (u : Nat) : bits .or .u8 (IntKind.u8.wrap (u : Int)) 128 = ((UInt8.ofNat (u % 128 + 128)).toNat : Int) := by
  have h : ∀ x : Fin 256, bits .or .u8 (x.val : Int) 128 = ((x.val % 128 + 128 : Nat) : Int) := by decide +kernel
  rw [show IntKind.u8.wrap (u : Int) = ((u % 256 : Nat) : Int) by rw [show IntKind.u8.wrap (u : Int) = (u : Int) % 256 from rfl]; omega]
  rw [h ⟨u % 256, Nat.mod_lt _ (by decide)⟩, byte_ofNat (by omega)]
  dsimp only
  omega
theorem byte_lt {u : Nat} (h : u < 128) : IntKind.u8.wrap (u : Int) = ((UInt8.ofNat u).toNat : Int) := by
  rw [byte_ofNat (by omega), show IntKind.u8.wrap (u : Int) = (u : Int) % 256 from rfl]
  omega
theorem and127 (x : UInt8) : bits .and .u8 (x.toNat : Int) 127 = ((x.toNat % 128 : Nat) : Int) := by
  have h : ∀ x : Fin 256, bits .and .u8 (x.val : Int) 127 = ((x.val % 128 : Nat) : Int) := by decide +kernel
  exact h ⟨x.toNat, x.toNat_lt⟩
/-- One portion of seven bits more. -/
theorem or_part {u c k : Nat} (hu : u < 2 ^ (7 * k)) (hc : c < 128) (hk : k ≤ 9) (h9 : k = 9 → c ≤ 1) : bits .or .u64 (u : Int) (IntKind.u64.wrap ((c : Int) * 2 ^ (7 * k))) = ((u + c * 2 ^ (7 * k) : Nat) : Int) := by
  have hp : 2 ^ (7 * k) ≤ 2 ^ 63 := Nat.pow_le_pow_right (by decide) (by omega)
  have hcm : c * 2 ^ (7 * k) < 18446744073709551616 := by
    rcases Nat.lt_or_ge k 9 with h | h
    · have : 2 ^ (7 * k) ≤ 2 ^ 56 := Nat.pow_le_pow_right (by decide) (by omega)
      have := Nat.mul_le_mul (show c ≤ 127 by omega) this
      simp only [Nat.reducePow] at this
      omega
    · obtain rfl : k = 9 := by omega
      have := h9 rfl
      simp only [Nat.reduceMul, Nat.reducePow]
      omega
  have e : (c : Int) * 2 ^ (7 * k) = ((c * 2 ^ (7 * k) : Nat) : Int) := by simp
  simp only [Nat.reducePow] at hp
  rw [e, IntWalk.u64_in _ (by omega), or64u _ _ (by omega) hcm]
  congr 1
  rw [Nat.or_comm, Nat.mul_comm, ← Nat.two_pow_add_eq_or_of_lt hu, Nat.add_comm]
theorem unzz_i64 {u : Nat} (h : u < 18446744073709551616) : bits .xor .i64 ((u : Int) / 2 ^ 1) (-(bits .and .u64 (u : Int) 1)) = unzz u := by
  rw [show (1 : Int) = ((1 : Nat) : Int) from rfl, and64u u 1 h (by decide), Nat.and_one_is_mod]
  have hd : (u : Int) / 2 ^ 1 = ((u / 2 : Nat) : Int) := by omega
  rw [hd]
  unfold unzz
  rcases Nat.mod_two_eq_zero_or_one u with h2 | h2
  · rw [h2, if_pos rfl, show -(((0 : Nat) : Int)) = ((0 : Nat) : Int) from rfl, xor64 _ _ (by omega) (by decide), Nat.xor_zero]
  · rw [h2, if_neg (by decide)]
    rw [show bits .xor .i64 ((u / 2 : Nat) : Int) (-((1 : Nat) : Int)) = IntKind.i64.wrap ((BitVec.ofInt 64 ((u / 2 : Nat) : Int) ^^^ BitVec.ofInt 64 (-((1 : Nat) : Int))).toNat : Int) from rfl, show BitVec.ofInt 64 (-((1 : Nat) : Int)) = BitVec.allOnes 64 from by decide, BitVec.ofInt_natCast, BitVec.xor_allOnes, BitVec.toNat_not, BitVec.toNat_ofNat, Nat.mod_eq_of_lt (by simp only [Nat.reducePow]; omega)]
    simp only [Nat.reducePow]
    rw [show ((18446744073709551616 - 1 - u / 2 : Nat) : Int) = (-1 - ((u / 2 : Nat) : Int)) + 18446744073709551616 by omega]
    rw [IntKind.wrap_i64]
    omega
end Go.Proofs.Ytoobhebbgbhahaa
namespace Go.Proofs.Ytoobhebbgbhahaa
open Go.RowKit
instance : TOne Try.prog 2 := ⟨by kernel_rfl⟩
instance : TSz Try.prog 2 1 := ⟨by kernel_rfl⟩
instance : TByt Try.prog 2 8 := ⟨by kernel_rfl⟩
instance : TZero Try.prog 2 (Value.int IntKind.i64 0) := ⟨by kernel_rfl⟩
instance : TInt Try.prog 2 IntKind.i64 := ⟨by kernel_rfl⟩
instance : TOne Try.prog 3 := ⟨by kernel_rfl⟩
instance : TSz Try.prog 3 1 := ⟨by kernel_rfl⟩
instance : TByt Try.prog 3 8 := ⟨by kernel_rfl⟩
instance : TZero Try.prog 3 (Value.int IntKind.i64 0) := ⟨by kernel_rfl⟩
instance : TInt Try.prog 3 IntKind.i64 := ⟨by kernel_rfl⟩
instance : TOne Try.prog 4 := ⟨by kernel_rfl⟩
instance : TSz Try.prog 4 1 := ⟨by kernel_rfl⟩
instance : TByt Try.prog 4 1 := ⟨by kernel_rfl⟩
instance : TZero Try.prog 4 (Value.bool false) := ⟨by kernel_rfl⟩
instance : TBool Try.prog 4 := ⟨by kernel_rfl⟩
instance : TOne Try.prog 5 := ⟨by kernel_rfl⟩
instance : TSz Try.prog 5 1 := ⟨by kernel_rfl⟩
instance : TByt Try.prog 5 1 := ⟨by kernel_rfl⟩
instance : TZero Try.prog 5 (Value.int IntKind.u8 0) := ⟨by kernel_rfl⟩
instance : TInt Try.prog 5 IntKind.u8 := ⟨by kernel_rfl⟩
instance : TOne Try.prog 6 := ⟨by kernel_rfl⟩
instance : TSz Try.prog 6 1 := ⟨by kernel_rfl⟩
instance : TByt Try.prog 6 1 := ⟨by kernel_rfl⟩
instance : TZero Try.prog 6 (Value.int IntKind.u8 0) := ⟨by kernel_rfl⟩
instance : TInt Try.prog 6 IntKind.u8 := ⟨by kernel_rfl⟩
instance : TAgg Try.prog 7 := ⟨by kernel_rfl⟩
instance : TSz Try.prog 7 4 := ⟨by kernel_rfl⟩
instance : TByt Try.prog 7 24 := ⟨by kernel_rfl⟩
instance : TZero Try.prog 7 (Value.agg #[(Value.int IntKind.i64 0), (Value.int IntKind.i64 0), (Value.bool false), (Value.int IntKind.u8 0)]) := ⟨by kernel_rfl⟩
instance : TEqG Try.prog 7 := ⟨by kernel_rfl⟩
instance : TStruct Try.prog 7 [(0, 1), (1, 1), (2, 1), (3, 1)] := ⟨by kernel_rfl⟩
instance : TFld Try.prog 7 0 0 := ⟨by kernel_rfl⟩
instance : TFld Try.prog 7 1 1 := ⟨by kernel_rfl⟩
instance : TFld Try.prog 7 2 2 := ⟨by kernel_rfl⟩
instance : TFld Try.prog 7 3 3 := ⟨by kernel_rfl⟩
instance : TAgg Try.prog 8 := ⟨by kernel_rfl⟩
instance : TSz Try.prog 8 4 := ⟨by kernel_rfl⟩
instance : TByt Try.prog 8 24 := ⟨by kernel_rfl⟩
instance : TZero Try.prog 8 (Value.agg #[(Value.int IntKind.i64 0), (Value.int IntKind.i64 0), (Value.bool false), (Value.int IntKind.u8 0)]) := ⟨by kernel_rfl⟩
instance : TEqG Try.prog 8 := ⟨by kernel_rfl⟩
instance : TStruct Try.prog 8 [(0, 1), (1, 1), (2, 1), (3, 1)] := ⟨by kernel_rfl⟩
instance : TFld Try.prog 8 0 0 := ⟨by kernel_rfl⟩
instance : TFld Try.prog 8 1 1 := ⟨by kernel_rfl⟩
instance : TFld Try.prog 8 2 2 := ⟨by kernel_rfl⟩
instance : TFld Try.prog 8 3 3 := ⟨by kernel_rfl⟩
instance : TOne Try.prog 9 := ⟨by kernel_rfl⟩
instance : TSz Try.prog 9 1 := ⟨by kernel_rfl⟩
instance : TByt Try.prog 9 16 := ⟨by kernel_rfl⟩
instance : TZero Try.prog 9 (Value.string {data := #[]}) := ⟨by kernel_rfl⟩
instance : TStr Try.prog 9 := ⟨by kernel_rfl⟩
instance : TOne Try.prog 10 := ⟨by kernel_rfl⟩
instance : TSz Try.prog 10 1 := ⟨by kernel_rfl⟩
instance : TByt Try.prog 10 16 := ⟨by kernel_rfl⟩
instance : TZero Try.prog 10 (Value.string {data := #[]}) := ⟨by kernel_rfl⟩
instance : TStr Try.prog 10 := ⟨by kernel_rfl⟩
instance : TOne Try.prog 11 := ⟨by kernel_rfl⟩
instance : TSz Try.prog 11 1 := ⟨by kernel_rfl⟩
instance : TByt Try.prog 11 16 := ⟨by kernel_rfl⟩
instance : TZero Try.prog 11 (Value.string {data := #[]}) := ⟨by kernel_rfl⟩
instance : TStr Try.prog 11 := ⟨by kernel_rfl⟩
instance : TOne Try.prog 12 := ⟨by kernel_rfl⟩
instance : TSz Try.prog 12 1 := ⟨by kernel_rfl⟩
instance : TByt Try.prog 12 8 := ⟨by kernel_rfl⟩
instance : TZero Try.prog 12 (Value.int IntKind.u64 0) := ⟨by kernel_rfl⟩
instance : TInt Try.prog 12 IntKind.u64 := ⟨by kernel_rfl⟩
instance : TAgg Try.prog 13 := ⟨by kernel_rfl⟩
instance : TSz Try.prog 13 2 := ⟨by kernel_rfl⟩
instance : TByt Try.prog 13 24 := ⟨by kernel_rfl⟩
instance : TZero Try.prog 13 (Value.agg #[(Value.string {data := #[]}), (Value.int IntKind.u64 0)]) := ⟨by kernel_rfl⟩
instance : TEqG Try.prog 13 := ⟨by kernel_rfl⟩
instance : TStruct Try.prog 13 [(0, 1), (1, 1)] := ⟨by kernel_rfl⟩
instance : TFld Try.prog 13 0 0 := ⟨by kernel_rfl⟩
instance : TFld Try.prog 13 1 1 := ⟨by kernel_rfl⟩
instance : TAgg Try.prog 14 := ⟨by kernel_rfl⟩
instance : TSz Try.prog 14 2 := ⟨by kernel_rfl⟩
instance : TByt Try.prog 14 24 := ⟨by kernel_rfl⟩
instance : TZero Try.prog 14 (Value.agg #[(Value.string {data := #[]}), (Value.int IntKind.u64 0)]) := ⟨by kernel_rfl⟩
instance : TEqG Try.prog 14 := ⟨by kernel_rfl⟩
instance : TStruct Try.prog 14 [(0, 1), (1, 1)] := ⟨by kernel_rfl⟩
instance : TFld Try.prog 14 0 0 := ⟨by kernel_rfl⟩
instance : TFld Try.prog 14 1 1 := ⟨by kernel_rfl⟩
instance : TOne Try.prog 15 := ⟨by kernel_rfl⟩
instance : TSz Try.prog 15 1 := ⟨by kernel_rfl⟩
instance : TByt Try.prog 15 8 := ⟨by kernel_rfl⟩
instance : TZero Try.prog 15 (Value.pointer none) := ⟨by kernel_rfl⟩
instance : TPtr Try.prog 15 148 := ⟨by kernel_rfl⟩
instance : TOne Try.prog 16 := ⟨by kernel_rfl⟩
instance : TSz Try.prog 16 1 := ⟨by kernel_rfl⟩
instance : TByt Try.prog 16 8 := ⟨by kernel_rfl⟩
instance : TZero Try.prog 16 (Value.pointer none) := ⟨by kernel_rfl⟩
instance : TPtr Try.prog 16 151 := ⟨by kernel_rfl⟩
instance : TOne Try.prog 17 := ⟨by kernel_rfl⟩
instance : TSz Try.prog 17 1 := ⟨by kernel_rfl⟩
instance : TByt Try.prog 17 8 := ⟨by kernel_rfl⟩
instance : TZero Try.prog 17 (Value.pointer none) := ⟨by kernel_rfl⟩
instance : TPtr Try.prog 17 160 := ⟨by kernel_rfl⟩
instance : TAgg Try.prog 18 := ⟨by kernel_rfl⟩
instance : TSz Try.prog 18 1 := ⟨by kernel_rfl⟩
instance : TByt Try.prog 18 8 := ⟨by kernel_rfl⟩
instance : TZero Try.prog 18 (Value.agg #[(Value.pointer none)]) := ⟨by kernel_rfl⟩
instance : TEqG Try.prog 18 := ⟨by kernel_rfl⟩
instance : TStruct Try.prog 18 [(0, 1)] := ⟨by kernel_rfl⟩
instance : TFld Try.prog 18 0 0 := ⟨by kernel_rfl⟩
instance : TAgg Try.prog 19 := ⟨by kernel_rfl⟩
instance : TSz Try.prog 19 1 := ⟨by kernel_rfl⟩
instance : TByt Try.prog 19 8 := ⟨by kernel_rfl⟩
instance : TZero Try.prog 19 (Value.agg #[(Value.pointer none)]) := ⟨by kernel_rfl⟩
instance : TEqG Try.prog 19 := ⟨by kernel_rfl⟩
instance : TStruct Try.prog 19 [(0, 1)] := ⟨by kernel_rfl⟩
instance : TFld Try.prog 19 0 0 := ⟨by kernel_rfl⟩
instance : TOne Try.prog 21 := ⟨by kernel_rfl⟩
instance : TSz Try.prog 21 1 := ⟨by kernel_rfl⟩
instance : TByt Try.prog 21 4 := ⟨by kernel_rfl⟩
instance : TZero Try.prog 21 (Value.int IntKind.i32 0) := ⟨by kernel_rfl⟩
instance : TInt Try.prog 21 IntKind.i32 := ⟨by kernel_rfl⟩
instance : TOne Try.prog 22 := ⟨by kernel_rfl⟩
instance : TSz Try.prog 22 1 := ⟨by kernel_rfl⟩
instance : TByt Try.prog 22 24 := ⟨by kernel_rfl⟩
instance : TZero Try.prog 22 (Value.slice none 0 0) := ⟨by kernel_rfl⟩
instance : TSlc Try.prog 22 3 := ⟨by kernel_rfl⟩
instance : TOne Try.prog 23 := ⟨by kernel_rfl⟩
instance : TSz Try.prog 23 1 := ⟨by kernel_rfl⟩
instance : TByt Try.prog 23 24 := ⟨by kernel_rfl⟩
instance : TZero Try.prog 23 (Value.slice none 0 0) := ⟨by kernel_rfl⟩
instance : TSlc Try.prog 23 78 := ⟨by kernel_rfl⟩
instance : TAgg Try.prog 24 := ⟨by kernel_rfl⟩
instance : TSz Try.prog 24 6 := ⟨by kernel_rfl⟩
instance : TByt Try.prog 24 48 := ⟨by kernel_rfl⟩
instance : TZero Try.prog 24 (Value.agg #[(Value.int IntKind.i64 0), (Value.int IntKind.i64 0), (Value.int IntKind.i64 0), (Value.int IntKind.i64 0), (Value.int IntKind.i64 0), (Value.int IntKind.i64 0)]) := ⟨by kernel_rfl⟩
instance : TArr Try.prog 24 6 3 := ⟨by kernel_rfl⟩
instance : TEqG Try.prog 24 := ⟨by kernel_rfl⟩
instance : TAgg Try.prog 25 := ⟨by kernel_rfl⟩
instance : TSz Try.prog 25 6 := ⟨by kernel_rfl⟩
instance : TByt Try.prog 25 48 := ⟨by kernel_rfl⟩
instance : TZero Try.prog 25 (Value.agg #[(Value.int IntKind.i64 0), (Value.int IntKind.i64 0), (Value.int IntKind.i64 0), (Value.int IntKind.i64 0), (Value.int IntKind.i64 0), (Value.int IntKind.i64 0)]) := ⟨by kernel_rfl⟩
instance : TArr Try.prog 25 6 3 := ⟨by kernel_rfl⟩
instance : TEqG Try.prog 25 := ⟨by kernel_rfl⟩
instance : TAgg Try.prog 26 := ⟨by kernel_rfl⟩
instance : TSz Try.prog 26 19 := ⟨by kernel_rfl⟩
instance : TByt Try.prog 26 200 := ⟨by kernel_rfl⟩
instance : TZero Try.prog 26 (Value.agg #[(Value.int IntKind.i64 0), (Value.int IntKind.i64 0), (Value.int IntKind.i64 0), (Value.int IntKind.i64 0), (Value.int IntKind.i64 0), (Value.int IntKind.i64 0), (Value.int IntKind.i64 0), (Value.int IntKind.i64 0), (Value.int IntKind.i64 0), (Value.int IntKind.i64 0), (Value.slice none 0 0), (Value.slice none 0 0), (Value.int IntKind.i64 0), (Value.int IntKind.i64 0), (Value.int IntKind.i64 0), (Value.int IntKind.i64 0), (Value.int IntKind.i64 0), (Value.int IntKind.i64 0), (Value.slice none 0 0)]) := ⟨by kernel_rfl⟩
instance : TEqG Try.prog 26 := ⟨by kernel_rfl⟩
instance : TStruct Try.prog 26 [(0, 1), (1, 1), (2, 1), (3, 1), (4, 1), (5, 1), (6, 1), (7, 1), (8, 1), (9, 1), (10, 1), (11, 1), (12, 6), (18, 1)] := ⟨by kernel_rfl⟩
instance : TFld Try.prog 26 0 0 := ⟨by kernel_rfl⟩
instance : TFld Try.prog 26 1 1 := ⟨by kernel_rfl⟩
instance : TFld Try.prog 26 2 2 := ⟨by kernel_rfl⟩
instance : TFld Try.prog 26 3 3 := ⟨by kernel_rfl⟩
instance : TFld Try.prog 26 4 4 := ⟨by kernel_rfl⟩
instance : TFld Try.prog 26 5 5 := ⟨by kernel_rfl⟩
instance : TFld Try.prog 26 6 6 := ⟨by kernel_rfl⟩
instance : TFld Try.prog 26 7 7 := ⟨by kernel_rfl⟩
instance : TFld Try.prog 26 8 8 := ⟨by kernel_rfl⟩
instance : TFld Try.prog 26 9 9 := ⟨by kernel_rfl⟩
instance : TFld Try.prog 26 10 10 := ⟨by kernel_rfl⟩
instance : TFld Try.prog 26 11 11 := ⟨by kernel_rfl⟩
instance : TFld Try.prog 26 12 12 := ⟨by kernel_rfl⟩
instance : TFld Try.prog 26 13 18 := ⟨by kernel_rfl⟩
instance : TAgg Try.prog 27 := ⟨by kernel_rfl⟩
instance : TSz Try.prog 27 19 := ⟨by kernel_rfl⟩
instance : TByt Try.prog 27 200 := ⟨by kernel_rfl⟩
instance : TZero Try.prog 27 (Value.agg #[(Value.int IntKind.i64 0), (Value.int IntKind.i64 0), (Value.int IntKind.i64 0), (Value.int IntKind.i64 0), (Value.int IntKind.i64 0), (Value.int IntKind.i64 0), (Value.int IntKind.i64 0), (Value.int IntKind.i64 0), (Value.int IntKind.i64 0), (Value.int IntKind.i64 0), (Value.slice none 0 0), (Value.slice none 0 0), (Value.int IntKind.i64 0), (Value.int IntKind.i64 0), (Value.int IntKind.i64 0), (Value.int IntKind.i64 0), (Value.int IntKind.i64 0), (Value.int IntKind.i64 0), (Value.slice none 0 0)]) := ⟨by kernel_rfl⟩
instance : TEqG Try.prog 27 := ⟨by kernel_rfl⟩
instance : TStruct Try.prog 27 [(0, 1), (1, 1), (2, 1), (3, 1), (4, 1), (5, 1), (6, 1), (7, 1), (8, 1), (9, 1), (10, 1), (11, 1), (12, 6), (18, 1)] := ⟨by kernel_rfl⟩
instance : TFld Try.prog 27 0 0 := ⟨by kernel_rfl⟩
instance : TFld Try.prog 27 1 1 := ⟨by kernel_rfl⟩
instance : TFld Try.prog 27 2 2 := ⟨by kernel_rfl⟩
instance : TFld Try.prog 27 3 3 := ⟨by kernel_rfl⟩
instance : TFld Try.prog 27 4 4 := ⟨by kernel_rfl⟩
instance : TFld Try.prog 27 5 5 := ⟨by kernel_rfl⟩
instance : TFld Try.prog 27 6 6 := ⟨by kernel_rfl⟩
instance : TFld Try.prog 27 7 7 := ⟨by kernel_rfl⟩
instance : TFld Try.prog 27 8 8 := ⟨by kernel_rfl⟩
instance : TFld Try.prog 27 9 9 := ⟨by kernel_rfl⟩
instance : TFld Try.prog 27 10 10 := ⟨by kernel_rfl⟩
instance : TFld Try.prog 27 11 11 := ⟨by kernel_rfl⟩
instance : TFld Try.prog 27 12 12 := ⟨by kernel_rfl⟩
instance : TFld Try.prog 27 13 18 := ⟨by kernel_rfl⟩
instance : TOne Try.prog 29 := ⟨by kernel_rfl⟩
instance : TSz Try.prog 29 1 := ⟨by kernel_rfl⟩
instance : TByt Try.prog 29 24 := ⟨by kernel_rfl⟩
instance : TZero Try.prog 29 (Value.slice none 0 0) := ⟨by kernel_rfl⟩
instance : TSlc Try.prog 29 5 := ⟨by kernel_rfl⟩
instance : TOne Try.prog 31 := ⟨by kernel_rfl⟩
instance : TSz Try.prog 31 1 := ⟨by kernel_rfl⟩
instance : TByt Try.prog 31 8 := ⟨by kernel_rfl⟩
instance : TZero Try.prog 31 (Value.int IntKind.i64 0) := ⟨by kernel_rfl⟩
instance : TInt Try.prog 31 IntKind.i64 := ⟨by kernel_rfl⟩
instance : TOne Try.prog 36 := ⟨by kernel_rfl⟩
instance : TSz Try.prog 36 1 := ⟨by kernel_rfl⟩
instance : TByt Try.prog 36 24 := ⟨by kernel_rfl⟩
instance : TZero Try.prog 36 (Value.slice none 0 0) := ⟨by kernel_rfl⟩
instance : TSlc Try.prog 36 86 := ⟨by kernel_rfl⟩
instance : TAgg Try.prog 37 := ⟨by kernel_rfl⟩
instance : TSz Try.prog 37 6 := ⟨by kernel_rfl⟩
instance : TByt Try.prog 37 48 := ⟨by kernel_rfl⟩
instance : TZero Try.prog 37 (Value.agg #[(Value.int IntKind.i64 0), (Value.int IntKind.i64 0), (Value.int IntKind.i64 0), (Value.int IntKind.i64 0), (Value.int IntKind.i64 0), (Value.int IntKind.i64 0)]) := ⟨by kernel_rfl⟩
instance : TArr Try.prog 37 6 3 := ⟨by kernel_rfl⟩
instance : TEqG Try.prog 37 := ⟨by kernel_rfl⟩
instance : TAgg Try.prog 38 := ⟨by kernel_rfl⟩
instance : TSz Try.prog 38 19 := ⟨by kernel_rfl⟩
instance : TByt Try.prog 38 200 := ⟨by kernel_rfl⟩
instance : TZero Try.prog 38 (Value.agg #[(Value.int IntKind.i64 0), (Value.int IntKind.i64 0), (Value.int IntKind.i64 0), (Value.int IntKind.i64 0), (Value.int IntKind.i64 0), (Value.int IntKind.i64 0), (Value.int IntKind.i64 0), (Value.int IntKind.i64 0), (Value.int IntKind.i64 0), (Value.int IntKind.i64 0), (Value.slice none 0 0), (Value.slice none 0 0), (Value.int IntKind.i64 0), (Value.int IntKind.i64 0), (Value.int IntKind.i64 0), (Value.int IntKind.i64 0), (Value.int IntKind.i64 0), (Value.int IntKind.i64 0), (Value.slice none 0 0)]) := ⟨by kernel_rfl⟩
instance : TEqG Try.prog 38 := ⟨by kernel_rfl⟩
instance : TStruct Try.prog 38 [(0, 1), (1, 1), (2, 1), (3, 1), (4, 1), (5, 1), (6, 1), (7, 1), (8, 1), (9, 1), (10, 1), (11, 1), (12, 6), (18, 1)] := ⟨by kernel_rfl⟩
instance : TFld Try.prog 38 0 0 := ⟨by kernel_rfl⟩
instance : TFld Try.prog 38 1 1 := ⟨by kernel_rfl⟩
instance : TFld Try.prog 38 2 2 := ⟨by kernel_rfl⟩
instance : TFld Try.prog 38 3 3 := ⟨by kernel_rfl⟩
instance : TFld Try.prog 38 4 4 := ⟨by kernel_rfl⟩
instance : TFld Try.prog 38 5 5 := ⟨by kernel_rfl⟩
instance : TFld Try.prog 38 6 6 := ⟨by kernel_rfl⟩
instance : TFld Try.prog 38 7 7 := ⟨by kernel_rfl⟩
instance : TFld Try.prog 38 8 8 := ⟨by kernel_rfl⟩
instance : TFld Try.prog 38 9 9 := ⟨by kernel_rfl⟩
instance : TFld Try.prog 38 10 10 := ⟨by kernel_rfl⟩
instance : TFld Try.prog 38 11 11 := ⟨by kernel_rfl⟩
instance : TFld Try.prog 38 12 12 := ⟨by kernel_rfl⟩
instance : TFld Try.prog 38 13 18 := ⟨by kernel_rfl⟩
instance : TAgg Try.prog 39 := ⟨by kernel_rfl⟩
instance : TSz Try.prog 39 19 := ⟨by kernel_rfl⟩
instance : TByt Try.prog 39 200 := ⟨by kernel_rfl⟩
instance : TZero Try.prog 39 (Value.agg #[(Value.int IntKind.i64 0), (Value.int IntKind.i64 0), (Value.int IntKind.i64 0), (Value.int IntKind.i64 0), (Value.int IntKind.i64 0), (Value.int IntKind.i64 0), (Value.int IntKind.i64 0), (Value.int IntKind.i64 0), (Value.int IntKind.i64 0), (Value.int IntKind.i64 0), (Value.slice none 0 0), (Value.slice none 0 0), (Value.int IntKind.i64 0), (Value.int IntKind.i64 0), (Value.int IntKind.i64 0), (Value.int IntKind.i64 0), (Value.int IntKind.i64 0), (Value.int IntKind.i64 0), (Value.slice none 0 0)]) := ⟨by kernel_rfl⟩
instance : TEqG Try.prog 39 := ⟨by kernel_rfl⟩
instance : TStruct Try.prog 39 [(0, 1), (1, 1), (2, 1), (3, 1), (4, 1), (5, 1), (6, 1), (7, 1), (8, 1), (9, 1), (10, 1), (11, 1), (12, 6), (18, 1)] := ⟨by kernel_rfl⟩
instance : TFld Try.prog 39 0 0 := ⟨by kernel_rfl⟩
instance : TFld Try.prog 39 1 1 := ⟨by kernel_rfl⟩
instance : TFld Try.prog 39 2 2 := ⟨by kernel_rfl⟩
instance : TFld Try.prog 39 3 3 := ⟨by kernel_rfl⟩
instance : TFld Try.prog 39 4 4 := ⟨by kernel_rfl⟩
instance : TFld Try.prog 39 5 5 := ⟨by kernel_rfl⟩
instance : TFld Try.prog 39 6 6 := ⟨by kernel_rfl⟩
instance : TFld Try.prog 39 7 7 := ⟨by kernel_rfl⟩
instance : TFld Try.prog 39 8 8 := ⟨by kernel_rfl⟩
instance : TFld Try.prog 39 9 9 := ⟨by kernel_rfl⟩
instance : TFld Try.prog 39 10 10 := ⟨by kernel_rfl⟩
instance : TFld Try.prog 39 11 11 := ⟨by kernel_rfl⟩
instance : TFld Try.prog 39 12 12 := ⟨by kernel_rfl⟩
instance : TFld Try.prog 39 13 18 := ⟨by kernel_rfl⟩
instance : TOne Try.prog 50 := ⟨by kernel_rfl⟩
instance : TSz Try.prog 50 1 := ⟨by kernel_rfl⟩
instance : TByt Try.prog 50 24 := ⟨by kernel_rfl⟩
instance : TZero Try.prog 50 (Value.slice none 0 0) := ⟨by kernel_rfl⟩
instance : TSlc Try.prog 50 116 := ⟨by kernel_rfl⟩
instance : TAgg Try.prog 51 := ⟨by kernel_rfl⟩
instance : TSz Try.prog 51 4 := ⟨by kernel_rfl⟩
instance : TByt Try.prog 51 48 := ⟨by kernel_rfl⟩
instance : TZero Try.prog 51 (Value.agg #[(Value.int IntKind.i64 0), (Value.int IntKind.i64 0), (Value.int IntKind.i64 0), (Value.slice none 0 0)]) := ⟨by kernel_rfl⟩
instance : TEqG Try.prog 51 := ⟨by kernel_rfl⟩
instance : TStruct Try.prog 51 [(0, 1), (1, 1), (2, 1), (3, 1)] := ⟨by kernel_rfl⟩
instance : TFld Try.prog 51 0 0 := ⟨by kernel_rfl⟩
instance : TFld Try.prog 51 1 1 := ⟨by kernel_rfl⟩
instance : TFld Try.prog 51 2 2 := ⟨by kernel_rfl⟩
instance : TFld Try.prog 51 3 3 := ⟨by kernel_rfl⟩
instance : TAgg Try.prog 52 := ⟨by kernel_rfl⟩
instance : TSz Try.prog 52 4 := ⟨by kernel_rfl⟩
instance : TByt Try.prog 52 48 := ⟨by kernel_rfl⟩
instance : TZero Try.prog 52 (Value.agg #[(Value.int IntKind.i64 0), (Value.int IntKind.i64 0), (Value.int IntKind.i64 0), (Value.slice none 0 0)]) := ⟨by kernel_rfl⟩
instance : TEqG Try.prog 52 := ⟨by kernel_rfl⟩
instance : TStruct Try.prog 52 [(0, 1), (1, 1), (2, 1), (3, 1)] := ⟨by kernel_rfl⟩
instance : TFld Try.prog 52 0 0 := ⟨by kernel_rfl⟩
instance : TFld Try.prog 52 1 1 := ⟨by kernel_rfl⟩
instance : TFld Try.prog 52 2 2 := ⟨by kernel_rfl⟩
instance : TFld Try.prog 52 3 3 := ⟨by kernel_rfl⟩
instance : TOne Try.prog 53 := ⟨by kernel_rfl⟩
instance : TSz Try.prog 53 1 := ⟨by kernel_rfl⟩
instance : TByt Try.prog 53 24 := ⟨by kernel_rfl⟩
instance : TZero Try.prog 53 (Value.slice none 0 0) := ⟨by kernel_rfl⟩
instance : TSlc Try.prog 53 52 := ⟨by kernel_rfl⟩
instance : TAgg Try.prog 54 := ⟨by kernel_rfl⟩
instance : TSz Try.prog 54 6 := ⟨by kernel_rfl⟩
instance : TByt Try.prog 54 96 := ⟨by kernel_rfl⟩
instance : TZero Try.prog 54 (Value.agg #[(Value.int IntKind.i64 0), (Value.int IntKind.i64 0), (Value.int IntKind.i64 0), (Value.slice none 0 0), (Value.slice none 0 0), (Value.slice none 0 0)]) := ⟨by kernel_rfl⟩
instance : TEqG Try.prog 54 := ⟨by kernel_rfl⟩
instance : TStruct Try.prog 54 [(0, 4), (4, 1), (5, 1)] := ⟨by kernel_rfl⟩
instance : TFld Try.prog 54 0 0 := ⟨by kernel_rfl⟩
instance : TFld Try.prog 54 1 4 := ⟨by kernel_rfl⟩
instance : TFld Try.prog 54 2 5 := ⟨by kernel_rfl⟩
instance : TAgg Try.prog 55 := ⟨by kernel_rfl⟩
instance : TSz Try.prog 55 6 := ⟨by kernel_rfl⟩
instance : TByt Try.prog 55 96 := ⟨by kernel_rfl⟩
instance : TZero Try.prog 55 (Value.agg #[(Value.int IntKind.i64 0), (Value.int IntKind.i64 0), (Value.int IntKind.i64 0), (Value.slice none 0 0), (Value.slice none 0 0), (Value.slice none 0 0)]) := ⟨by kernel_rfl⟩
instance : TEqG Try.prog 55 := ⟨by kernel_rfl⟩
instance : TStruct Try.prog 55 [(0, 4), (4, 1), (5, 1)] := ⟨by kernel_rfl⟩
instance : TFld Try.prog 55 0 0 := ⟨by kernel_rfl⟩
instance : TFld Try.prog 55 1 4 := ⟨by kernel_rfl⟩
instance : TFld Try.prog 55 2 5 := ⟨by kernel_rfl⟩
instance : TOne Try.prog 56 := ⟨by kernel_rfl⟩
instance : TSz Try.prog 56 1 := ⟨by kernel_rfl⟩
instance : TByt Try.prog 56 24 := ⟨by kernel_rfl⟩
instance : TZero Try.prog 56 (Value.slice none 0 0) := ⟨by kernel_rfl⟩
instance : TSlc Try.prog 56 121 := ⟨by kernel_rfl⟩
instance : TAgg Try.prog 57 := ⟨by kernel_rfl⟩
instance : TSz Try.prog 57 4 := ⟨by kernel_rfl⟩
instance : TByt Try.prog 57 48 := ⟨by kernel_rfl⟩
instance : TZero Try.prog 57 (Value.agg #[(Value.int IntKind.i64 0), (Value.int IntKind.i64 0), (Value.int IntKind.i64 0), (Value.slice none 0 0)]) := ⟨by kernel_rfl⟩
instance : TEqG Try.prog 57 := ⟨by kernel_rfl⟩
instance : TStruct Try.prog 57 [(0, 1), (1, 1), (2, 1), (3, 1)] := ⟨by kernel_rfl⟩
instance : TFld Try.prog 57 0 0 := ⟨by kernel_rfl⟩
instance : TFld Try.prog 57 1 1 := ⟨by kernel_rfl⟩
instance : TFld Try.prog 57 2 2 := ⟨by kernel_rfl⟩
instance : TFld Try.prog 57 3 3 := ⟨by kernel_rfl⟩
instance : TAgg Try.prog 58 := ⟨by kernel_rfl⟩
instance : TSz Try.prog 58 4 := ⟨by kernel_rfl⟩
instance : TByt Try.prog 58 48 := ⟨by kernel_rfl⟩
instance : TZero Try.prog 58 (Value.agg #[(Value.int IntKind.i64 0), (Value.int IntKind.i64 0), (Value.int IntKind.i64 0), (Value.slice none 0 0)]) := ⟨by kernel_rfl⟩
instance : TEqG Try.prog 58 := ⟨by kernel_rfl⟩
instance : TStruct Try.prog 58 [(0, 1), (1, 1), (2, 1), (3, 1)] := ⟨by kernel_rfl⟩
instance : TFld Try.prog 58 0 0 := ⟨by kernel_rfl⟩
instance : TFld Try.prog 58 1 1 := ⟨by kernel_rfl⟩
instance : TFld Try.prog 58 2 2 := ⟨by kernel_rfl⟩
instance : TFld Try.prog 58 3 3 := ⟨by kernel_rfl⟩
instance : TOne Try.prog 59 := ⟨by kernel_rfl⟩
instance : TSz Try.prog 59 1 := ⟨by kernel_rfl⟩
instance : TByt Try.prog 59 24 := ⟨by kernel_rfl⟩
instance : TZero Try.prog 59 (Value.slice none 0 0) := ⟨by kernel_rfl⟩
instance : TSlc Try.prog 59 58 := ⟨by kernel_rfl⟩
instance : TAgg Try.prog 60 := ⟨by kernel_rfl⟩
instance : TSz Try.prog 60 6 := ⟨by kernel_rfl⟩
instance : TByt Try.prog 60 96 := ⟨by kernel_rfl⟩
instance : TZero Try.prog 60 (Value.agg #[(Value.int IntKind.i64 0), (Value.int IntKind.i64 0), (Value.int IntKind.i64 0), (Value.slice none 0 0), (Value.slice none 0 0), (Value.slice none 0 0)]) := ⟨by kernel_rfl⟩
instance : TEqG Try.prog 60 := ⟨by kernel_rfl⟩
instance : TStruct Try.prog 60 [(0, 4), (4, 1), (5, 1)] := ⟨by kernel_rfl⟩
instance : TFld Try.prog 60 0 0 := ⟨by kernel_rfl⟩
instance : TFld Try.prog 60 1 4 := ⟨by kernel_rfl⟩
instance : TFld Try.prog 60 2 5 := ⟨by kernel_rfl⟩
instance : TAgg Try.prog 61 := ⟨by kernel_rfl⟩
instance : TSz Try.prog 61 6 := ⟨by kernel_rfl⟩
instance : TByt Try.prog 61 96 := ⟨by kernel_rfl⟩
instance : TZero Try.prog 61 (Value.agg #[(Value.int IntKind.i64 0), (Value.int IntKind.i64 0), (Value.int IntKind.i64 0), (Value.slice none 0 0), (Value.slice none 0 0), (Value.slice none 0 0)]) := ⟨by kernel_rfl⟩
instance : TEqG Try.prog 61 := ⟨by kernel_rfl⟩
instance : TStruct Try.prog 61 [(0, 4), (4, 1), (5, 1)] := ⟨by kernel_rfl⟩
instance : TFld Try.prog 61 0 0 := ⟨by kernel_rfl⟩
instance : TFld Try.prog 61 1 4 := ⟨by kernel_rfl⟩
instance : TFld Try.prog 61 2 5 := ⟨by kernel_rfl⟩
instance : TOne Try.prog 72 := ⟨by kernel_rfl⟩
instance : TSz Try.prog 72 1 := ⟨by kernel_rfl⟩
instance : TByt Try.prog 72 8 := ⟨by kernel_rfl⟩
instance : TZero Try.prog 72 (Value.pointer none) := ⟨by kernel_rfl⟩
instance : TPtr Try.prog 72 74 := ⟨by kernel_rfl⟩
instance : TAgg Try.prog 73 := ⟨by kernel_rfl⟩
instance : TSz Try.prog 73 1 := ⟨by kernel_rfl⟩
instance : TByt Try.prog 73 24 := ⟨by kernel_rfl⟩
instance : TZero Try.prog 73 (Value.agg #[(Value.slice none 0 0)]) := ⟨by kernel_rfl⟩
instance : TEqG Try.prog 73 := ⟨by kernel_rfl⟩
instance : TStruct Try.prog 73 [(0, 1)] := ⟨by kernel_rfl⟩
instance : TFld Try.prog 73 0 0 := ⟨by kernel_rfl⟩
instance : TAgg Try.prog 74 := ⟨by kernel_rfl⟩
instance : TSz Try.prog 74 1 := ⟨by kernel_rfl⟩
instance : TByt Try.prog 74 24 := ⟨by kernel_rfl⟩
instance : TZero Try.prog 74 (Value.agg #[(Value.slice none 0 0)]) := ⟨by kernel_rfl⟩
instance : TEqG Try.prog 74 := ⟨by kernel_rfl⟩
instance : TStruct Try.prog 74 [(0, 1)] := ⟨by kernel_rfl⟩
instance : TFld Try.prog 74 0 0 := ⟨by kernel_rfl⟩
instance : TAgg Try.prog 77 := ⟨by kernel_rfl⟩
instance : TSz Try.prog 77 2 := ⟨by kernel_rfl⟩
instance : TByt Try.prog 77 16 := ⟨by kernel_rfl⟩
instance : TZero Try.prog 77 (Value.agg #[(Value.int IntKind.i64 0), (Value.int IntKind.i64 0)]) := ⟨by kernel_rfl⟩
instance : TEqG Try.prog 77 := ⟨by kernel_rfl⟩
instance : TStruct Try.prog 77 [(0, 1), (1, 1)] := ⟨by kernel_rfl⟩
instance : TFld Try.prog 77 0 0 := ⟨by kernel_rfl⟩
instance : TFld Try.prog 77 1 1 := ⟨by kernel_rfl⟩
instance : TAgg Try.prog 78 := ⟨by kernel_rfl⟩
instance : TSz Try.prog 78 2 := ⟨by kernel_rfl⟩
instance : TByt Try.prog 78 16 := ⟨by kernel_rfl⟩
instance : TZero Try.prog 78 (Value.agg #[(Value.int IntKind.i64 0), (Value.int IntKind.i64 0)]) := ⟨by kernel_rfl⟩
instance : TEqG Try.prog 78 := ⟨by kernel_rfl⟩
instance : TStruct Try.prog 78 [(0, 1), (1, 1)] := ⟨by kernel_rfl⟩
instance : TFld Try.prog 78 0 0 := ⟨by kernel_rfl⟩
instance : TFld Try.prog 78 1 1 := ⟨by kernel_rfl⟩
instance : TOne Try.prog 79 := ⟨by kernel_rfl⟩
instance : TSz Try.prog 79 1 := ⟨by kernel_rfl⟩
instance : TByt Try.prog 79 8 := ⟨by kernel_rfl⟩
instance : TZero Try.prog 79 (Value.pointer none) := ⟨by kernel_rfl⟩
instance : TPtr Try.prog 79 81 := ⟨by kernel_rfl⟩
instance : TAgg Try.prog 80 := ⟨by kernel_rfl⟩
instance : TSz Try.prog 80 2 := ⟨by kernel_rfl⟩
instance : TByt Try.prog 80 32 := ⟨by kernel_rfl⟩
instance : TZero Try.prog 80 (Value.agg #[(Value.slice none 0 0), (Value.int IntKind.i64 0)]) := ⟨by kernel_rfl⟩
instance : TEqG Try.prog 80 := ⟨by kernel_rfl⟩
instance : TStruct Try.prog 80 [(0, 1), (1, 1)] := ⟨by kernel_rfl⟩
instance : TFld Try.prog 80 0 0 := ⟨by kernel_rfl⟩
instance : TFld Try.prog 80 1 1 := ⟨by kernel_rfl⟩
instance : TAgg Try.prog 81 := ⟨by kernel_rfl⟩
instance : TSz Try.prog 81 2 := ⟨by kernel_rfl⟩
instance : TByt Try.prog 81 32 := ⟨by kernel_rfl⟩
instance : TZero Try.prog 81 (Value.agg #[(Value.slice none 0 0), (Value.int IntKind.i64 0)]) := ⟨by kernel_rfl⟩
instance : TEqG Try.prog 81 := ⟨by kernel_rfl⟩
instance : TStruct Try.prog 81 [(0, 1), (1, 1)] := ⟨by kernel_rfl⟩
instance : TFld Try.prog 81 0 0 := ⟨by kernel_rfl⟩
instance : TFld Try.prog 81 1 1 := ⟨by kernel_rfl⟩
instance : TAgg Try.prog 86 := ⟨by kernel_rfl⟩
instance : TSz Try.prog 86 2 := ⟨by kernel_rfl⟩
instance : TByt Try.prog 86 16 := ⟨by kernel_rfl⟩
instance : TZero Try.prog 86 (Value.agg #[(Value.int IntKind.i64 0), (Value.int IntKind.i64 0)]) := ⟨by kernel_rfl⟩
instance : TEqG Try.prog 86 := ⟨by kernel_rfl⟩
instance : TStruct Try.prog 86 [(0, 1), (1, 1)] := ⟨by kernel_rfl⟩
instance : TFld Try.prog 86 0 0 := ⟨by kernel_rfl⟩
instance : TFld Try.prog 86 1 1 := ⟨by kernel_rfl⟩
instance : TOne Try.prog 88 := ⟨by kernel_rfl⟩
instance : TSz Try.prog 88 1 := ⟨by kernel_rfl⟩
instance : TByt Try.prog 88 8 := ⟨by kernel_rfl⟩
instance : TZero Try.prog 88 (Value.pointer none) := ⟨by kernel_rfl⟩
instance : TPtr Try.prog 88 90 := ⟨by kernel_rfl⟩
instance : TAgg Try.prog 89 := ⟨by kernel_rfl⟩
instance : TSz Try.prog 89 3 := ⟨by kernel_rfl⟩
instance : TByt Try.prog 89 40 := ⟨by kernel_rfl⟩
instance : TZero Try.prog 89 (Value.agg #[(Value.slice none 0 0), (Value.int IntKind.i64 0), (Value.int IntKind.i64 0)]) := ⟨by kernel_rfl⟩
instance : TEqG Try.prog 89 := ⟨by kernel_rfl⟩
instance : TStruct Try.prog 89 [(0, 1), (1, 1), (2, 1)] := ⟨by kernel_rfl⟩
instance : TFld Try.prog 89 0 0 := ⟨by kernel_rfl⟩
instance : TFld Try.prog 89 1 1 := ⟨by kernel_rfl⟩
instance : TFld Try.prog 89 2 2 := ⟨by kernel_rfl⟩
instance : TAgg Try.prog 90 := ⟨by kernel_rfl⟩
instance : TSz Try.prog 90 3 := ⟨by kernel_rfl⟩
instance : TByt Try.prog 90 40 := ⟨by kernel_rfl⟩
instance : TZero Try.prog 90 (Value.agg #[(Value.slice none 0 0), (Value.int IntKind.i64 0), (Value.int IntKind.i64 0)]) := ⟨by kernel_rfl⟩
instance : TEqG Try.prog 90 := ⟨by kernel_rfl⟩
instance : TStruct Try.prog 90 [(0, 1), (1, 1), (2, 1)] := ⟨by kernel_rfl⟩
instance : TFld Try.prog 90 0 0 := ⟨by kernel_rfl⟩
instance : TFld Try.prog 90 1 1 := ⟨by kernel_rfl⟩
instance : TFld Try.prog 90 2 2 := ⟨by kernel_rfl⟩
instance : TAgg Try.prog 91 := ⟨by kernel_rfl⟩
instance : TSz Try.prog 91 10 := ⟨by kernel_rfl⟩
instance : TByt Try.prog 91 80 := ⟨by kernel_rfl⟩
instance : TZero Try.prog 91 (Value.agg #[(Value.int IntKind.i64 0), (Value.int IntKind.i64 0), (Value.int IntKind.i64 0), (Value.int IntKind.i64 0), (Value.int IntKind.i64 0), (Value.int IntKind.i64 0), (Value.int IntKind.i64 0), (Value.int IntKind.i64 0), (Value.int IntKind.i64 0), (Value.int IntKind.i64 0)]) := ⟨by kernel_rfl⟩
instance : TArr Try.prog 91 10 3 := ⟨by kernel_rfl⟩
instance : TEqG Try.prog 91 := ⟨by kernel_rfl⟩
instance : TOne Try.prog 99 := ⟨by kernel_rfl⟩
instance : TSz Try.prog 99 1 := ⟨by kernel_rfl⟩
instance : TByt Try.prog 99 24 := ⟨by kernel_rfl⟩
instance : TZero Try.prog 99 (Value.slice none 0 0) := ⟨by kernel_rfl⟩
instance : TSlc Try.prog 99 53 := ⟨by kernel_rfl⟩
instance : TOne Try.prog 103 := ⟨by kernel_rfl⟩
instance : TSz Try.prog 103 1 := ⟨by kernel_rfl⟩
instance : TByt Try.prog 103 8 := ⟨by kernel_rfl⟩
instance : TZero Try.prog 103 (Value.int IntKind.u64 0) := ⟨by kernel_rfl⟩
instance : TInt Try.prog 103 IntKind.u64 := ⟨by kernel_rfl⟩
instance : TOne Try.prog 104 := ⟨by kernel_rfl⟩
instance : TSz Try.prog 104 1 := ⟨by kernel_rfl⟩
instance : TByt Try.prog 104 8 := ⟨by kernel_rfl⟩
instance : TZero Try.prog 104 (Value.int IntKind.u64 0) := ⟨by kernel_rfl⟩
instance : TInt Try.prog 104 IntKind.u64 := ⟨by kernel_rfl⟩
instance : TAgg Try.prog 115 := ⟨by kernel_rfl⟩
instance : TSz Try.prog 115 19 := ⟨by kernel_rfl⟩
instance : TByt Try.prog 115 216 := ⟨by kernel_rfl⟩
instance : TZero Try.prog 115 (Value.agg #[(Value.int IntKind.i64 0), (Value.int IntKind.i64 0), (Value.bool false), (Value.int IntKind.i64 0), (Value.int IntKind.i64 0), (Value.int IntKind.i64 0), (Value.int IntKind.i64 0), (Value.slice none 0 0), (Value.slice none 0 0), (Value.int IntKind.i64 0), (Value.int IntKind.i64 0), (Value.int IntKind.i64 0), (Value.int IntKind.i64 0), (Value.int IntKind.i64 0), (Value.int IntKind.i64 0), (Value.bool false), (Value.int IntKind.i64 0), (Value.slice none 0 0), (Value.slice none 0 0)]) := ⟨by kernel_rfl⟩
instance : TEqG Try.prog 115 := ⟨by kernel_rfl⟩
instance : TStruct Try.prog 115 [(0, 1), (1, 1), (2, 1), (3, 1), (4, 1), (5, 1), (6, 1), (7, 1), (8, 1), (9, 6), (15, 1), (16, 1), (17, 1), (18, 1)] := ⟨by kernel_rfl⟩
instance : TFld Try.prog 115 0 0 := ⟨by kernel_rfl⟩
instance : TFld Try.prog 115 1 1 := ⟨by kernel_rfl⟩
instance : TFld Try.prog 115 2 2 := ⟨by kernel_rfl⟩
instance : TFld Try.prog 115 3 3 := ⟨by kernel_rfl⟩
instance : TFld Try.prog 115 4 4 := ⟨by kernel_rfl⟩
instance : TFld Try.prog 115 5 5 := ⟨by kernel_rfl⟩
instance : TFld Try.prog 115 6 6 := ⟨by kernel_rfl⟩
instance : TFld Try.prog 115 7 7 := ⟨by kernel_rfl⟩
instance : TFld Try.prog 115 8 8 := ⟨by kernel_rfl⟩
instance : TFld Try.prog 115 9 9 := ⟨by kernel_rfl⟩
instance : TFld Try.prog 115 10 15 := ⟨by kernel_rfl⟩
instance : TFld Try.prog 115 11 16 := ⟨by kernel_rfl⟩
instance : TFld Try.prog 115 12 17 := ⟨by kernel_rfl⟩
instance : TFld Try.prog 115 13 18 := ⟨by kernel_rfl⟩
instance : TAgg Try.prog 116 := ⟨by kernel_rfl⟩
instance : TSz Try.prog 116 19 := ⟨by kernel_rfl⟩
instance : TByt Try.prog 116 216 := ⟨by kernel_rfl⟩
instance : TZero Try.prog 116 (Value.agg #[(Value.int IntKind.i64 0), (Value.int IntKind.i64 0), (Value.bool false), (Value.int IntKind.i64 0), (Value.int IntKind.i64 0), (Value.int IntKind.i64 0), (Value.int IntKind.i64 0), (Value.slice none 0 0), (Value.slice none 0 0), (Value.int IntKind.i64 0), (Value.int IntKind.i64 0), (Value.int IntKind.i64 0), (Value.int IntKind.i64 0), (Value.int IntKind.i64 0), (Value.int IntKind.i64 0), (Value.bool false), (Value.int IntKind.i64 0), (Value.slice none 0 0), (Value.slice none 0 0)]) := ⟨by kernel_rfl⟩
instance : TEqG Try.prog 116 := ⟨by kernel_rfl⟩
instance : TStruct Try.prog 116 [(0, 1), (1, 1), (2, 1), (3, 1), (4, 1), (5, 1), (6, 1), (7, 1), (8, 1), (9, 6), (15, 1), (16, 1), (17, 1), (18, 1)] := ⟨by kernel_rfl⟩
instance : TFld Try.prog 116 0 0 := ⟨by kernel_rfl⟩
instance : TFld Try.prog 116 1 1 := ⟨by kernel_rfl⟩
instance : TFld Try.prog 116 2 2 := ⟨by kernel_rfl⟩
instance : TFld Try.prog 116 3 3 := ⟨by kernel_rfl⟩
instance : TFld Try.prog 116 4 4 := ⟨by kernel_rfl⟩
instance : TFld Try.prog 116 5 5 := ⟨by kernel_rfl⟩
instance : TFld Try.prog 116 6 6 := ⟨by kernel_rfl⟩
instance : TFld Try.prog 116 7 7 := ⟨by kernel_rfl⟩
instance : TFld Try.prog 116 8 8 := ⟨by kernel_rfl⟩
instance : TFld Try.prog 116 9 9 := ⟨by kernel_rfl⟩
instance : TFld Try.prog 116 10 15 := ⟨by kernel_rfl⟩
instance : TFld Try.prog 116 11 16 := ⟨by kernel_rfl⟩
instance : TFld Try.prog 116 12 17 := ⟨by kernel_rfl⟩
instance : TFld Try.prog 116 13 18 := ⟨by kernel_rfl⟩
instance : TAgg Try.prog 120 := ⟨by kernel_rfl⟩
instance : TSz Try.prog 120 19 := ⟨by kernel_rfl⟩
instance : TByt Try.prog 120 200 := ⟨by kernel_rfl⟩
instance : TZero Try.prog 120 (Value.agg #[(Value.int IntKind.i64 0), (Value.int IntKind.i64 0), (Value.int IntKind.i64 0), (Value.bool false), (Value.int IntKind.i64 0), (Value.int IntKind.i64 0), (Value.int IntKind.i64 0), (Value.int IntKind.i64 0), (Value.slice none 0 0), (Value.slice none 0 0), (Value.int IntKind.i64 0), (Value.int IntKind.i64 0), (Value.int IntKind.i64 0), (Value.int IntKind.i64 0), (Value.int IntKind.i64 0), (Value.int IntKind.i64 0), (Value.bool false), (Value.int IntKind.i64 0), (Value.slice none 0 0)]) := ⟨by kernel_rfl⟩
instance : TEqG Try.prog 120 := ⟨by kernel_rfl⟩
instance : TStruct Try.prog 120 [(0, 1), (1, 1), (2, 1), (3, 1), (4, 1), (5, 1), (6, 1), (7, 1), (8, 1), (9, 1), (10, 6), (16, 1), (17, 1), (18, 1)] := ⟨by kernel_rfl⟩
instance : TFld Try.prog 120 0 0 := ⟨by kernel_rfl⟩
instance : TFld Try.prog 120 1 1 := ⟨by kernel_rfl⟩
instance : TFld Try.prog 120 2 2 := ⟨by kernel_rfl⟩
instance : TFld Try.prog 120 3 3 := ⟨by kernel_rfl⟩
instance : TFld Try.prog 120 4 4 := ⟨by kernel_rfl⟩
instance : TFld Try.prog 120 5 5 := ⟨by kernel_rfl⟩
instance : TFld Try.prog 120 6 6 := ⟨by kernel_rfl⟩
instance : TFld Try.prog 120 7 7 := ⟨by kernel_rfl⟩
instance : TFld Try.prog 120 8 8 := ⟨by kernel_rfl⟩
instance : TFld Try.prog 120 9 9 := ⟨by kernel_rfl⟩
instance : TFld Try.prog 120 10 10 := ⟨by kernel_rfl⟩
instance : TFld Try.prog 120 11 16 := ⟨by kernel_rfl⟩
instance : TFld Try.prog 120 12 17 := ⟨by kernel_rfl⟩
instance : TFld Try.prog 120 13 18 := ⟨by kernel_rfl⟩
instance : TAgg Try.prog 121 := ⟨by kernel_rfl⟩
instance : TSz Try.prog 121 19 := ⟨by kernel_rfl⟩
instance : TByt Try.prog 121 200 := ⟨by kernel_rfl⟩
instance : TZero Try.prog 121 (Value.agg #[(Value.int IntKind.i64 0), (Value.int IntKind.i64 0), (Value.int IntKind.i64 0), (Value.bool false), (Value.int IntKind.i64 0), (Value.int IntKind.i64 0), (Value.int IntKind.i64 0), (Value.int IntKind.i64 0), (Value.slice none 0 0), (Value.slice none 0 0), (Value.int IntKind.i64 0), (Value.int IntKind.i64 0), (Value.int IntKind.i64 0), (Value.int IntKind.i64 0), (Value.int IntKind.i64 0), (Value.int IntKind.i64 0), (Value.bool false), (Value.int IntKind.i64 0), (Value.slice none 0 0)]) := ⟨by kernel_rfl⟩
instance : TEqG Try.prog 121 := ⟨by kernel_rfl⟩
instance : TStruct Try.prog 121 [(0, 1), (1, 1), (2, 1), (3, 1), (4, 1), (5, 1), (6, 1), (7, 1), (8, 1), (9, 1), (10, 6), (16, 1), (17, 1), (18, 1)] := ⟨by kernel_rfl⟩
instance : TFld Try.prog 121 0 0 := ⟨by kernel_rfl⟩
instance : TFld Try.prog 121 1 1 := ⟨by kernel_rfl⟩
instance : TFld Try.prog 121 2 2 := ⟨by kernel_rfl⟩
instance : TFld Try.prog 121 3 3 := ⟨by kernel_rfl⟩
instance : TFld Try.prog 121 4 4 := ⟨by kernel_rfl⟩
instance : TFld Try.prog 121 5 5 := ⟨by kernel_rfl⟩
instance : TFld Try.prog 121 6 6 := ⟨by kernel_rfl⟩
instance : TFld Try.prog 121 7 7 := ⟨by kernel_rfl⟩
instance : TFld Try.prog 121 8 8 := ⟨by kernel_rfl⟩
instance : TFld Try.prog 121 9 9 := ⟨by kernel_rfl⟩
instance : TFld Try.prog 121 10 10 := ⟨by kernel_rfl⟩
instance : TFld Try.prog 121 11 16 := ⟨by kernel_rfl⟩
instance : TFld Try.prog 121 12 17 := ⟨by kernel_rfl⟩
instance : TFld Try.prog 121 13 18 := ⟨by kernel_rfl⟩
instance : TAgg Try.prog 139 := ⟨by kernel_rfl⟩
instance : TSz Try.prog 139 4 := ⟨by kernel_rfl⟩
instance : TByt Try.prog 139 32 := ⟨by kernel_rfl⟩
instance : TZero Try.prog 139 (Value.agg #[(Value.int IntKind.i64 0), (Value.int IntKind.i64 0), (Value.int IntKind.i64 0), (Value.int IntKind.i64 0)]) := ⟨by kernel_rfl⟩
instance : TArr Try.prog 139 4 3 := ⟨by kernel_rfl⟩
instance : TEqG Try.prog 139 := ⟨by kernel_rfl⟩
instance : TAgg Try.prog 147 := ⟨by kernel_rfl⟩
instance : TSz Try.prog 147 4 := ⟨by kernel_rfl⟩
instance : TByt Try.prog 147 40 := ⟨by kernel_rfl⟩
instance : TZero Try.prog 147 (Value.agg #[(Value.pointer none), (Value.pointer none), (Value.pointer none), (Value.string {data := #[]})]) := ⟨by kernel_rfl⟩
instance : TEqG Try.prog 147 := ⟨by kernel_rfl⟩
instance : TStruct Try.prog 147 [(0, 1), (1, 1), (2, 1), (3, 1)] := ⟨by kernel_rfl⟩
instance : TFld Try.prog 147 0 0 := ⟨by kernel_rfl⟩
instance : TFld Try.prog 147 1 1 := ⟨by kernel_rfl⟩
instance : TFld Try.prog 147 2 2 := ⟨by kernel_rfl⟩
instance : TFld Try.prog 147 3 3 := ⟨by kernel_rfl⟩
instance : TAgg Try.prog 148 := ⟨by kernel_rfl⟩
instance : TSz Try.prog 148 4 := ⟨by kernel_rfl⟩
instance : TByt Try.prog 148 40 := ⟨by kernel_rfl⟩
instance : TZero Try.prog 148 (Value.agg #[(Value.pointer none), (Value.pointer none), (Value.pointer none), (Value.string {data := #[]})]) := ⟨by kernel_rfl⟩
instance : TEqG Try.prog 148 := ⟨by kernel_rfl⟩
instance : TStruct Try.prog 148 [(0, 1), (1, 1), (2, 1), (3, 1)] := ⟨by kernel_rfl⟩
instance : TFld Try.prog 148 0 0 := ⟨by kernel_rfl⟩
instance : TFld Try.prog 148 1 1 := ⟨by kernel_rfl⟩
instance : TFld Try.prog 148 2 2 := ⟨by kernel_rfl⟩
instance : TFld Try.prog 148 3 3 := ⟨by kernel_rfl⟩
instance : TOne Try.prog 152 := ⟨by kernel_rfl⟩
instance : TSz Try.prog 152 1 := ⟨by kernel_rfl⟩
instance : TByt Try.prog 152 4 := ⟨by kernel_rfl⟩
instance : TZero Try.prog 152 (Value.int IntKind.u32 0) := ⟨by kernel_rfl⟩
instance : TInt Try.prog 152 IntKind.u32 := ⟨by kernel_rfl⟩
instance : TOne Try.prog 153 := ⟨by kernel_rfl⟩
instance : TSz Try.prog 153 1 := ⟨by kernel_rfl⟩
instance : TByt Try.prog 153 1 := ⟨by kernel_rfl⟩
instance : TZero Try.prog 153 (Value.int IntKind.u8 0) := ⟨by kernel_rfl⟩
instance : TInt Try.prog 153 IntKind.u8 := ⟨by kernel_rfl⟩
instance : TOne Try.prog 154 := ⟨by kernel_rfl⟩
instance : TSz Try.prog 154 1 := ⟨by kernel_rfl⟩
instance : TByt Try.prog 154 1 := ⟨by kernel_rfl⟩
instance : TZero Try.prog 154 (Value.int IntKind.u8 0) := ⟨by kernel_rfl⟩
instance : TInt Try.prog 154 IntKind.u8 := ⟨by kernel_rfl⟩
instance : TOne Try.prog 156 := ⟨by kernel_rfl⟩
instance : TSz Try.prog 156 1 := ⟨by kernel_rfl⟩
instance : TByt Try.prog 156 8 := ⟨by kernel_rfl⟩
instance : TZero Try.prog 156 (Value.pointer none) := ⟨by kernel_rfl⟩
instance : TPtr Try.prog 156 5 := ⟨by kernel_rfl⟩
instance : TOne Try.prog 157 := ⟨by kernel_rfl⟩
instance : TSz Try.prog 157 1 := ⟨by kernel_rfl⟩
instance : TByt Try.prog 157 4 := ⟨by kernel_rfl⟩
instance : TZero Try.prog 157 (Value.int IntKind.i32 0) := ⟨by kernel_rfl⟩
instance : TInt Try.prog 157 IntKind.i32 := ⟨by kernel_rfl⟩
instance : TOne Try.prog 158 := ⟨by kernel_rfl⟩
instance : TSz Try.prog 158 1 := ⟨by kernel_rfl⟩
instance : TByt Try.prog 158 4 := ⟨by kernel_rfl⟩
instance : TZero Try.prog 158 (Value.int IntKind.i32 0) := ⟨by kernel_rfl⟩
instance : TInt Try.prog 158 IntKind.i32 := ⟨by kernel_rfl⟩
instance : TAgg Try.prog 159 := ⟨by kernel_rfl⟩
instance : TSz Try.prog 159 11 := ⟨by kernel_rfl⟩
instance : TByt Try.prog 159 48 := ⟨by kernel_rfl⟩
instance : TZero Try.prog 159 (Value.agg #[(Value.int IntKind.u64 0), (Value.int IntKind.u64 0), (Value.int IntKind.u32 0), (Value.int IntKind.u8 0), (Value.int IntKind.u8 0), (Value.int IntKind.u8 0), (Value.int IntKind.u8 0), Value.nilFunc, (Value.pointer none), (Value.int IntKind.i32 0), (Value.int IntKind.i32 0)]) := ⟨by kernel_rfl⟩
instance : TEqG Try.prog 159 := ⟨by kernel_rfl⟩
instance : TStruct Try.prog 159 [(0, 1), (1, 1), (2, 1), (3, 1), (4, 1), (5, 1), (6, 1), (7, 1), (8, 1), (9, 1), (10, 1)] := ⟨by kernel_rfl⟩
instance : TFld Try.prog 159 0 0 := ⟨by kernel_rfl⟩
instance : TFld Try.prog 159 1 1 := ⟨by kernel_rfl⟩
instance : TFld Try.prog 159 2 2 := ⟨by kernel_rfl⟩
instance : TFld Try.prog 159 3 3 := ⟨by kernel_rfl⟩
instance : TFld Try.prog 159 4 4 := ⟨by kernel_rfl⟩
instance : TFld Try.prog 159 5 5 := ⟨by kernel_rfl⟩
instance : TFld Try.prog 159 6 6 := ⟨by kernel_rfl⟩
instance : TFld Try.prog 159 7 7 := ⟨by kernel_rfl⟩
instance : TFld Try.prog 159 8 8 := ⟨by kernel_rfl⟩
instance : TFld Try.prog 159 9 9 := ⟨by kernel_rfl⟩
instance : TFld Try.prog 159 10 10 := ⟨by kernel_rfl⟩
instance : TAgg Try.prog 160 := ⟨by kernel_rfl⟩
instance : TSz Try.prog 160 11 := ⟨by kernel_rfl⟩
instance : TByt Try.prog 160 48 := ⟨by kernel_rfl⟩
instance : TZero Try.prog 160 (Value.agg #[(Value.int IntKind.u64 0), (Value.int IntKind.u64 0), (Value.int IntKind.u32 0), (Value.int IntKind.u8 0), (Value.int IntKind.u8 0), (Value.int IntKind.u8 0), (Value.int IntKind.u8 0), Value.nilFunc, (Value.pointer none), (Value.int IntKind.i32 0), (Value.int IntKind.i32 0)]) := ⟨by kernel_rfl⟩
instance : TEqG Try.prog 160 := ⟨by kernel_rfl⟩
instance : TStruct Try.prog 160 [(0, 1), (1, 1), (2, 1), (3, 1), (4, 1), (5, 1), (6, 1), (7, 1), (8, 1), (9, 1), (10, 1)] := ⟨by kernel_rfl⟩
instance : TFld Try.prog 160 0 0 := ⟨by kernel_rfl⟩
instance : TFld Try.prog 160 1 1 := ⟨by kernel_rfl⟩
instance : TFld Try.prog 160 2 2 := ⟨by kernel_rfl⟩
instance : TFld Try.prog 160 3 3 := ⟨by kernel_rfl⟩
instance : TFld Try.prog 160 4 4 := ⟨by kernel_rfl⟩
instance : TFld Try.prog 160 5 5 := ⟨by kernel_rfl⟩
instance : TFld Try.prog 160 6 6 := ⟨by kernel_rfl⟩
instance : TFld Try.prog 160 7 7 := ⟨by kernel_rfl⟩
instance : TFld Try.prog 160 8 8 := ⟨by kernel_rfl⟩
instance : TFld Try.prog 160 9 9 := ⟨by kernel_rfl⟩
instance : TFld Try.prog 160 10 10 := ⟨by kernel_rfl⟩
instance : TOne Try.prog 162 := ⟨by kernel_rfl⟩
instance : TSz Try.prog 162 1 := ⟨by kernel_rfl⟩
instance : TByt Try.prog 162 8 := ⟨by kernel_rfl⟩
instance : TZero Try.prog 162 (Value.pointer none) := ⟨by kernel_rfl⟩
instance : TOne Try.prog 163 := ⟨by kernel_rfl⟩
instance : TSz Try.prog 163 1 := ⟨by kernel_rfl⟩
instance : TByt Try.prog 163 16 := ⟨by kernel_rfl⟩
instance : TZero Try.prog 163 (Value.complex FloatKind.f64 0 0) := ⟨by kernel_rfl⟩
end Go.Proofs.Ytoobhebbgbhahaa
namespace Go.Proofs.Ytoobhebbgbhahaa
open Go.RowKit
theorem Imp.sub {H H2 : List Ent} (h : H2.Sublist H) : Imp H H2 := fun _ _ _ hw =>
  ⟨hw.below, hw.lt, List.Nodup.sublist (h.map _) hw.nodup, fun e he => hw.own e (h.subset he)⟩
theorem Take.app {e : Ent} : ∀ {R R' : List Ent} (X : List Ent), Take R e R' → Take (X ++ R) e (X ++ R')
  | _, _, [], h => h
  | _, _, _ :: X, h => .there (Take.app X h)
section
variable {c : Cx} {fr : Fr} {H : List Ent} {ops : Array Oper} {S : List Oper → Fr → List Ent → Prop} {rest : List Oper} {dst : Option Nat} {ty : TypeId} {pos : String} {after : Array Edge} {x y : Operand} {t u T U : TypeId}
theorem hl_loadRd [Stp c ops S] {E : List Ent} {bb off j : Nat} {l : List Value} {v : Value} [TOne c.P T] (hx : ev fr x = .pointer (some ⟨bb, off + j, none⟩)) (hr : Rds c.w0 c.B E (some ⟨bb, off, none⟩) l) (hi : Imp H E) (hv : l[j]? = some v) (hd : dOk c.n dst = true) (h : S rest (updO fr dst v) H) :
    S (⟨dst, .load T x, ty, pos, after, none⟩ :: rest) fr H :=
  hl_load1s (a := ⟨bb, off, none⟩) (j := j) (by rw [Addr.add_lit]; exact hx) (hr.weak fun w hw => hi _ _ _ hw) hv hd h
end
abbrev iV (n : Int) : Value := .int .i64 n
/-- A list of numbers that is read. -/
structure NumR (w0 : World) (B : Nat) (H : List Ent) (a : Option Addr) (len : Nat) (l : List Int) : Prop where
  eq : l.length = len
  pos : 0 < len → ∃ bb off, a = some ⟨bb, off, none⟩
  rd : Rds w0 B H a (l.map iV)
theorem NumR.imp {w0 : World} {B : Nat} {H H' : List Ent} {a : Option Addr} {len : Nat} {l : List Int} (h : NumR w0 B H a len l) (hi : Imp H' H) : NumR w0 B H' a len l := ⟨h.eq, h.pos, h.rd.weak fun w hw => hi _ _ _ hw⟩
theorem NumR.ent {w0 : World} {B : Nat} {H F : List Ent} {g i k n : Nat} {T : TypeId} {C : List Value} {l : List Int} (ht : Take H ⟨g, T, C, k⟩ F) (hC : (C.drop i).take n = l.map iV) (hn : l.length = n) : NumR w0 B H (some ⟨g, i, none⟩) n l :=
  ⟨hn, fun _ => ⟨_, _, rfl⟩, Rds.ent (c := ⟨Try.prog, 0, w0, B⟩) ht hC (fun u hu => by obtain ⟨x, _, rfl⟩ := List.mem_map.1 hu; rfl)⟩
/-- What is being written. -/
def Ou (g : Nat) (bs : List UInt8) (X : List Ent) : Prop := ∃ sv Xb, X = ⟨g, 74, [sv], 1⟩ :: Xb ∧ ∀ F, Own 5 1 sv bs.length (bs.map byteV) F (Xb ++ F)
theorem length_numsB_le : ∀ {l : List Int}, (∀ n ∈ l, I64 n) → (numsB l).length ≤ 10 * l.length
  | [], _ => Nat.le_refl _
  | n :: l, h => by
    have h1 := length_numsB_le (l := l) fun m hm => h m (by simp [hm])
    have h2 := length_numB_le (h n (by simp))
    rw [numsB_cons, List.length_append, List.length_cons]; omega
theorem numsB_take {l : List Int} {k : Nat} (h : k < l.length) : numsB (l.take (k + 1)) = numsB (l.take k) ++ numB l[k] := by
  rw [List.take_succ_eq_append_getElem h, numsB_append]
  simp [numsB]
section
variable {w0 : World} {B : Nat} {H R : List Ent} {g : Nat}
set_option maxHeartbeats 8000000
set_option maxRecDepth 100000
theorem onum_fn {bs : List UInt8} {X : List Ent} (hX : Ou g bs X) {a : Option Addr} {len cap : Nat} {L : List Int} (hL : NumR w0 B R a len L) (hI : ∀ n ∈ L, I64 n) (hb : bs.length + 10 * len ≤ 1000000000) :
    Fn Try.prog w0 B 25 [.pointer (some ⟨g, 0, none⟩), .slice a len cap] (X ++ R) (fun _ H' => ∃ X', Imp H' (X' ++ R) ∧ Ou g (bs ++ numsB L) X') := by
  have he := hL.eq
  refine fn_intro Try.func25 rfl (by kernel_rfl) rfl ?_
  repeat (first | refine go_ ?_ | refine bx_ (fun _ => ?_))
  refine hc_loopd (fun q fr M => ∃ k X, k + q = len ∧ Ou g (bs ++ numsB (L.take k)) X ∧ Imp M (X ++ R) ∧ Agr fr [(0, .pointer (some ⟨g, 0, none⟩)), (7, .slice a len cap), (8, .int .i64 (len : Int)), (9, .int .i64 (k : Int))]) len ?_ ?_
  · exact ⟨0, X, by omega, by simpa [numsB] using hX, Imp.refl _, rfl, rfl, rfl, rfl, trivial⟩
  clear hX X
  rintro q fr M ⟨k, X, hk, ⟨sv, Xb, rfl, ho⟩, hi, hf⟩
  obtain ⟨base, rfl⟩ := hf.out
  clear hf
  refine HC.imp ?_ hi
  obtain ⟨av, cv, rfl, _, _⟩ := (ho []).form
  by_cases hlt : k < len
  rotate_left
  · obtain rfl : len = k := by omega
    rw [show L.take len = L by rw [← he]; exact List.take_length] at ho ⊢
    repeat (first | refine go_ ?_ | refine bx_ (fun _ => ?_))
    exact fin0 rfl (H2 := (⟨g, 74, [.slice av (bs ++ numsB L).length cv], 1⟩ :: Xb) ++ R) ⟨_ :: Xb, Imp.refl _, _, Xb, rfl, ho⟩ (Imp.refl _)
  obtain ⟨bb, off, rfl⟩ := hL.pos (by omega)
  have hkL : k < L.length := by omega
  have hcell : (L.map iV)[k]? = some (.int .i64 L[k]) := by simp [hkL]
  have hn := hI _ (List.getElem_mem hkL)
  have hz := zz_u64 hn
  have hzl := zz_lt hn
  have hst := numsB_take hkL
  have hlen : (bs ++ numsB (L.take (k + 1))).length ≤ 1000000000 := by
    have := length_numsB_le (l := L.take (k + 1)) fun m hm => hI m (List.mem_of_mem_take hm)
    rw [List.length_take] at this
    rw [List.length_append]; omega
  generalize hv : L[k] = v at *
  repeat (first | refine hl_loadRd rfl hL.rd (Imp.drop (Imp.tail Xb _)) hcell rfl ?_ | refine go1_ ?_ | refine bx_ (fun _ => ?_))
  rw [hz]
  have htgt : (bs ++ numsB (L.take k)) ++ putU (zz v) = bs ++ numsB (L.take (k + 1)) := by rw [hst, List.append_assoc]; rfl
  obtain ⟨tgt, htgd⟩ : ∃ t, t = bs ++ numsB (L.take (k + 1)) := ⟨_, rfl⟩
  rw [← htgd] at htgt hlen
  generalize zz v = u0 at *
  refine hc_loopd (fun u fr M => ∃ bs1 X, bs1 ++ putU u = tgt ∧ Ou g bs1 X ∧ Imp M (X ++ R) ∧ Agr fr [(0, .pointer (some ⟨g, 0, none⟩)), (6, .int .u64 (u : Int)), (7, .slice (some ⟨bb, off, none⟩) len cap), (8, .int .i64 (len : Int)), (9, .int .i64 (k : Int))]) u0 ?_ ?_
  · exact ⟨_, _ :: Xb, htgt, ⟨_, Xb, rfl, ho⟩, Imp.refl _, rfl, rfl, rfl, rfl, rfl, trivial⟩
  clear base ho htgt hst hz hi
  rintro u fr M ⟨bs1, X, ht, ⟨sv, Xb, rfl, ho⟩, hi, hf⟩
  obtain ⟨base, rfl⟩ := hf.out
  clear hf
  refine HC.imp ?_ hi
  obtain ⟨av, cv, rfl, hc1, hc2⟩ := (ho []).form
  have htl := congrArg List.length ht
  have hpl := length_putU u
  rw [List.length_append] at htl
  by_cases hge : 128 ≤ u
  · repeat (first | rw [byteOr] | refine go1_ ?_ | refine bx_ (fun _ => ?_))
    rename_i gb
    refine hl_append_own rfl rfl (((ho R).under ⟨g, 74, [.slice av bs1.length cv], 1⟩).under ⟨gb, 5, [.int .u8 ((UInt8.ofNat (u % 128 + 128)).toNat : Int)], 1 * 1⟩) (Rds.ent (n := 1) (l := [.int .u8 ((UInt8.ofNat (u % 128 + 128)).toNat : Int)]) .here rfl (by simp [Value.oneCell'])) rfl rfl (by decide) (by omega) (by omega) rfl (fun v4 M4 o4 => ?_)
    obtain ⟨a4, c4, rfl, _, _⟩ := o4.form
    obtain ⟨Z, hZ, ho4⟩ := o4.permE
    refine HL.perm ?_ (hZ.trans (Take.app Z (.there .here)).perm)
    repeat (first | refine go_ ?_ | refine bx_ (fun _ => ?_))
    refine ⟨u / 128, by omega, _, Imp.refl _, bs1 ++ [UInt8.ofNat (u % 128 + 128)], ⟨g, 74, [.slice a4 (bs1.length + 1) c4], 1⟩ :: Z, ?_, ⟨_, Z, rfl, fun F => ?_⟩, ?_, rfl, Eq.trans (b := .int .u64 ((u : Int) / 2 ^ 7)) rfl (congrArg (Value.int .u64) (by omega)), rfl, rfl, rfl, trivial⟩
    · rw [List.append_assoc, ← ht, putU_ge (u := u) (by omega)]; rfl
    · rw [List.map_append, List.length_append]; exact ho4 F
    · exact Imp.sub (List.Sublist.cons_cons _ (List.Sublist.append (List.Sublist.refl _) (List.sublist_cons_self _ _)))
  · repeat (first | rw [byte_lt (show u < 128 by omega)] | refine go1_ ?_ | refine bx_ (fun _ => ?_))
    rename_i gb
    refine hl_append_own rfl rfl (((ho R).under ⟨g, 74, [.slice av bs1.length cv], 1⟩).under ⟨gb, 5, [.int .u8 ((UInt8.ofNat u).toNat : Int)], 1 * 1⟩) (Rds.ent (n := 1) (l := [.int .u8 ((UInt8.ofNat u).toNat : Int)]) .here rfl (by simp [Value.oneCell'])) rfl rfl (by decide) (by omega) (by omega) rfl (fun v4 M4 o4 => ?_)
    obtain ⟨a4, c4, rfl, _, _⟩ := o4.form
    obtain ⟨Z, hZ, ho4⟩ := o4.permE
    refine HL.perm ?_ (hZ.trans (Take.app Z (.there .here)).perm)
    repeat (first | refine go_ ?_ | refine bx_ (fun _ => ?_))
    refine ⟨q - 1, by omega, _, Imp.refl _, k + 1, ⟨g, 74, [.slice a4 (bs1.length + 1) c4], 1⟩ :: Z, by omega, ⟨_, Z, rfl, fun F => ?_⟩, ?_, rfl, rfl, rfl, rfl, trivial⟩
    · rw [← htgd, ← ht, putU_lt (u := u) (by omega), List.map_append, List.length_append]; exact ho4 F
    · exact Imp.sub (List.Sublist.cons_cons _ (List.Sublist.append (List.Sublist.refl _) (List.sublist_cons_self _ _)))
end
end Go.Proofs.Ytoobhebbgbhahaa
namespace Go.Proofs.Ytoobhebbgbhahaa
open Go.RowKit
abbrev ptV (p : Pt) : List Value := [.int .i64 p.x, .int .i64 p.y]
theorem flat_pt (l : List Pt) (i : Nat) (h : i < l.length) : ((l.flatMap ptV).drop (i * 2)).take 2 = ptV l[i] := by
  induction l generalizing i with
  | nil => simp at h
  | cons x l ih =>
    cases i with
    | zero => simp
    | succ i =>
      rw [List.flatMap_cons, List.drop_append, show (i + 1) * 2 - (ptV x).length = i * 2 by simp; omega, List.drop_of_length_le (by simp; omega)]
      simpa using ih i (by simpa using h)
theorem length_pts (l : List Pt) : (l.flatMap ptV).length = l.length * 2 := by
  induction l with
  | nil => rfl
  | cons x l ih => rw [List.flatMap_cons, List.length_append, ih, List.length_cons]; simp; omega
theorem one_pts (l : List Pt) : ∀ u ∈ l.flatMap ptV, u.oneCell' = true := by
  intro u hu
  obtain ⟨p, _, h⟩ := List.mem_flatMap.1 hu
  simp only [ptV, List.mem_cons, List.not_mem_nil, or_false] at h
  rcases h with rfl | rfl <;> rfl
/-- A list of points that is read here. -/
structure PtR (w0 : World) (B : Nat) (H : List Ent) (a : Option Addr) (len : Nat) (l : List Pt) : Prop where
  eq : l.length = len
  pos : 0 < len → ∃ bb off, a = some ⟨bb, off, none⟩
  rd : Rds w0 B H a (l.flatMap ptV)
theorem PtR.imp {w0 : World} {B : Nat} {H H' : List Ent} {a : Option Addr} {len : Nat} {l : List Pt} (h : PtR w0 B H a len l) (hi : Imp H' H) : PtR w0 B H' a len l := ⟨h.eq, h.pos, h.rd.weak fun w hw => hi _ _ _ hw⟩
theorem PtR.part {w0 : World} {B : Nat} {H : List Ent} {a : Option Addr} {len : Nat} {l : List Pt} (h : PtR w0 B H a len l) {k : Nat} (hk : k < len) : ∃ x y, ∃ hl : k < l.length, l[k] = ⟨x, y⟩ ∧ ((l.flatMap ptV).drop (k * 2)).take 2 = [.int .i64 x, .int .i64 y] := by
  have hl : k < l.length := by rw [h.eq]; exact hk
  exact ⟨l[k].x, l[k].y, hl, rfl, flat_pt l k hl⟩
section
variable {c : Cx} {Q : Pst} {fr : Fr} {H F : List Ent} {ops : Array Oper} {rest : List Oper} {dst : Option Nat} {ty : TypeId} {pos : String} {after : Array Edge}
variable {x : Operand} {T : TypeId} {S : List Oper → Fr → List Ent → Prop}
/-- A struct out of what is known to lie there. -/
theorem hl_loadRN [Stp c ops S] {E : List Ent} {l vs : List Value} {bb off j n : Nat} [TAgg c.P T] [TSz c.P T n] (hx : ev fr x = .pointer (some ⟨bb, off + j, none⟩)) (hr : Rds c.w0 c.B E (some ⟨bb, off, none⟩) l) (hi : Imp H E) (hv : (l.drop j).take n = vs) (hn : vs.length = n) (hd : dOk c.n dst = true)
    (h : S rest (updO fr dst (.agg vs.toArray)) H) : S (⟨dst, .load T x, ty, pos, after, none⟩ :: rest) fr H :=
  hl_pure hd _ (fun w hw => by
    have hc := run_loadCells_list (P := c.P) w ⟨bb, off + j, none⟩ vs (fun i v hi2 => by
      rw [Addr.add_lit]
      rw [← hv, List.getElem?_take] at hi2
      split at hi2
      · rw [List.getElem?_drop] at hi2
        have := hr.cell w (hi _ _ _ hw) _ rfl (j + i) v hi2
        rw [Addr.add_lit] at this
        rw [← this, Nat.add_assoc]
      · cases hi2)
    rw [hn] at hc
    simp [execOp, hx, Instr.loadAt, Instr.sureAddr, loadVar, isAgg_agg (T := T), sizeOf_sz (T := T) (n := n), hc]) h
end
theorem PtR.at' {w0 : World} {B : Nat} {H : List Ent} {a : Option Addr} {len : Nat} {l : List Pt} (h : PtR w0 B H a len l) {k : Nat} (hk : k < len) : ∃ hl : k < l.length, ((l.flatMap ptV).drop (k * 2)).take 2 = [.int .i64 l[k].x, .int .i64 l[k].y] := by
  have hl : k < l.length := by rw [h.eq]; exact hk
  exact ⟨hl, flat_pt l k hl⟩
/-- An edit's cells: ten numbers, two lists, six numbers, a list. -/
abbrev edC (f m : Nat → Int) (pv sv qv : Value) : List Value := [.int .i64 (f 0), .int .i64 (f 1), .int .i64 (f 2), .int .i64 (f 3), .int .i64 (f 4), .int .i64 (f 5), .int .i64 (f 6), .int .i64 (f 7), .int .i64 (f 8), .int .i64 (f 9), pv, sv, .int .i64 (m 0), .int .i64 (m 1), .int .i64 (m 2), .int .i64 (m 3), .int .i64 (m 4), .int .i64 (m 5), qv]
abbrev f10 (f : Nat → Int) : List Int := [f 0, f 1, f 2, f 3, f 4, f 5, f 6, f 7, f 8, f 9]
abbrev f6 (m : Nat → Int) : List Int := [m 0, m 1, m 2, m 3, m 4, m 5]
theorem length_lstB_le {l : List Int} (h : ∀ n ∈ l, I64 n) (hl : l.length ≤ 1000000) : (lstB l).length ≤ 10 + 10 * l.length := by
  have h1 := length_numsB_le h
  have h2 := length_numB_le (n := (l.length : Int)) ⟨by omega, by omega⟩
  unfold lstB
  rw [List.length_append]; omega
theorem length_ptsB_le : ∀ {l : List Pt}, (∀ p ∈ l, I64 p.x ∧ I64 p.y) → (ptsB l).length ≤ 20 * l.length
  | [], _ => Nat.le_refl _
  | p :: l, h => by
    have h1 := length_ptsB_le (l := l) fun m hm => h m (by simp [hm])
    have h2 := length_numB_le (h p (by simp)).1
    have h3 := length_numB_le (h p (by simp)).2
    unfold ptsB at *
    rw [List.flatMap_cons, List.length_append, List.length_append, List.length_cons]; omega
theorem ptsB_take {l : List Pt} {k : Nat} (h : k < l.length) : ptsB (l.take (k + 1)) = ptsB (l.take k) ++ numsB [l[k].x, l[k].y] := by
  rw [List.take_succ_eq_append_getElem h]
  unfold ptsB numsB
  rw [List.flatMap_append]
  congr 1
  simp
section
variable {w0 : World} {B : Nat} {H R : List Ent} {g : Nat}
set_option maxHeartbeats 8000000
set_option maxRecDepth 100000
theorem onums_fn {bs : List UInt8} {X : List Ent} (hX : Ou g bs X) {a : Option Addr} {len cap : Nat} {L : List Int} (hL : NumR w0 B R a len L) (hI : ∀ n ∈ L, I64 n) (hlen : len ≤ 1000000) (hb : bs.length ≤ 500000000) :
    Fn Try.prog w0 B 26 [.pointer (some ⟨g, 0, none⟩), .slice a len cap] (X ++ R) (fun _ H' => ∃ X', Imp H' (X' ++ R) ∧ Ou g (bs ++ lstB L) X') := by
  have he := hL.eq
  refine fn_intro Try.func26 rfl (by kernel_rfl) rfl ?_
  repeat (first | refine go_ ?_ | refine bx_ (fun _ => ?_))
  rename_i gb
  refine HL.perm ?_ (Take.app X (.here (e := ⟨gb, 3, [.int .i64 (len : Int)], 1 * 1⟩) (H := R))).perm.symm
  refine hl_call rfl rfl (onum_fn (cap := 1) (len := 1) (L := [(len : Int)]) hX (NumR.ent (i := 0) (n := 1) .here rfl rfl) (fun n hn => by rw [List.mem_singleton.1 hn]; exact ⟨by omega, by omega⟩) (by omega)) (fun v M o => ?_)
  obtain ⟨X1, hi1, hX1⟩ := o
  refine HL.imp ?_ (hi1.trans (Imp.sub (List.Sublist.append (List.Sublist.refl _) (List.sublist_cons_self _ _))))
  repeat (first | refine go_ ?_ | refine bx_ (fun _ => ?_))
  have h1 : (numsB [(len : Int)]).length ≤ 10 * 1 := length_numsB_le (l := [(len : Int)]) (fun n hn => by rw [List.mem_singleton.1 hn]; exact ⟨by omega, by omega⟩)
  refine hl_call rfl rfl (onum_fn hX1 hL hI (by rw [List.length_append]; omega)) (fun v M o => ?_)
  obtain ⟨X2, hi2, hX2⟩ := o
  repeat (first | refine go_ ?_ | refine bx_ (fun _ => ?_))
  refine fin0 rfl ⟨X2, hi2, ?_⟩ (Imp.refl _)
  have e : bs ++ lstB L = bs ++ numsB [(len : Int)] ++ numsB L := by
    unfold lstB
    rw [he, List.append_assoc]
    simp [numsB]
  rw [e]; exact hX2
theorem putEdit_fn {f m : Nat → Int} {pa sa qa : Option Addr} {pn pc sn sc qn qc : Nat} {P Q : List Int} {S : List Pt} (hP : NumR w0 B H pa pn P) (hS : PtR w0 B H sa sn S) (hQ : NumR w0 B H qa qn Q) (hw : Ed.wf ⟨f10 f, P, S, f6 m, Q⟩) :
    Fn Try.prog w0 B 10 [.agg (edC f m (.slice pa pn pc) (.slice sa sn sc) (.slice qa qn qc)).toArray] H (fun v H' => Own 5 1 v (Ed.put ⟨f10 f, P, S, f6 m, Q⟩).length ((Ed.put ⟨f10 f, P, S, f6 m, Q⟩).map byteV) H H') := by
  have eP := hP.eq
  have eS := hS.eq
  have eQ := hQ.eq
  obtain ⟨wf1, wP, wS, wm, wQ, _, _, lP, lS, lQ⟩ := hw
  dsimp only at wf1 wP wS wm wQ lP lS lQ
  refine fn_intro Try.func10 rfl (by kernel_rfl) rfl ?_
  repeat (first | refine go_ ?_ | refine bx_ (fun _ => ?_))
  rename_i gE g gb
  obtain ⟨eb, heb⟩ : ∃ eb : Ent, eb = ⟨gE, 27, edC f m (.slice pa pn pc) (.slice sa sn sc) (.slice qa qn qc), 19⟩ := ⟨_, rfl⟩
  have tx : ∀ (Y T : List Ent), Take (Y ++ (eb :: T)) ⟨gE, 27, edC f m (.slice pa pn pc) (.slice sa sn sc) (.slice qa qn qc), 19⟩ (Y ++ T) := fun Y T => by rw [heb]; exact Take.app Y .here
  refine HL.perm (H' := [⟨g, 74, [.slice none 0 0], 1⟩] ++ (⟨gb, 3, (f10 f).map iV, 10⟩ :: (eb :: H))) ?_ (by rw [heb]; exact List.Perm.swap _ _ _)
  have hX0 : Ou g [] [⟨g, 74, [.slice none 0 0], 1⟩] := ⟨_, [], rfl, fun F => Own.nil⟩
  have b0 := length_numsB_le wf1
  have b1 := length_lstB_le wP lP
  have b4 := length_numsB_le wm
  simp only [List.length_cons, List.length_nil] at b0 b4
  refine hl_call rfl rfl (onum_fn (cap := 10) (len := 10) (L := f10 f) hX0 (NumR.ent (i := 0) (n := 10) .here rfl rfl) wf1 (by simp)) (fun v M o => ?_)
  obtain ⟨X1, hi1, hX1⟩ := o
  rw [List.nil_append] at hX1
  refine HL.imp ?_ (hi1.trans (Imp.sub (List.Sublist.append (List.Sublist.refl _) (List.sublist_cons_self _ _))))
  repeat (first | refine hl_load1 rfl (tx _ _) rfl rfl ?_ | refine go1_ ?_ | refine bx_ (fun _ => ?_))
  refine hl_call rfl rfl (onums_fn hX1 (hP.imp (Imp.drop (Imp.refl _))) wP (by omega) (by omega)) (fun v M o => ?_)
  obtain ⟨X2, hi2, hX2⟩ := o
  refine HL.imp ?_ hi2
  repeat (first | refine hl_load1 rfl (tx _ _) rfl rfl ?_ | refine go1_ ?_ | refine bx_ (fun _ => ?_))
  rename_i gs
  refine HL.perm ?_ (Take.app X2 (.here (e := ⟨gs, 3, [.int .i64 (sn : Int)], 1 * 1⟩) (H := eb :: H))).perm.symm
  have w3 : ∀ n ∈ [(sn : Int)], I64 n := fun n hn => by rw [List.mem_singleton.1 hn]; exact ⟨by omega, by omega⟩
  refine hl_call rfl rfl (onum_fn (cap := 1) (len := 1) (L := [(sn : Int)]) hX2 (NumR.ent (i := 0) (n := 1) .here rfl rfl) w3 (by rw [List.length_append]; omega)) (fun v M o => ?_)
  obtain ⟨X3, hi3, hX3⟩ := o
  refine HL.imp ?_ (hi3.trans (Imp.sub (List.Sublist.append (List.Sublist.refl _) (List.sublist_cons_self _ _))))
  have b2 := length_numsB_le w3
  simp only [List.length_cons, List.length_nil] at b2
  obtain ⟨b3, hb3⟩ : ∃ b3, b3 = numsB (f10 f) ++ lstB P ++ numsB [(sn : Int)] := ⟨_, rfl⟩
  have l3 : b3.length ≤ 100 + (10 + 10 * P.length) + 10 := by rw [hb3, List.length_append, List.length_append]; omega
  rw [← hb3] at hX3
  repeat (first | refine hl_load1 rfl (tx _ _) rfl rfl ?_ | refine go1_ ?_ | refine bx_ (fun _ => ?_))
  refine hc_loopd (fun q fr M => ∃ k X, k + q = sn ∧ Ou g (b3 ++ ptsB (S.take k)) X ∧ Imp M (X ++ (eb :: H)) ∧ Agr fr [(1, .pointer (some ⟨gE, 0, none⟩)), (3, .pointer (some ⟨g, 0, none⟩)), (42, .slice sa sn sc), (43, .int .i64 (sn : Int)), (44, .int .i64 (k : Int))]) sn ?_ ?_
  · exact ⟨0, X3, by omega, by simpa [ptsB] using hX3, Imp.refl _, rfl, rfl, rfl, rfl, rfl, trivial⟩
  clear hX0 hX1 hX2 hX3 hi1 hi2 hi3
  rintro q fr M ⟨k, X, hk, hX, hi, hf⟩
  obtain ⟨base, rfl⟩ := hf.out
  clear hf
  refine HC.imp ?_ hi
  have l4 := length_ptsB_le (l := S.take k) fun p hp => wS p (List.mem_of_mem_take hp)
  rw [List.length_take] at l4
  have l4b : 20 * min k S.length ≤ 20 * sn := Nat.mul_le_mul_left _ (by omega)
  by_cases hlt : k < sn
  · obtain ⟨bb, off, rfl⟩ := hS.pos (by omega)
    obtain ⟨hkS, hcell⟩ := hS.at' hlt
    have hst := ptsB_take hkS
    have hwp := wS _ (List.getElem_mem hkS)
    generalize hpp : S[k] = p at *
    repeat (first | refine hl_loadRN (l := S.flatMap ptV) rfl hS.rd ((Imp.tail X _).trans (Imp.drop (Imp.refl _))) hcell rfl rfl ?_ | refine go1_ ?_ | refine bx_ (fun _ => ?_))
    rename_i gp gb2
    refine HL.perm (H' := X ++ (⟨gb2, 3, [.int .i64 p.x, .int .i64 p.y], 2 * 1⟩ :: (⟨gp, 78, [.int .i64 p.x, .int .i64 p.y], 2⟩ :: (eb :: H)))) ?_ (app_swap [⟨gb2, 3, [.int .i64 p.x, .int .i64 p.y], 2 * 1⟩, ⟨gp, 78, [.int .i64 p.x, .int .i64 p.y], 2⟩] X (eb :: H))
    refine hl_call rfl rfl (onum_fn (cap := 2) (len := 2) (L := [p.x, p.y]) hX (NumR.ent (i := 0) (n := 2) .here rfl rfl) (fun n hn => by
      simp only [List.mem_cons, List.not_mem_nil, or_false] at hn
      rcases hn with rfl | rfl
      · exact hwp.1
      · exact hwp.2) (by rw [List.length_append]; omega)) (fun v M o => ?_)
    obtain ⟨X4, hi4, hX4⟩ := o
    refine HL.imp ?_ (hi4.trans (Imp.sub (List.Sublist.append (List.Sublist.refl _) ((List.sublist_cons_self _ _).trans (List.sublist_cons_self _ _)))))
    rw [List.append_assoc, ← hst] at hX4
    repeat (first | refine go_ ?_ | refine bx_ (fun _ => ?_))
    exact ⟨q - 1, by omega, _, Imp.refl _, k + 1, X4, by omega, hX4, Imp.refl _, rfl, rfl, rfl, rfl, rfl, trivial⟩
  · obtain rfl : sn = k := by omega
    rw [show S.take sn = S by rw [← eS]; exact List.take_length] at hX l4
    repeat (first | refine go_ ?_ | refine bx_ (fun _ => ?_) | refine hl_sliceArr (i := 0) (j := 6) (ki := .i64) (kj := .i64) rfl rfl rfl (by decide) (by decide) rfl (fun off' ho => ?_))
    obtain rfl : off' = 12 := by simpa using ho (by decide)
    refine hl_call rfl rfl (onum_fn (cap := 6) (len := 6) (L := f6 m) hX (NumR.ent (i := 12) (n := 6) (H := eb :: H) (F := H) (by rw [heb]; exact .here) rfl rfl) wm (by rw [List.length_append]; omega)) (fun v M o => ?_)
    obtain ⟨X4, hi4, hX4⟩ := o
    refine HL.imp ?_ hi4
    repeat (first | refine hl_load1 rfl (tx _ _) rfl rfl ?_ | refine go1_ ?_ | refine bx_ (fun _ => ?_))
    refine hl_call rfl rfl (onums_fn hX4 (hQ.imp (Imp.drop (Imp.refl _))) wQ (by omega) (by rw [List.length_append, List.length_append]; omega)) (fun v M o => ?_)
    obtain ⟨X5, hi5, sv, Xb, rfl, ho5⟩ := o
    refine HL.imp ?_ hi5
    obtain ⟨a5, c5, rfl, _, _⟩ := (ho5 []).form
    have e5 : b3 ++ ptsB S ++ numsB (f6 m) ++ lstB Q = Ed.put ⟨f10 f, P, S, f6 m, Q⟩ := by
      rw [hb3]
      unfold Ed.put
      dsimp only
      rw [eS]
      simp [numsB]
    rw [e5] at ho5 ⊢
    repeat (first | refine go_ ?_ | refine bx_ (fun _ => ?_))
    exact fin1S rfl rfl (ho5 H) (Imp.drop (Imp.sub (List.Sublist.append (List.Sublist.refl _) (List.sublist_cons_self _ _))))
end
end Go.Proofs.Ytoobhebbgbhahaa
namespace Go.Proofs.Ytoobhebbgbhahaa
open Go.RowKit
/-- Bytes that are read, wherever they lie. -/
structure BytR (w0 : World) (B : Nat) (H : List Ent) (a : Option Addr) (len cap : Nat) (l : List UInt8) : Prop where
  eq : l.length = len
  le : len ≤ cap
  small : cap ≤ 9223372036854775807
  nil : a = none → cap = 0
  pos : 0 < len → ∃ bb off, a = some ⟨bb, off, none⟩
  rd : Rds w0 B H a (l.map byteV)
section
variable {w0 : World} {B : Nat} {H H' : List Ent} {a : Option Addr} {len cap : Nat} {l : List UInt8}
theorem BytR.imp (h : BytR w0 B H a len cap l) (hi : Imp H' H) : BytR w0 B H' a len cap l := ⟨h.eq, h.le, h.small, h.nil, h.pos, h.rd.weak fun w hw => hi _ _ _ hw⟩
theorem BytR.zero : BytR w0 B H none 0 0 [] := ⟨rfl, Nat.le_refl _, by decide, fun _ => rfl, fun h => absurd h (by omega), by simp, fun _ => rfl, by simp⟩
theorem BytR.of (hB : w0.heap.size ≤ B) (h : Sl byteV w0 a len cap l) : BytR w0 B H a len cap l :=
  ⟨h.size_eq, h.le, h.small, h.nil, fun h0 => by obtain ⟨b, off, hb, _⟩ := h.row 0 (by rw [h.size_eq]; exact h0); exact ⟨b, off, hb⟩, Rds.sl (c := ⟨Try.prog, 0, w0, B⟩) h hB (fun y => rfl)⟩
theorem BytR.own {e n : Nat} {F : List Ent} (o : Own e 1 (.slice a n cap) n (l.map byteV) F H) : BytR w0 B H a n cap l := by
  have h1 := o.len
  rw [List.length_map, Nat.mul_one] at h1
  obtain ⟨_, _, e1, h2, h3⟩ := o.form
  cases e1
  refine ⟨h1, h2, h3, ?_, fun h => by obtain ⟨g, c, e, _⟩ := o.posn h; cases e; exact ⟨_, _, rfl⟩, o.rds (c := ⟨Try.prog, 0, w0, B⟩) (fun u hu => by obtain ⟨x, _, rfl⟩ := List.mem_map.1 hu; rfl)⟩
  intro hn
  rcases o with ⟨h1, _⟩ | ⟨g, cap, h1, _⟩
  · cases h1; rfl
  · cases h1; cases hn
theorem BytR.cell (h : BytR w0 B H a len cap l) {k : Nat} (hk : k < l.length) : (l.map byteV)[k]? = some (.int .u8 ((l[k].toNat : Nat) : Int)) := by simp [hk, byteV]
end
section
variable {c : Cx} {Q : Pst} {fr : Fr} {H F : List Ent} {ops : Array Oper} {S : List Oper → Fr → List Ent → Prop} {rest : List Oper} {dst : Option Nat} {ty : TypeId} {pos : String} {after : Array Edge} {x y : Operand} {t u T U e : TypeId}
/-- 's[i:j]' of bytes that are read. -/
theorem hl_sliceBy [hS : Stp c ops S] {E : List Ent} {a : Option Addr} {len cap i j : Nat} {l : List UInt8} {lo hi : Option Operand} {ki kj : IntKind} [hT : TSlc c.P T e] [TSz c.P e 1] (hx : ev fr x = .slice a len cap) (hb : BytR c.w0 c.B E a len cap l) (hE : Imp H E)
    (hlo : match lo with | some o => ev fr o = .int ki (i : Int) | none => i = 0) (hhi : match hi with | some o => ev fr o = .int kj (j : Int) | none => j = len) (hij : i ≤ j) (hj : j ≤ len) (hd : dOk c.n dst = true)
    (h : ∀ a', BytR c.w0 c.B E a' (j - i) (cap - i) ((l.drop i).take (j - i)) → S rest (updO fr dst (.slice a' (j - i) (cap - i))) H) :
    S (⟨dst, .slice T x lo hi none, ty, pos, after, none⟩ :: rest) fr H := by
  have heq := hb.eq
  have hle := hb.le
  have hsm := hb.small
  have hlen : ((l.drop i).take (j - i)).length = j - i := by rw [List.length_take, List.length_drop]; omega
  by_cases h0 : 0 < len
  · obtain ⟨bb, off, rfl⟩ := hb.pos h0
    refine hl_slice hx hlo hhi hij (by omega) hd fun off' ho => h _ ⟨hlen, by omega, by omega, fun h => (by cases h), fun _ => ⟨_, _, rfl⟩, ?_⟩
    rw [List.map_take, List.map_drop]
    by_cases hic : i < cap
    · rw [ho hic, Nat.mul_one]
      refine ⟨fun w hw ad ha k v hv => ?_, fun h => (by cases h), fun v hv => hb.rd.one v (List.mem_of_mem_drop (List.mem_of_mem_take hv))⟩
      cases ha
      rw [List.getElem?_take] at hv
      split at hv
      · rw [List.getElem?_drop] at hv
        have := hb.rd.cell w hw _ rfl (i + k) v hv
        rw [Addr.add_lit] at this ⊢
        rw [← this, Nat.add_assoc]
      · cases hv
    · rw [show j - i = 0 by omega, List.take_zero]
      exact ⟨fun _ _ _ _ j u hu => by simp at hu, fun h => (by cases h), fun _ h => by cases h⟩
  · have hr : Rds c.w0 c.B H a (l.map byteV) := hb.rd.weak fun w hw => hE _ _ _ hw
    refine hl_sliceR hx hr (by simpa using heq) hle hb.nil hlo hhi hij hj hd fun a' h1 h2 => h a' ⟨hlen, by omega, by omega, h2, fun h => absurd h (by omega), ?_⟩
    rw [List.map_take, List.map_drop, show j - i = 0 by omega, List.take_zero]
    exact ⟨fun _ _ _ _ j u hu => by simp at hu, fun _ => rfl, fun _ h => by cases h⟩
end
theorem BytR.drop {w0 : World} {B : Nat} {H : List Ent} {bb off len cap : Nat} {l : List UInt8} (h : BytR w0 B H (some ⟨bb, off, none⟩) len cap l) (i n : Nat) (hi : i + n ≤ len) : BytR w0 B H (some ⟨bb, off + i, none⟩) n (cap - i) ((l.drop i).take n) := by
  have he := h.eq
  have hle := h.le
  have hs := h.small
  refine ⟨by rw [List.length_take, List.length_drop]; omega, by omega, by omega, fun h => (by cases h), fun _ => ⟨_, _, rfl⟩, ?_⟩
  rw [List.map_take, List.map_drop]
  refine ⟨fun w hw ad ha k v hv => ?_, fun h => (by cases h), fun v hv => h.rd.one v (List.mem_of_mem_drop (List.mem_of_mem_take hv))⟩
  cases ha
  rw [List.getElem?_take] at hv
  split at hv
  · rw [List.getElem?_drop] at hv
    have := h.rd.cell w hw _ rfl (i + k) v hv
    rw [Addr.add_lit] at this ⊢
    rw [← this, Nat.add_assoc]
  · cases hv
/-! Numbers in bytes -/
def be4 (n : Nat) : List UInt8 := [UInt8.ofNat (n / 2 ^ 24), UInt8.ofNat (n / 2 ^ 16), UInt8.ofNat (n / 2 ^ 8), UInt8.ofNat n]
def num4 (l : List UInt8) : Nat := (((l.getD 0 0).toNat * 256 + (l.getD 1 0).toNat) * 256 + (l.getD 2 0).toNat) * 256 + (l.getD 3 0).toNat

abbrev InB (g : Nat) (a : Option Addr) (n c e : Nat) : Ent := ⟨g, 81, [.slice a n c, .int .i64 (e : Int)], 2⟩
theorem and1u {u : Nat} (h : u < 18446744073709551616) : bits .and .u64 (u : Int) 1 = ((u % 2 : Nat) : Int) := by
  rw [show (1 : Int) = ((1 : Nat) : Int) from rfl, and64u u 1 h (by decide), Nat.and_one_is_mod]
theorem unzz_x {u : Nat} (h : u < 18446744073709551616) : bits .xor .i64 ((u : Int) / 2 ^ 1) (-((u % 2 : Nat) : Int)) = unzz u := by
  rw [← and1u h]; exact unzz_i64 h
section
variable {w0 : World} {B : Nat} {H R R0 : List Ent} {g : Nat}
set_option maxHeartbeats 8000000
set_option maxRecDepth 100000
theorem ifail_fn {a : Option Addr} {n c e k : Nat} : Fn Try.prog w0 B 48 [.pointer (some ⟨g, 0, none⟩), .int .i64 (k : Int)] (InB g a n c e :: R) (fun v H' => v = .tuple #[] ∧ H' = InB g a n c (if e = 0 then k else e) :: R) := by
  refine fn_intro Try.func48 rfl (by kernel_rfl) rfl ?_
  by_cases h : e = 0
  · subst h
    repeat (first | refine go_ ?_ | refine bx_ (fun _ => ?_))
    exact fin0 rfl ⟨rfl, rfl⟩
  · rw [if_neg h]
    repeat (first | refine go_ ?_ | refine bx_ (fun _ => ?_))
    exact fin0 rfl ⟨rfl, rfl⟩
theorem inum_fn {a : Option Addr} {n c e : Nat} {l : List UInt8} (hb : BytR w0 B R0 a n c l) (hi : Imp R R0) :
    Fn Try.prog w0 B 27 [.pointer (some ⟨g, 0, none⟩)] (InB g a n c e :: R) (fun v H' => ∃ a' n' c', v = .int .i64 (Rd.num ⟨l, e⟩).1 ∧ H' = InB g a' n' c' (Rd.num ⟨l, e⟩).2.e :: R ∧ BytR w0 B R0 a' n' c' (Rd.num ⟨l, e⟩).2.l) := by
  refine fn_intro Try.func27 rfl (by kernel_rfl) rfl ?_
  by_cases h : e = 0
  rotate_left
  · rw [show Rd.num ⟨l, e⟩ = (0, ⟨l, e⟩) by rw [Rd.num, if_pos h]]
    repeat (first | refine go_ ?_ | refine bx_ (fun _ => ?_))
    refine hc_loopd (fun q fr M => Agr fr [(0, .pointer (some ⟨g, 0, none⟩))] ∧ M = InB g a n c e :: R) 0 ?_ ?_
    · exact ⟨⟨rfl, trivial⟩, rfl⟩
    rintro q fr M ⟨hf, rfl⟩
    obtain ⟨base, rfl⟩ := hf.out
    repeat (first | refine go_ ?_ | refine bx_ (fun _ => ?_))
    exact fin1I rfl rfl ⟨a, n, c, rfl, rfl, hb⟩
  subst h
  obtain ⟨G, hG⟩ : ∃ G, G = getU 0 0 l := ⟨_, rfl⟩
  have hnum : Rd.num ⟨l, 0⟩ = (if G.2.2 = 0 then unzz G.1 else 0, ⟨G.2.1, G.2.2⟩) := by rw [Rd.num, if_neg (by simp), hG]
  rw [hnum]
  repeat (first | refine go_ ?_ | refine bx_ (fun _ => ?_))
  refine hc_loopd (fun q fr M => ∃ k u a n c l, k + q = 10 ∧ k ≤ 9 ∧ getU k u l = G ∧ u < 2 ^ (7 * k) ∧ BytR w0 B R0 a n c l ∧ M = InB g a n c 0 :: R ∧ Agr fr [(0, .pointer (some ⟨g, 0, none⟩)), (3, .int .u64 (u : Int)), (4, .int .i64 (k : Int))]) 10 ?_ ?_
  · exact ⟨0, 0, a, n, c, l, by omega, by omega, hG.symm, by simp, hb, rfl, rfl, rfl, rfl, trivial⟩
  clear hb hnum hG l a n c
  rintro q fr M ⟨k, u, a, n, c, l, hk, hk9, hG, hu, hb, rfl, hf⟩
  obtain ⟨base, rfl⟩ := hf.out
  clear hf
  have hn := hb.eq
  have hle := hb.le
  have hsm := hb.small
  cases l with
  | nil =>
    simp only [List.length_nil] at hn
    rw [getU] at hG
    subst hG
    repeat (first | refine go_ ?_ | refine bx_ (fun _ => ?_))
    refine hl_call rfl rfl (ifail_fn (k := 20)) (fun v M hv => ?_)
    obtain ⟨rfl, rfl⟩ := hv
    rw [if_pos rfl]
    repeat (first | refine go_ ?_ | refine bx_ (fun _ => ?_))
    exact fin1I rfl rfl ⟨a, n, c, rfl, rfl, hb⟩
  | cons x l =>
    simp only [List.length_cons] at hn
    obtain ⟨bb, off, rfl⟩ := hb.pos (by omega)
    have hcell : ((x :: l).map byteV)[0]? = some (.int .u8 (x.toNat : Int)) := rfl
    repeat (first | refine hl_loadRd (j := 0) rfl hb.rd ((Imp.drop (Imp.refl _)).trans hi) hcell rfl ?_ | refine go1_ ?_ | refine bx_ (fun _ => ?_))
    refine hl_sliceBy (i := 1) (j := n) (ki := .i64) (kj := .i64) rfl hb ((Imp.drop (Imp.refl _)).trans hi) rfl rfl (by omega) (by omega) rfl (fun a' hb' => ?_)
    rw [show ((x :: l).drop 1).take (n - 1) = l by rw [List.drop_succ_cons, List.drop_zero]; exact List.take_of_length_le (by omega)] at hb'
    repeat (first | refine op_ ?_ | refine bx_ (fun _ => ?_))
    refine hc_seq ?_
    refine hc_seq ?_
    have hx := x.toNat_lt
    obtain ⟨M1, hM1⟩ : ∃ M1, M1 = InB g a' (n - 1) (c - 1) 0 :: R := ⟨_, rfl⟩
    refine HC.perm (H' := M1) ?_ (by rw [hM1]; exact List.Perm.refl _)
    refine hc_meet (fun fr M => Agr fr [(0, .pointer (some ⟨g, 0, none⟩)), (3, .int .u64 (u : Int)), (4, .int .i64 (k : Int)), (5, .int .u8 (x.toNat : Int)), (48, .bool (decide ((k = 9 ∧ 1 < x.toNat) ∨ (0 < k ∧ x.toNat = 0))))] ∧ M = M1) ?_ ?_
    · by_cases h9 : k = 9
      · by_cases h1 : 1 < x.toNat
        · rw [decide_eq_true (.inl ⟨h9, h1⟩)]
          repeat (first | refine go_ ?_ | refine bx_ (fun _ => ?_))
          exact ⟨⟨rfl, rfl, rfl, rfl, rfl, trivial⟩, rfl⟩
        · by_cases h0 : x.toNat = 0
          · rw [decide_eq_true (.inr ⟨by omega, h0⟩)]
            repeat (first | refine go_ ?_ | refine bx_ (fun _ => ?_))
            exact ⟨⟨rfl, rfl, rfl, rfl, rfl, trivial⟩, rfl⟩
          · rw [decide_eq_false (by omega)]
            repeat (first | refine go_ ?_ | refine bx_ (fun _ => ?_))
            exact ⟨⟨rfl, rfl, rfl, rfl, rfl, trivial⟩, rfl⟩
      · by_cases hk0 : 0 < k
        · by_cases h0 : x.toNat = 0
          · rw [decide_eq_true (.inr ⟨by omega, h0⟩)]
            repeat (first | refine go_ ?_ | refine bx_ (fun _ => ?_))
            exact ⟨⟨rfl, rfl, rfl, rfl, rfl, trivial⟩, rfl⟩
          · rw [decide_eq_false (by omega)]
            repeat (first | refine go_ ?_ | refine bx_ (fun _ => ?_))
            exact ⟨⟨rfl, rfl, rfl, rfl, rfl, trivial⟩, rfl⟩
        · rw [decide_eq_false (by omega)]
          repeat (first | refine go_ ?_ | refine bx_ (fun _ => ?_))
          exact ⟨⟨rfl, rfl, rfl, rfl, rfl, trivial⟩, rfl⟩
    clear base
    rintro fr M ⟨hf, rfl⟩
    obtain ⟨base, rfl⟩ := hf.out
    clear hf
    rw [hM1]
    by_cases hbad : (k = 9 ∧ 1 < x.toNat) ∨ (0 < k ∧ x.toNat = 0)
    · rw [decide_eq_true hbad]
      rw [getU, if_pos hbad] at hG
      subst hG
      repeat (first | refine go_ ?_ | refine bx_ (fun _ => ?_))
      refine hl_call rfl rfl (ifail_fn (k := 25)) (fun v M hv => ?_)
      obtain ⟨rfl, rfl⟩ := hv
      rw [if_pos rfl]
      repeat (first | refine go_ ?_ | refine bx_ (fun _ => ?_))
      exact fin1I rfl rfl ⟨a', n - 1, c - 1, rfl, rfl, hb'⟩
    rw [decide_eq_false hbad]
    rw [getU, if_neg hbad] at hG
    have hop := or_part (c := x.toNat % 128) hu (by omega) hk9 (by omega)
    have hun : u + x.toNat % 128 * 2 ^ (7 * k) < 2 ^ (7 * (k + 1)) := by
      have e : 2 ^ (7 * (k + 1)) = 128 * 2 ^ (7 * k) := by rw [show 7 * (k + 1) = 7 + 7 * k by omega, Nat.pow_add]
      have h2 := Nat.mul_le_mul_right (2 ^ (7 * k)) (show x.toNat % 128 ≤ 127 by omega)
      rw [e]; omega
    have hu64 : u + x.toNat % 128 * 2 ^ (7 * k) < 18446744073709551616 := by
      rcases Nat.lt_or_ge k 9 with h | h
      · have : 2 ^ (7 * (k + 1)) ≤ 2 ^ 63 := Nat.pow_le_pow_right (by decide) (by omega)
        simp only [Nat.reducePow] at this
        omega
      · obtain rfl : k = 9 := by omega
        simp only [Nat.reduceMul, Nat.reducePow] at hu ⊢
        omega
    have hop' : bits .or .u64 (u : Int) (IntKind.u64.wrap (IntKind.u64.wrap ((x.toNat % 128 : Nat) : Int) * 2 ^ (7 * k))) = ((u + x.toNat % 128 * 2 ^ (7 * k) : Nat) : Int) := by
      rw [IntWalk.u64_in ((x.toNat % 128 : Nat) : Int) (by omega)]; exact hop
    obtain ⟨U, hU⟩ : ∃ U, U = u + x.toNat % 128 * 2 ^ (7 * k) := ⟨_, rfl⟩
    rw [← hU] at hop' hun hu64 hG
    by_cases hlt : x.toNat < 128
    · rw [if_pos hlt] at hG
      subst hG
      repeat (first | rw [and127] | rw [show (7 : Int) * (k : Int) = ((7 * k : Nat) : Int) by simp] | rw [hop'] | rw [and1u hu64] | refine go1_ ?_ | refine bx_ (fun _ => ?_))
      rw [unzz_x hu64]
      exact fin1I rfl rfl ⟨a', n - 1, c - 1, rfl, rfl, hb'⟩
    · rw [if_neg hlt] at hG
      repeat (first | rw [and127] | rw [show (7 : Int) * (k : Int) = ((7 * k : Nat) : Int) by simp] | rw [hop'] | refine go1_ ?_ | refine bx_ (fun _ => ?_))
      exact ⟨q - 1, by omega, _, Imp.refl _, k + 1, U, a', n - 1, c - 1, l, by omega, by omega, hG, hun, hb', rfl, rfl, rfl, rfl, trivial⟩
end
end Go.Proofs.Ytoobhebbgbhahaa
namespace Go.Proofs.Ytoobhebbgbhahaa
open Go.RowKit
theorem getU_le : ∀ (l : List UInt8) (k u : Nat), (getU k u l).2.1.length ≤ l.length
  | [], k, u => by rw [getU]; simp
  | c :: l, k, u => by
    rw [getU]
    split
    · simp
    · split
      · simp
      · have := getU_le l (k + 1) (u + c.toNat % 128 * 2 ^ (7 * k))
        rw [List.length_cons]; omega
theorem Rd.num_le (s : Rd) : s.num.2.l.length ≤ s.l.length := by
  rw [Rd.num]
  split
  · exact Nat.le_refl _
  · exact getU_le _ _ _
theorem Rd.size_le (s : Rd) : s.size.2.l.length ≤ s.l.length ∧ s.size.1 ≤ s.l.length := by
  have := s.num_le
  rw [Rd.size]
  split
  · exact ⟨this, by simp⟩
  · split
    · exact ⟨this, by simp⟩
    · split
      · exact ⟨this, by simp⟩
      · exact ⟨this, by dsimp only; omega⟩
theorem Rd.num_in (s : Rd) : I64 s.num.1 := by
  have h0 : I64 0 := ⟨by decide, by decide⟩
  by_cases h : s.num.2.e = 0
  · exact (Rd.num_was h).2.2
  · rw [Rd.num] at h ⊢
    split at h
    · rw [if_pos (by assumption)]; exact h0
    · rw [if_neg (by assumption)]
      dsimp only at h ⊢
      rw [if_neg h]; exact h0
section
variable {w0 : World} {B : Nat} {H R R0 : List Ent} {g : Nat}
set_option maxHeartbeats 8000000
set_option maxRecDepth 100000
theorem isize_fn {a : Option Addr} {n c e : Nat} {l : List UInt8} (hb : BytR w0 B R0 a n c l) (hi : Imp R R0) :
    Fn Try.prog w0 B 29 [.pointer (some ⟨g, 0, none⟩)] (InB g a n c e :: R) (fun v H' => ∃ a' n' c', v = .int .i64 ((Rd.size ⟨l, e⟩).1 : Int) ∧ H' = InB g a' n' c' (Rd.size ⟨l, e⟩).2.e :: R ∧ BytR w0 B R0 a' n' c' (Rd.size ⟨l, e⟩).2.l) := by
  refine fn_intro Try.func29 rfl (by kernel_rfl) rfl ?_
  repeat (first | refine go_ ?_ | refine bx_ (fun _ => ?_))
  refine hl_call rfl rfl (inum_fn hb hi) (fun v M hv => ?_)
  obtain ⟨a', n', c', rfl, rfl, hb'⟩ := hv
  rw [Rd.size]
  have hin := Rd.num_in ⟨l, e⟩
  unfold I64 at hin
  have hl := hb'.eq
  generalize Rd.num ⟨l, e⟩ = r at *
  obtain ⟨z, l', e'⟩ := r
  dsimp only at *
  by_cases h0 : e' = 0
  rotate_left
  · rw [if_pos h0]
    repeat (first | refine go_ ?_ | refine bx_ (fun _ => ?_))
    exact fin1I rfl rfl ⟨a', n', c', rfl, rfl, hb'⟩
  subst h0
  rw [if_neg (by simp)]
  by_cases h1 : z < 0
  · rw [if_pos h1]
    repeat (first | refine go_ ?_ | refine bx_ (fun _ => ?_))
    refine hl_call rfl rfl (ifail_fn (k := 25)) (fun v M hv => ?_)
    obtain ⟨rfl, rfl⟩ := hv
    rw [if_pos rfl]
    repeat (first | refine go_ ?_ | refine bx_ (fun _ => ?_))
    exact fin1I rfl rfl ⟨a', n', c', rfl, rfl, hb'⟩
  rw [if_neg h1]
  by_cases h2 : (l'.length : Int) < z
  · rw [if_pos h2]
    repeat (first | refine go_ ?_ | refine bx_ (fun _ => ?_))
    refine hl_call rfl rfl (ifail_fn (k := 20)) (fun v M hv => ?_)
    obtain ⟨rfl, rfl⟩ := hv
    rw [if_pos rfl]
    repeat (first | refine go_ ?_ | refine bx_ (fun _ => ?_))
    exact fin1I rfl rfl ⟨a', n', c', rfl, rfl, hb'⟩
  rw [if_neg h2]
  repeat (first | refine go_ ?_ | refine bx_ (fun _ => ?_))
  exact fin1I rfl rfl ⟨a', n', c', by rw [show ((z.toNat : Nat) : Int) = z by omega], rfl, hb'⟩
theorem inums_fn {a : Option Addr} {n c e : Nat} {l : List UInt8} (hb : BytR w0 B R0 a n c l) (hi : Imp R R0) (hn : n ≤ 1000000000) :
    Fn Try.prog w0 B 28 [.pointer (some ⟨g, 0, none⟩)] (InB g a n c e :: R) (fun v H' => ∃ a' n' c' Xl, Imp H' (InB g a' n' c' (Rd.nums ⟨l, e⟩).2.e :: (Xl ++ R)) ∧ (∀ F, Own 3 1 v (Rd.nums ⟨l, e⟩).1.length ((Rd.nums ⟨l, e⟩).1.map iV) F (Xl ++ F)) ∧ BytR w0 B R0 a' n' c' (Rd.nums ⟨l, e⟩).2.l) := by
  have hle := hb.eq
  refine fn_intro Try.func28 rfl (by kernel_rfl) rfl ?_
  repeat (first | refine go_ ?_ | refine bx_ (fun _ => ?_))
  refine hl_call rfl rfl (isize_fn hb hi) (fun v M hv => ?_)
  obtain ⟨a', n', c', rfl, rfl, hb'⟩ := hv
  obtain ⟨G, hG⟩ : ∃ G, G = Rd.nums ⟨l, e⟩ := ⟨_, rfl⟩
  rw [← hG]
  rw [Rd.nums] at hG
  have hsz := (Rd.size_le ⟨l, e⟩).2
  generalize Rd.size ⟨l, e⟩ = r at *
  obtain ⟨N, l', e'⟩ := r
  dsimp only at *
  repeat (first | refine go_ ?_ | refine bx_ (fun _ => ?_))
  refine hc_loopd (fun q fr M => ∃ j L1 a n c e l sv Xl, j + q = N ∧ L1.length = j ∧ (L1 ++ (Rd.numsP q ⟨l, e⟩).1 = G.1 ∧ (Rd.numsP q ⟨l, e⟩).2 = G.2) ∧ (∀ F, Own 3 1 sv j (L1.map iV) F (Xl ++ F)) ∧ Imp M (InB g a n c e :: (Xl ++ R)) ∧ BytR w0 B R0 a n c l ∧ Agr fr [(0, .pointer (some ⟨g, 0, none⟩)), (3, sv), (5, .int .i64 (N : Int)), (6, .int .i64 (j : Int))]) N ?_ ?_
  · exact ⟨0, [], a', n', c', e', l', _, [], by omega, rfl, ⟨by rw [← hG]; rfl, by rw [← hG]⟩, fun F => Own.nil, Imp.refl _, hb', rfl, rfl, rfl, rfl, trivial⟩
  clear hb' hG a' n' c' e' l'
  rintro q fr M ⟨j, L1, a, n, c, e, l, sv, Xl, hj, hL1, ⟨h1, h2⟩, ho, him, hb, hf⟩
  obtain ⟨base, rfl⟩ := hf.out
  clear hf
  refine HC.imp ?_ him
  obtain ⟨av, cv, rfl, _, _⟩ := (ho []).form
  by_cases hq : q = 0
  · subst hq
    rw [Rd.numsP] at h1 h2
    rw [List.append_nil] at h1
    dsimp only at h2
    obtain rfl : j = N := by omega
    repeat (first | refine go_ ?_ | refine bx_ (fun _ => ?_))
    subst h1
    rw [← h2]
    exact fin1S rfl rfl ⟨a, n, c, Xl, Imp.refl _, by rw [hL1]; exact ho, hb⟩
  obtain ⟨q, rfl⟩ : ∃ q', q = q' + 1 := ⟨q - 1, by omega⟩
  rw [Rd.numsP] at h1 h2
  by_cases h0 : e = 0
  rotate_left
  · rw [if_pos h0] at h1 h2
    rw [List.append_nil] at h1
    dsimp only at h2
    repeat (first | refine go_ ?_ | refine bx_ (fun _ => ?_))
    subst h1
    rw [← h2]
    exact fin1S rfl rfl ⟨a, n, c, Xl, Imp.refl _, by rw [hL1]; exact ho, hb⟩
  subst h0
  rw [if_neg (by simp)] at h1 h2
  dsimp only at h1 h2
  repeat (first | refine go_ ?_ | refine bx_ (fun _ => ?_))
  refine hl_call rfl rfl (inum_fn (R := Xl ++ R) hb ((Imp.tail Xl R).trans hi)) (fun v M hv => ?_)
  obtain ⟨a', n', c', rfl, rfl, hb'⟩ := hv
  generalize Rd.num ⟨l, 0⟩ = r at *
  obtain ⟨z, l', e'⟩ := r
  dsimp only at *
  repeat (first | refine go_ ?_ | refine bx_ (fun _ => ?_))
  rename_i gb
  refine hl_append_own (F := ⟨gb, 3, [.int .i64 z], 1 * 1⟩ :: InB g a' n' c' e' :: R) rfl rfl (((ho R).under (InB g a' n' c' e')).under ⟨gb, 3, [.int .i64 z], 1 * 1⟩) (Rds.ent (n := 1) (l := [.int .i64 z]) .here rfl (by simp [Value.oneCell'])) rfl rfl (by decide) (by omega) (by omega) rfl (fun v4 M4 o4 => ?_)
  obtain ⟨a4, c4, rfl, _, _⟩ := o4.form
  obtain ⟨Z, hZ, ho4⟩ := o4.permE
  repeat (first | refine go_ ?_ | refine bx_ (fun _ => ?_))
  refine ⟨q, by omega, _, Imp.refl _, j + 1, L1 ++ [z], a', n', c', e', l', _, Z, by omega, by simp [hL1], ⟨by rw [← h1]; simp, h2⟩, fun F => by rw [List.map_append]; exact ho4 F, ?_, hb', rfl, rfl, rfl, rfl, trivial⟩
  exact Imp.perm (hZ.trans (Take.app Z (.there .here)).perm) (Imp.sub (List.Sublist.cons_cons _ (List.Sublist.append (List.Sublist.refl _) (List.sublist_cons_self _ _))))
end
end Go.Proofs.Ytoobhebbgbhahaa
namespace Go.Proofs.Ytoobhebbgbhahaa
open Go.RowKit
theorem imp_nil (H : List Ent) : Imp H [] := Imp.sub (List.nil_sublist H)
theorem six_of {L : List Int} (h : L.length = 6) : ∃ m : Nat → Int, L = f6 m := by
  match L, h with
  | [a, b, c, d, e, f], _ => exact ⟨fun i => [a, b, c, d, e, f].getD i 0, rfl⟩
theorem ten_of {L : List Int} (h : L.length = 10) : ∃ m : Nat → Int, L = f10 m := by
  match L, h with
  | [a, b, c, d, e, f, g, i, j, k], _ => exact ⟨fun n => [a, b, c, d, e, f, g, i, j, k].getD n 0, rfl⟩
theorem Rd.fix_len : ∀ (k : Nat) (s : Rd), (Rd.fix k s).1.length = k
  | 0, s => by rw [Rd.fix]; rfl
  | k + 1, s => by rw [Rd.fix]; simp [Rd.fix_len k]
theorem Rd.fix_le : ∀ (k : Nat) (s : Rd), (Rd.fix k s).2.l.length ≤ s.l.length
  | 0, s => by rw [Rd.fix]; exact Nat.le_refl _
  | k + 1, s => by rw [Rd.fix]; have := Rd.fix_le k s.num.2; have := s.num_le; dsimp only; omega
theorem Rd.numsP_le : ∀ (k : Nat) (s : Rd), (Rd.numsP k s).2.l.length ≤ s.l.length
  | 0, s => by rw [Rd.numsP]; exact Nat.le_refl _
  | k + 1, s => by
    rw [Rd.numsP]
    split
    · exact Nat.le_refl _
    · have := Rd.numsP_le k s.num.2; have := s.num_le; dsimp only; omega
theorem Rd.nums_le (s : Rd) : s.nums.2.l.length ≤ s.l.length := by
  rw [Rd.nums]
  have := Rd.numsP_le s.size.1 s.size.2
  have := s.size_le
  omega
theorem Rd.ptsP_le : ∀ (k : Nat) (s : Rd), (Rd.ptsP k s).2.l.length ≤ s.l.length
  | 0, s => by rw [Rd.ptsP]; exact Nat.le_refl _
  | k + 1, s => by
    rw [Rd.ptsP]
    split
    · exact Nat.le_refl _
    · have := Rd.ptsP_le k s.num.2.num.2; have := s.num.2.num_le; have := s.num_le; dsimp only; omega
section
variable {w0 : World} {B : Nat} {H R R0 : List Ent} {g : Nat}
set_option maxHeartbeats 8000000
set_option maxRecDepth 100000
theorem inumS_fn {s : Rd} {a : Option Addr} {n c : Nat} (hb : BytR w0 B R0 a n c s.l) (hi : Imp R R0) :
    Fn Try.prog w0 B 27 [.pointer (some ⟨g, 0, none⟩)] (InB g a n c s.e :: R) (fun v H' => ∃ a' n' c', v = .int .i64 s.num.1 ∧ H' = InB g a' n' c' s.num.2.e :: R ∧ BytR w0 B R0 a' n' c' s.num.2.l) := inum_fn hb hi
theorem imapped_fn {s : Rd} {a : Option Addr} {n c : Nat} (hb : BytR w0 B R0 a n c s.l) (hi : Imp R R0) :
    Fn Try.prog w0 B 30 [.pointer (some ⟨g, 0, none⟩)] (InB g a n c s.e :: R) (fun v H' => ∃ a' n' c' m, v = .agg #[.int .i64 (m 0), .int .i64 (m 1), .int .i64 (m 2), .int .i64 (m 3), .int .i64 (m 4), .int .i64 (m 5)] ∧ (Rd.fix 6 s).1 = f6 m ∧ H' = InB g a' n' c' (Rd.fix 6 s).2.e :: R ∧ BytR w0 B R0 a' n' c' (Rd.fix 6 s).2.l) := by
  refine fn_intro Try.func30 rfl (by kernel_rfl) rfl ?_
  repeat (first | refine go_ ?_ | refine bx_ (fun _ => ?_))
  rename_i g2 gm
  refine HC.perm (H' := ⟨gm, 25, [.int .i64 0, .int .i64 0, .int .i64 0, .int .i64 0, .int .i64 0, .int .i64 0], 6⟩ :: ⟨g2, 25, [.int .i64 0, .int .i64 0, .int .i64 0, .int .i64 0, .int .i64 0, .int .i64 0], 6⟩ :: InB g a n c s.e :: R) ?_ (List.Perm.refl _)
  obtain ⟨G, hG⟩ : ∃ G, G = Rd.fix 6 s := ⟨_, rfl⟩
  refine hc_loopd (fun q fr M => ∃ j L1 s a n c C, j + q = 6 ∧ L1.length = j ∧ (L1 ++ (Rd.fix q s).1 = G.1 ∧ (Rd.fix q s).2 = G.2) ∧ C = L1.map iV ++ List.replicate q (.int .i64 0) ∧ BytR w0 B R0 a n c s.l ∧
    M = ⟨gm, 25, C, 6⟩ :: ⟨g2, 25, [.int .i64 0, .int .i64 0, .int .i64 0, .int .i64 0, .int .i64 0, .int .i64 0], 6⟩ :: InB g a n c s.e :: R ∧ Agr fr [(0, .pointer (some ⟨g, 0, none⟩)), (2, .pointer (some ⟨g2, 0, none⟩)), (3, .pointer (some ⟨gm, 0, none⟩)), (5, .int .i64 (j : Int))]) 6 ?_ ?_
  · exact ⟨0, [], s, a, n, c, _, by omega, rfl, ⟨by rw [hG]; rfl, by rw [hG]⟩, rfl, hb, rfl, rfl, rfl, rfl, rfl, trivial⟩
  rw [← hG]
  clear hb hG s a n c
  rintro q fr M ⟨j, L1, s, a, n, c, C, hj, hL1, ⟨h1, h2⟩, rfl, hb, rfl, hf⟩
  obtain ⟨base, rfl⟩ := hf.out
  clear hf
  by_cases hq : q = 0
  · subst hq
    rw [Rd.fix] at h1 h2
    rw [List.append_nil] at h1
    dsimp only at h2
    obtain rfl : j = 6 := by omega
    obtain ⟨m, hm⟩ := six_of hL1
    subst hm
    repeat (first | refine go_ ?_ | refine bx_ (fun _ => ?_))
    exact finC (n := 6) rfl rfl .here rfl ⟨a, n, c, m, rfl, h1.symm, by rw [← h2], by rw [← h2]; exact hb⟩ (Imp.drop (Imp.drop (Imp.refl _)))
  obtain ⟨q, rfl⟩ : ∃ q', q = q' + 1 := ⟨q - 1, by omega⟩
  rw [Rd.fix] at h1 h2
  dsimp only at h1 h2
  have hlen : j < (L1.map iV ++ List.replicate (q + 1) (Value.int .i64 0)).length := by simp; omega
  have hset : ∀ z : Int, (L1.map iV ++ List.replicate (q + 1) (Value.int .i64 0)).set j (.int .i64 z) = (L1 ++ [z]).map iV ++ List.replicate q (.int .i64 0) := fun z => by
    rw [List.set_append_right _ _ (by simp; omega), List.length_map, hL1, Nat.sub_self, List.replicate_succ, List.set_cons_zero, List.map_append, List.append_assoc]
    rfl
  repeat (first | refine go_ ?_ | refine bx_ (fun _ => ?_))
  refine HL.perm ?_ (show (⟨gm, 25, L1.map iV ++ List.replicate (q + 1) (Value.int .i64 0), 6⟩ :: ⟨g2, 25, [.int .i64 0, .int .i64 0, .int .i64 0, .int .i64 0, .int .i64 0, .int .i64 0], 6⟩ :: InB g a n c s.e :: R).Perm (InB g a n c s.e :: ⟨gm, 25, L1.map iV ++ List.replicate (q + 1) (Value.int .i64 0), 6⟩ :: ⟨g2, 25, [.int .i64 0, .int .i64 0, .int .i64 0, .int .i64 0, .int .i64 0, .int .i64 0], 6⟩ :: R) from List.perm_middle (l₁ := [_, _]))
  refine hl_call rfl rfl (inumS_fn hb (Imp.drop (Imp.drop hi))) (fun v M hv => ?_)
  obtain ⟨a', n', c', rfl, rfl, hb'⟩ := hv
  repeat (first | refine go_ ?_ | refine bx_ (fun _ => ?_))
  refine ⟨q, by omega, _, ?_, j + 1, L1 ++ [s.num.1], s.num.2, a', n', c', _, by omega, by simp [hL1], ⟨by rw [← h1]; simp, h2⟩, hset s.num.1, hb', rfl, rfl, rfl, rfl, rfl, trivial⟩
  exact Imp.perm (List.Perm.cons _ (List.Perm.swap _ _ _)) (Imp.refl _)
theorem iend_fn {s : Rd} {a : Option Addr} {n c : Nat} (hb : BytR w0 B R0 a n c s.l) :
    Fn Try.prog w0 B 31 [.pointer (some ⟨g, 0, none⟩)] (InB g a n c s.e :: R) (fun v H' => H' = InB g a n c s.endE :: R) := by
  have he := hb.eq
  have hsm := hb.small
  have hle := hb.le
  refine fn_intro Try.func31 rfl (by kernel_rfl) rfl ?_
  by_cases h : 0 < n
  · repeat (first | refine go_ ?_ | refine bx_ (fun _ => ?_))
    refine hl_call rfl rfl (ifail_fn (k := 25)) (fun v M hv => ?_)
    obtain ⟨rfl, rfl⟩ := hv
    repeat (first | refine go_ ?_ | refine bx_ (fun _ => ?_))
    refine fin0 rfl ?_ (Imp.refl _)
    have hne : s.l ≠ [] := fun h0 => by rw [h0] at he; simp at he; omega
    unfold Rd.endE
    by_cases h0 : s.e = 0
    · rw [if_pos h0, if_pos ⟨h0, hne⟩]
    · rw [if_neg h0, if_neg (fun h => h0 h.1)]
  · repeat (first | refine go_ ?_ | refine bx_ (fun _ => ?_))
    refine fin0 rfl ?_ (Imp.refl _)
    have hne : s.l = [] := List.eq_nil_of_length_eq_zero (by omega)
    unfold Rd.endE
    rw [if_neg (fun h => h.2 hne)]
end
end Go.Proofs.Ytoobhebbgbhahaa
namespace Go.Proofs.Ytoobhebbgbhahaa
open Go.RowKit
def Rd.it (s : Rd) : Nat → Rd
  | 0 => s
  | i + 1 => (Rd.it s i).num.2
theorem Rd.fix10 (s : Rd) : Rd.fix 10 s = (f10 (fun i => (Rd.it s i).num.1), Rd.it s 10) := by
  simp only [Rd.fix, Rd.it]
  rfl
theorem Rd.it_le (s : Rd) : ∀ i, (Rd.it s i).l.length ≤ s.l.length
  | 0 => Nat.le_refl _
  | i + 1 => by have := (Rd.it s i).num_le; have := Rd.it_le s i; rw [Rd.it]; omega
section
variable {w0 : World} {B : Nat} {H R R0 : List Ent} {g : Nat}
set_option maxHeartbeats 16000000
set_option maxRecDepth 100000
theorem inumI_fn {s : Rd} (i : Nat) {a : Option Addr} {n c : Nat} (hb : BytR w0 B R0 a n c (Rd.it s i).l) (hi : Imp R R0) :
    Fn Try.prog w0 B 27 [.pointer (some ⟨g, 0, none⟩)] (InB g a n c (Rd.it s i).e :: R) (fun v H' => ∃ a' n' c', v = .int .i64 (Rd.it s i).num.1 ∧ H' = InB g a' n' c' (Rd.it s (i + 1)).e :: R ∧ BytR w0 B R0 a' n' c' (Rd.it s (i + 1)).l) := inumS_fn hb hi
theorem inumsS_fn {s : Rd} {a : Option Addr} {n c : Nat} (hb : BytR w0 B R0 a n c s.l) (hi : Imp R R0) (hn : n ≤ 1000000000) :
    Fn Try.prog w0 B 28 [.pointer (some ⟨g, 0, none⟩)] (InB g a n c s.e :: R) (fun v H' => ∃ a' n' c' Xl, Imp H' (InB g a' n' c' s.nums.2.e :: (Xl ++ R)) ∧ (∀ F, Own 3 1 v s.nums.1.length (s.nums.1.map iV) F (Xl ++ F)) ∧ BytR w0 B R0 a' n' c' s.nums.2.l) := inums_fn hb hi hn
theorem isizeS_fn {s : Rd} {a : Option Addr} {n c : Nat} (hb : BytR w0 B R0 a n c s.l) (hi : Imp R R0) :
    Fn Try.prog w0 B 29 [.pointer (some ⟨g, 0, none⟩)] (InB g a n c s.e :: R) (fun v H' => ∃ a' n' c', v = .int .i64 (s.size.1 : Int) ∧ H' = InB g a' n' c' s.size.2.e :: R ∧ BytR w0 B R0 a' n' c' s.size.2.l) := isize_fn hb hi
theorem rev3 (A C D H : List Ent) : (A ++ (C ++ (D ++ H))).Perm (D ++ (C ++ (A ++ H))) :=
  (app_swap A C _).trans (((app_swap A D H).append_left C).trans (app_swap C D _))
theorem length_ptsV (l : List Pt) : (l.flatMap ptV).length = l.length * 2 := length_pts l
theorem getEdit_fn {a : Option Addr} {n c : Nat} {l : List UInt8} (hb : BytR w0 B H a n c l) (hn : n ≤ 1000000) :
    Fn Try.prog w0 B 11 [.slice a n c] H (fun v H' => ∃ (f m : Nat → Int) (pv sv qv : Value) (P Q : List Int) (S : List Pt) (Xp Xs Xq : List Ent), v = .tuple #[.agg (edC f m pv sv qv).toArray, .int .i64 ((getE l).2 : Int)] ∧ (getE l).1 = ⟨f10 f, P, S, f6 m, Q⟩ ∧ H' = Xp ++ (Xs ++ (Xq ++ H)) ∧
      (∀ F, Own 3 1 pv P.length (P.map iV) F (Xp ++ F)) ∧ (∀ F, Own 78 2 sv S.length (S.flatMap ptV) F (Xs ++ F)) ∧ (∀ F, Own 3 1 qv Q.length (Q.map iV) F (Xq ++ F))) := by
  have he := hb.eq
  refine fn_intro Try.func11 rfl (by kernel_rfl) rfl ?_
  repeat (first | refine go_ ?_ | refine bx_ (fun _ => ?_))
  rename_i g2 gi
  obtain ⟨b2, hbe⟩ : ∃ b2 : Ent, b2 = ⟨g2, 27, edC (fun _ => 0) (fun _ => 0) (.slice none 0 0) (.slice none 0 0) (.slice none 0 0), 19⟩ := ⟨_, rfl⟩
  refine HL.perm (H' := InB gi a n c (Rd.it ⟨l, 0⟩ 0).e :: b2 :: H) ?_ (by rw [hbe]; exact List.Perm.refl _)
  have iH : Imp (b2 :: H) H := Imp.drop (Imp.refl _)
  have hb0 : BytR w0 B H a n c (Rd.it ⟨l, 0⟩ 0).l := hb
  refine hl_call rfl rfl (inumI_fn 0 hb0 iH) (fun v M hv => ?_)
  obtain ⟨a1, n1, c1, rfl, rfl, hb1⟩ := hv
  repeat (first | refine go_ ?_ | refine bx_ (fun _ => ?_))
  refine hl_call rfl rfl (inumI_fn 1 hb1 iH) (fun v M hv => ?_)
  obtain ⟨a2, n2, c2, rfl, rfl, hb2⟩ := hv
  repeat (first | refine go_ ?_ | refine bx_ (fun _ => ?_))
  refine hl_call rfl rfl (inumI_fn 2 hb2 iH) (fun v M hv => ?_)
  obtain ⟨a3, n3, c3, rfl, rfl, hb3⟩ := hv
  repeat (first | refine go_ ?_ | refine bx_ (fun _ => ?_))
  refine hl_call rfl rfl (inumI_fn 3 hb3 iH) (fun v M hv => ?_)
  obtain ⟨a4, n4, c4, rfl, rfl, hb4⟩ := hv
  repeat (first | refine go_ ?_ | refine bx_ (fun _ => ?_))
  refine hl_call rfl rfl (inumI_fn 4 hb4 iH) (fun v M hv => ?_)
  obtain ⟨a5, n5, c5, rfl, rfl, hb5⟩ := hv
  repeat (first | refine go_ ?_ | refine bx_ (fun _ => ?_))
  refine hl_call rfl rfl (inumI_fn 5 hb5 iH) (fun v M hv => ?_)
  obtain ⟨a6, n6, c6, rfl, rfl, hb6⟩ := hv
  repeat (first | refine go_ ?_ | refine bx_ (fun _ => ?_))
  refine hl_call rfl rfl (inumI_fn 6 hb6 iH) (fun v M hv => ?_)
  obtain ⟨a7, n7, c7, rfl, rfl, hb7⟩ := hv
  repeat (first | refine go_ ?_ | refine bx_ (fun _ => ?_))
  refine hl_call rfl rfl (inumI_fn 7 hb7 iH) (fun v M hv => ?_)
  obtain ⟨a8, n8, c8, rfl, rfl, hb8⟩ := hv
  repeat (first | refine go_ ?_ | refine bx_ (fun _ => ?_))
  refine hl_call rfl rfl (inumI_fn 8 hb8 iH) (fun v M hv => ?_)
  obtain ⟨a9, n9, c9, rfl, rfl, hb9⟩ := hv
  repeat (first | refine go_ ?_ | refine bx_ (fun _ => ?_))
  refine hl_call rfl rfl (inumI_fn 9 hb9 iH) (fun v M hv => ?_)
  obtain ⟨a10, n10, c10, rfl, rfl, hb10⟩ := hv
  repeat (first | refine go_ ?_ | refine bx_ (fun _ => ?_))
  have hle1 := Rd.it_le ⟨l, 0⟩ 10
  have hf10 := Rd.fix10 ⟨l, 0⟩
  obtain ⟨f, hf⟩ : ∃ f : Nat → Int, f = fun i => (Rd.it ⟨l, 0⟩ i).num.1 := ⟨_, rfl⟩
  obtain ⟨s1, hs1⟩ : ∃ s1, s1 = Rd.it ⟨l, 0⟩ 10 := ⟨_, rfl⟩
  have hfi : ∀ i, (Rd.it ⟨l, 0⟩ i).num.1 = f i := fun i => by rw [hf]
  rw [← hf, ← hs1] at hf10
  rw [← hs1] at hb10 hle1
  simp only [hfi]
  rw [show (Rd.it ⟨l, 0⟩ (9 + 1)).e = s1.e by rw [hs1]]
  have hl10 := hb10.eq
  dsimp only at hle1
  refine hl_call rfl rfl (inumsS_fn (s := s1) hb10 iH (by omega)) (fun v M hv => ?_)
  obtain ⟨a', n', c', Xp, hi1, hop, hb'⟩ := hv
  refine HL.imp ?_ hi1
  have hle2 := Rd.nums_le s1
  obtain ⟨G2, hG2⟩ : ∃ G2, G2 = s1.nums := ⟨_, rfl⟩
  rw [← hG2] at hop hb' hle2 ⊢
  obtain ⟨pa, pc, rfl, _, _⟩ := (hop []).form
  repeat (first | refine go_ ?_ | refine bx_ (fun _ => ?_))
  rename_i g5
  refine HL.perm (H' := InB gi a' n' c' G2.2.e :: ⟨g5, 27, edC f (fun _ => 0) (.slice pa G2.1.length pc) (.slice none 0 0) (.slice none 0 0), 19⟩ :: (Xp ++ (b2 :: H))) ?_ (List.Perm.swap _ _ _)
  have iT : ∀ (X : List Ent) (e : Ent), Imp (e :: (X ++ (Xp ++ (b2 :: H)))) H := fun X e => Imp.drop ((Imp.tail X _).trans ((Imp.tail Xp _).trans iH))
  refine hl_call rfl rfl (isizeS_fn (s := G2.2) hb' (iT [] _)) (fun v M hv => ?_)
  obtain ⟨a3, n3, c3, rfl, rfl, hb3⟩ := hv
  obtain ⟨hle3, hsz3⟩ := Rd.size_le G2.2
  obtain ⟨G3, hG3⟩ : ∃ G3, G3 = G2.2.size := ⟨_, rfl⟩
  rw [← hG3] at hb3 hle3 hsz3 ⊢
  obtain ⟨N, s3⟩ := G3
  dsimp only at hb3 hle3 hsz3 ⊢
  obtain ⟨G4, hG4⟩ : ∃ G4, G4 = Rd.ptsP N s3 := ⟨_, rfl⟩
  have hle4 := Rd.ptsP_le N s3
  rw [← hG4] at hle4
  repeat (first | refine op_ ?_ | refine bx_ (fun _ => ?_))
  refine hc_meet (fun fr M => ∃ a n c sv Xs, (∀ F, Own 78 2 sv G4.1.length (G4.1.flatMap ptV) F (Xs ++ F)) ∧ BytR w0 B H a n c G4.2.l ∧ Imp M (InB gi a n c G4.2.e :: ⟨g5, 27, edC f (fun _ => 0) (.slice pa G2.1.length pc) sv (.slice none 0 0), 19⟩ :: (Xs ++ (Xp ++ (b2 :: H)))) ∧
    Agr fr [(2, .pointer (some ⟨g2, 0, none⟩)), (4, .pointer (some ⟨gi, 0, none⟩)), (5, .pointer (some ⟨g5, 0, none⟩))]) ?_ ?_
  · repeat (first | refine go_ ?_ | refine bx_ (fun _ => ?_))
    refine hc_loopd (fun q fr M => ∃ j S1 s a n c sv Xs, j + q = N ∧ S1.length = j ∧ (S1 ++ (Rd.ptsP q s).1 = G4.1 ∧ (Rd.ptsP q s).2 = G4.2) ∧ (∀ F, Own 78 2 sv j (S1.flatMap ptV) F (Xs ++ F)) ∧ BytR w0 B H a n c s.l ∧ Imp M (InB gi a n c s.e :: ⟨g5, 27, edC f (fun _ => 0) (.slice pa G2.1.length pc) sv (.slice none 0 0), 19⟩ :: (Xs ++ (Xp ++ (b2 :: H)))) ∧
      Agr fr [(2, .pointer (some ⟨g2, 0, none⟩)), (4, .pointer (some ⟨gi, 0, none⟩)), (5, .pointer (some ⟨g5, 0, none⟩)), (33, .int .i64 (N : Int)), (34, .int .i64 (j : Int))]) N ?_ ?_
    · exact ⟨0, [], s3, a3, n3, c3, _, [], by omega, rfl, ⟨by rw [hG4]; rfl, by rw [hG4]⟩, fun F => Own.nil, hb3, Imp.refl _, rfl, rfl, rfl, rfl, rfl, trivial⟩
    clear hb3 hb' hb10 hb9 hb8 hb7 hb6 hb5 hb4 hb2 hb1 hb0 hi1
    rintro q fr M ⟨j, S1, s, a, n, c, sv, Xs, hj, hS1, ⟨h1, h2⟩, ho, hb, him, hff⟩
    obtain ⟨base, rfl⟩ := hff.out
    clear hff
    refine HC.imp ?_ him
    obtain ⟨av, cv, rfl, _, _⟩ := (ho []).form
    by_cases hq : q = 0
    · subst hq
      rw [Rd.ptsP] at h1 h2
      rw [List.append_nil] at h1
      dsimp only at h2
      obtain rfl : j = N := by omega
      repeat (first | refine go_ ?_ | refine bx_ (fun _ => ?_))
      exact ⟨a, n, c, _, Xs, by rw [← h1, hS1]; exact ho, by rw [← h2]; exact hb, by rw [← h2]; exact Imp.refl _, rfl, rfl, rfl, trivial⟩
    obtain ⟨q, rfl⟩ : ∃ q', q = q' + 1 := ⟨q - 1, by omega⟩
    rw [Rd.ptsP] at h1 h2
    by_cases h0 : s.e = 0
    rotate_left
    · rw [if_pos h0] at h1 h2
      rw [List.append_nil] at h1
      dsimp only at h2
      repeat (first | refine go_ ?_ | refine bx_ (fun _ => ?_))
      exact ⟨a, n, c, _, Xs, by rw [← h1, hS1]; exact ho, by rw [← h2]; exact hb, by rw [← h2]; exact Imp.refl _, rfl, rfl, rfl, trivial⟩
    rw [if_neg (by omega)] at h1 h2
    dsimp only at h1 h2
    repeat (first | refine go_ ?_ | refine bx_ (fun _ => ?_))
    have iX := iT Xs ⟨g5, 27, edC f (fun _ => 0) (.slice pa G2.1.length pc) (.slice av j cv) (.slice none 0 0), 19⟩
    refine hc_meet (fun fr M => ∃ a n c sv Xs, (∀ F, Own 78 2 sv (j + 1) ((S1 ++ [(⟨s.num.1, s.num.2.num.1⟩ : Pt)]).flatMap ptV) F (Xs ++ F)) ∧ BytR w0 B H a n c s.num.2.num.2.l ∧ Imp M (InB gi a n c s.num.2.num.2.e :: ⟨g5, 27, edC f (fun _ => 0) (.slice pa G2.1.length pc) sv (.slice none 0 0), 19⟩ :: (Xs ++ (Xp ++ (b2 :: H)))) ∧
      Agr fr [(2, .pointer (some ⟨g2, 0, none⟩)), (4, .pointer (some ⟨gi, 0, none⟩)), (5, .pointer (some ⟨g5, 0, none⟩)), (33, .int .i64 (N : Int)), (34, .int .i64 (j : Int))]) ?_ ?_
    · refine hc_drawA [] (by kernel_rfl) ?_
      refine ha_quiet [0, 2, 4] (by rfl) (by kernel_rfl) ?_
      repeat (first | refine gd_ ?_)
      refine ha_fork2 1 3 (by rfl) (by kernel_rfl) (by rfl) (by rfl) (by first | exact Imp.refl _ | exact Imp.drop (Imp.refl _) | exact Imp.drop (Imp.drop (Imp.refl _)) | exact Imp.drop (Imp.drop (Imp.drop (Imp.refl _))) | exact Imp.drop (Imp.drop (Imp.drop (Imp.drop (Imp.refl _)))) | exact Imp.drop (Imp.drop (Imp.drop (Imp.drop (Imp.drop (Imp.refl _))))) | exact Imp.drop (Imp.drop (Imp.drop (Imp.drop (Imp.drop (Imp.drop (Imp.refl _)))))) | exact Imp.drop (Imp.drop (Imp.drop (Imp.drop (Imp.drop (Imp.drop (Imp.drop (Imp.refl _))))))) | exact Imp.drop (Imp.drop (Imp.drop (Imp.drop (Imp.drop (Imp.drop (Imp.drop (Imp.drop (Imp.refl _)))))))) | assumption | exact Imp.drop (by assumption) | exact Imp.drop (Imp.drop (by assumption)) | exact imp_nil _ | exact Imp.drop2 (Imp.refl _) | exact Imp.drop2 (Imp.drop2 (Imp.refl _)) | exact Imp.drop (Imp.drop2 (Imp.refl _))) ?_ ?_
      · skip
        repeat (first | refine op_ ?_ | refine bx_ (fun _ => ?_))
        refine ha_fork1 3 (by rfl) (by kernel_rfl) (by rfl) (by first | exact Imp.refl _ | exact Imp.drop (Imp.refl _) | exact Imp.drop (Imp.drop (Imp.refl _)) | exact Imp.drop (Imp.drop (Imp.drop (Imp.refl _))) | exact Imp.drop (Imp.drop (Imp.drop (Imp.drop (Imp.refl _)))) | exact Imp.drop (Imp.drop (Imp.drop (Imp.drop (Imp.drop (Imp.refl _))))) | exact Imp.drop (Imp.drop (Imp.drop (Imp.drop (Imp.drop (Imp.drop (Imp.refl _)))))) | exact Imp.drop (Imp.drop (Imp.drop (Imp.drop (Imp.drop (Imp.drop (Imp.drop (Imp.refl _))))))) | exact Imp.drop (Imp.drop (Imp.drop (Imp.drop (Imp.drop (Imp.drop (Imp.drop (Imp.drop (Imp.refl _)))))))) | assumption | exact Imp.drop (by assumption) | exact Imp.drop (Imp.drop (by assumption)) | exact imp_nil _ | exact Imp.drop2 (Imp.refl _) | exact Imp.drop2 (Imp.drop2 (Imp.refl _)) | exact Imp.drop (Imp.drop2 (Imp.refl _))) ?_
        · skip
          refine hl_call rfl rfl (inumS_fn (s := s) hb iX) (fun v M hv => ?_)
          obtain ⟨a1, n1, c1, rfl, rfl, hb1⟩ := hv
          repeat (first | refine op_ ?_ | refine bx_ (fun _ => ?_))
          refine ha_fork1 5 (by rfl) (by kernel_rfl) (by rfl) (by first | exact Imp.refl _ | exact Imp.drop (Imp.refl _) | exact Imp.drop (Imp.drop (Imp.refl _)) | exact Imp.drop (Imp.drop (Imp.drop (Imp.refl _))) | exact Imp.drop (Imp.drop (Imp.drop (Imp.drop (Imp.refl _)))) | exact Imp.drop (Imp.drop (Imp.drop (Imp.drop (Imp.drop (Imp.refl _))))) | exact Imp.drop (Imp.drop (Imp.drop (Imp.drop (Imp.drop (Imp.drop (Imp.refl _)))))) | exact Imp.drop (Imp.drop (Imp.drop (Imp.drop (Imp.drop (Imp.drop (Imp.drop (Imp.refl _))))))) | exact Imp.drop (Imp.drop (Imp.drop (Imp.drop (Imp.drop (Imp.drop (Imp.drop (Imp.drop (Imp.refl _)))))))) | assumption | exact Imp.drop (by assumption) | exact Imp.drop (Imp.drop (by assumption)) | exact imp_nil _ | exact Imp.drop2 (Imp.refl _) | exact Imp.drop2 (Imp.drop2 (Imp.refl _)) | exact Imp.drop (Imp.drop2 (Imp.refl _))) ?_
          · skip
            refine hl_call rfl rfl (inumS_fn (s := s.num.2) hb1 iX) (fun v M hv => ?_)
            obtain ⟨a2, n2, c2, rfl, rfl, hb2⟩ := hv
            repeat (first | refine op_ ?_ | refine bx_ (fun _ => ?_))
            refine ha_quiet [6] (by rfl) (by kernel_rfl) ?_
            repeat (first | refine gd_ ?_)
            refine ha_fork1 7 (by rfl) (by kernel_rfl) (by rfl) (by first | exact Imp.refl _ | exact Imp.drop (Imp.refl _) | exact Imp.drop (Imp.drop (Imp.refl _)) | exact Imp.drop (Imp.drop (Imp.drop (Imp.refl _))) | exact Imp.drop (Imp.drop (Imp.drop (Imp.drop (Imp.refl _)))) | exact Imp.drop (Imp.drop (Imp.drop (Imp.drop (Imp.drop (Imp.refl _))))) | exact Imp.drop (Imp.drop (Imp.drop (Imp.drop (Imp.drop (Imp.drop (Imp.refl _)))))) | exact Imp.drop (Imp.drop (Imp.drop (Imp.drop (Imp.drop (Imp.drop (Imp.drop (Imp.refl _))))))) | exact Imp.drop (Imp.drop (Imp.drop (Imp.drop (Imp.drop (Imp.drop (Imp.drop (Imp.drop (Imp.refl _)))))))) | assumption | exact Imp.drop (by assumption) | exact Imp.drop (Imp.drop (by assumption)) | exact imp_nil _ | exact Imp.drop2 (Imp.refl _) | exact Imp.drop2 (Imp.drop2 (Imp.refl _)) | exact Imp.drop (Imp.drop2 (Imp.refl _))) ?_
            · skip
              repeat (first | refine op_ ?_ | refine bx_ (fun _ => ?_))
              rename_i gb
              refine ha_fork1 8 (by rfl) (by kernel_rfl) (by rfl) (by first | exact Imp.refl _ | exact Imp.drop (Imp.refl _) | exact Imp.drop (Imp.drop (Imp.refl _)) | exact Imp.drop (Imp.drop (Imp.drop (Imp.refl _))) | exact Imp.drop (Imp.drop (Imp.drop (Imp.drop (Imp.refl _)))) | exact Imp.drop (Imp.drop (Imp.drop (Imp.drop (Imp.drop (Imp.refl _))))) | exact Imp.drop (Imp.drop (Imp.drop (Imp.drop (Imp.drop (Imp.drop (Imp.refl _)))))) | exact Imp.drop (Imp.drop (Imp.drop (Imp.drop (Imp.drop (Imp.drop (Imp.drop (Imp.refl _))))))) | exact Imp.drop (Imp.drop (Imp.drop (Imp.drop (Imp.drop (Imp.drop (Imp.drop (Imp.drop (Imp.refl _)))))))) | assumption | exact Imp.drop (by assumption) | exact Imp.drop (Imp.drop (by assumption)) | exact imp_nil _ | exact Imp.drop2 (Imp.refl _) | exact Imp.drop2 (Imp.drop2 (Imp.refl _)) | exact Imp.drop (Imp.drop2 (Imp.refl _))) ?_
              · skip
                refine hl_append_own (F := ⟨gb, 78, [.int .i64 s.num.1, .int .i64 s.num.2.num.1], 1 * 2⟩ :: InB gi a2 n2 c2 s.num.2.num.2.e :: ⟨g5, 27, edC f (fun _ => 0) (.slice pa G2.1.length pc) (.slice av j cv) (.slice none 0 0), 19⟩ :: (Xp ++ (b2 :: H))) rfl rfl ((((ho _).under _).under _).under _) (Rds.ent (n := 2) (l := [.int .i64 s.num.1, .int .i64 s.num.2.num.1]) .here rfl (by simp [Value.oneCell'])) rfl rfl (by decide) (by omega) (by omega) rfl (fun v8 M8 o8 => ?_)
                obtain ⟨a8, c8, rfl, _, _⟩ := o8.form
                obtain ⟨Z, hZ, ho8⟩ := o8.permE
                refine HL.perm ?_ (hZ.trans (app_swap Z [_, _, _] _))
                repeat (first | refine op_ ?_ | refine bx_ (fun _ => ?_))
                refine ha_quiet [9] (by rfl) (by kernel_rfl) ?_
                repeat (first | refine gd_ ?_)
                refine ha_fork1 10 (by rfl) (by kernel_rfl) (by rfl) (by first | exact Imp.refl _ | exact Imp.drop (Imp.refl _) | exact Imp.drop (Imp.drop (Imp.refl _)) | exact Imp.drop (Imp.drop (Imp.drop (Imp.refl _))) | exact Imp.drop (Imp.drop (Imp.drop (Imp.drop (Imp.refl _)))) | exact Imp.drop (Imp.drop (Imp.drop (Imp.drop (Imp.drop (Imp.refl _))))) | exact Imp.drop (Imp.drop (Imp.drop (Imp.drop (Imp.drop (Imp.drop (Imp.refl _)))))) | exact Imp.drop (Imp.drop (Imp.drop (Imp.drop (Imp.drop (Imp.drop (Imp.drop (Imp.refl _))))))) | exact Imp.drop (Imp.drop (Imp.drop (Imp.drop (Imp.drop (Imp.drop (Imp.drop (Imp.drop (Imp.refl _)))))))) | assumption | exact Imp.drop (by assumption) | exact Imp.drop (Imp.drop (by assumption)) | exact imp_nil _ | exact Imp.drop2 (Imp.refl _) | exact Imp.drop2 (Imp.drop2 (Imp.refl _)) | exact Imp.drop (Imp.drop2 (Imp.refl _))) ?_
                · skip
                  repeat (first | refine op_ ?_ | refine bx_ (fun _ => ?_))
                  refine ha_end (by rfl) (by kernel_rfl) (by first | exact Imp.refl _ | exact Imp.drop (Imp.refl _) | exact Imp.drop (Imp.drop (Imp.refl _)) | exact Imp.drop (Imp.drop (Imp.drop (Imp.refl _))) | exact Imp.drop (Imp.drop (Imp.drop (Imp.drop (Imp.refl _)))) | exact Imp.drop (Imp.drop (Imp.drop (Imp.drop (Imp.drop (Imp.refl _))))) | exact Imp.drop (Imp.drop (Imp.drop (Imp.drop (Imp.drop (Imp.drop (Imp.refl _)))))) | exact Imp.drop (Imp.drop (Imp.drop (Imp.drop (Imp.drop (Imp.drop (Imp.drop (Imp.refl _))))))) | exact Imp.drop (Imp.drop (Imp.drop (Imp.drop (Imp.drop (Imp.drop (Imp.drop (Imp.drop (Imp.refl _)))))))) | assumption | exact Imp.drop (by assumption) | exact Imp.drop (Imp.drop (by assumption)) | exact imp_nil _ | exact Imp.drop2 (Imp.refl _) | exact Imp.drop2 (Imp.drop2 (Imp.refl _)) | exact Imp.drop (Imp.drop2 (Imp.refl _))) ?_
                  exact ⟨a2, n2, c2, .slice a8 (j + 1) c8, Z, fun F => by rw [List.flatMap_append]; exact ho8 F, hb2, Imp.perm (List.perm_middle (l₁ := [_, _])).symm (Imp.perm (List.Perm.refl _) (Imp.drop (Imp.refl _))), rfl, rfl, rfl, rfl, rfl, trivial⟩
      · skip
        refine hl_call rfl rfl (inumS_fn (s := s) hb iX) (fun v M hv => ?_)
        obtain ⟨a1, n1, c1, rfl, rfl, hb1⟩ := hv
        repeat (first | refine op_ ?_ | refine bx_ (fun _ => ?_))
        refine ha_fork2 1 5 (by rfl) (by kernel_rfl) (by rfl) (by rfl) (by first | exact Imp.refl _ | exact Imp.drop (Imp.refl _) | exact Imp.drop (Imp.drop (Imp.refl _)) | exact Imp.drop (Imp.drop (Imp.drop (Imp.refl _))) | exact Imp.drop (Imp.drop (Imp.drop (Imp.drop (Imp.refl _)))) | exact Imp.drop (Imp.drop (Imp.drop (Imp.drop (Imp.drop (Imp.refl _))))) | exact Imp.drop (Imp.drop (Imp.drop (Imp.drop (Imp.drop (Imp.drop (Imp.refl _)))))) | exact Imp.drop (Imp.drop (Imp.drop (Imp.drop (Imp.drop (Imp.drop (Imp.drop (Imp.refl _))))))) | exact Imp.drop (Imp.drop (Imp.drop (Imp.drop (Imp.drop (Imp.drop (Imp.drop (Imp.drop (Imp.refl _)))))))) | assumption | exact Imp.drop (by assumption) | exact Imp.drop (Imp.drop (by assumption)) | exact imp_nil _ | exact Imp.drop2 (Imp.refl _) | exact Imp.drop2 (Imp.drop2 (Imp.refl _)) | exact Imp.drop (Imp.drop2 (Imp.refl _))) ?_ ?_
        · skip
          repeat (first | refine op_ ?_ | refine bx_ (fun _ => ?_))
          refine ha_fork1 5 (by rfl) (by kernel_rfl) (by rfl) (by first | exact Imp.refl _ | exact Imp.drop (Imp.refl _) | exact Imp.drop (Imp.drop (Imp.refl _)) | exact Imp.drop (Imp.drop (Imp.drop (Imp.refl _))) | exact Imp.drop (Imp.drop (Imp.drop (Imp.drop (Imp.refl _)))) | exact Imp.drop (Imp.drop (Imp.drop (Imp.drop (Imp.drop (Imp.refl _))))) | exact Imp.drop (Imp.drop (Imp.drop (Imp.drop (Imp.drop (Imp.drop (Imp.refl _)))))) | exact Imp.drop (Imp.drop (Imp.drop (Imp.drop (Imp.drop (Imp.drop (Imp.drop (Imp.refl _))))))) | exact Imp.drop (Imp.drop (Imp.drop (Imp.drop (Imp.drop (Imp.drop (Imp.drop (Imp.drop (Imp.refl _)))))))) | assumption | exact Imp.drop (by assumption) | exact Imp.drop (Imp.drop (by assumption)) | exact imp_nil _ | exact Imp.drop2 (Imp.refl _) | exact Imp.drop2 (Imp.drop2 (Imp.refl _)) | exact Imp.drop (Imp.drop2 (Imp.refl _))) ?_
          · skip
            refine hl_call rfl rfl (inumS_fn (s := s.num.2) hb1 iX) (fun v M hv => ?_)
            obtain ⟨a2, n2, c2, rfl, rfl, hb2⟩ := hv
            repeat (first | refine op_ ?_ | refine bx_ (fun _ => ?_))
            refine ha_quiet [6] (by rfl) (by kernel_rfl) ?_
            repeat (first | refine gd_ ?_)
            refine ha_fork1 7 (by rfl) (by kernel_rfl) (by rfl) (by first | exact Imp.refl _ | exact Imp.drop (Imp.refl _) | exact Imp.drop (Imp.drop (Imp.refl _)) | exact Imp.drop (Imp.drop (Imp.drop (Imp.refl _))) | exact Imp.drop (Imp.drop (Imp.drop (Imp.drop (Imp.refl _)))) | exact Imp.drop (Imp.drop (Imp.drop (Imp.drop (Imp.drop (Imp.refl _))))) | exact Imp.drop (Imp.drop (Imp.drop (Imp.drop (Imp.drop (Imp.drop (Imp.refl _)))))) | exact Imp.drop (Imp.drop (Imp.drop (Imp.drop (Imp.drop (Imp.drop (Imp.drop (Imp.refl _))))))) | exact Imp.drop (Imp.drop (Imp.drop (Imp.drop (Imp.drop (Imp.drop (Imp.drop (Imp.drop (Imp.refl _)))))))) | assumption | exact Imp.drop (by assumption) | exact Imp.drop (Imp.drop (by assumption)) | exact imp_nil _ | exact Imp.drop2 (Imp.refl _) | exact Imp.drop2 (Imp.drop2 (Imp.refl _)) | exact Imp.drop (Imp.drop2 (Imp.refl _))) ?_
            · skip
              repeat (first | refine op_ ?_ | refine bx_ (fun _ => ?_))
              rename_i gb
              refine ha_fork1 8 (by rfl) (by kernel_rfl) (by rfl) (by first | exact Imp.refl _ | exact Imp.drop (Imp.refl _) | exact Imp.drop (Imp.drop (Imp.refl _)) | exact Imp.drop (Imp.drop (Imp.drop (Imp.refl _))) | exact Imp.drop (Imp.drop (Imp.drop (Imp.drop (Imp.refl _)))) | exact Imp.drop (Imp.drop (Imp.drop (Imp.drop (Imp.drop (Imp.refl _))))) | exact Imp.drop (Imp.drop (Imp.drop (Imp.drop (Imp.drop (Imp.drop (Imp.refl _)))))) | exact Imp.drop (Imp.drop (Imp.drop (Imp.drop (Imp.drop (Imp.drop (Imp.drop (Imp.refl _))))))) | exact Imp.drop (Imp.drop (Imp.drop (Imp.drop (Imp.drop (Imp.drop (Imp.drop (Imp.drop (Imp.refl _)))))))) | assumption | exact Imp.drop (by assumption) | exact Imp.drop (Imp.drop (by assumption)) | exact imp_nil _ | exact Imp.drop2 (Imp.refl _) | exact Imp.drop2 (Imp.drop2 (Imp.refl _)) | exact Imp.drop (Imp.drop2 (Imp.refl _))) ?_
              · skip
                refine hl_append_own (F := ⟨gb, 78, [.int .i64 s.num.1, .int .i64 s.num.2.num.1], 1 * 2⟩ :: InB gi a2 n2 c2 s.num.2.num.2.e :: ⟨g5, 27, edC f (fun _ => 0) (.slice pa G2.1.length pc) (.slice av j cv) (.slice none 0 0), 19⟩ :: (Xp ++ (b2 :: H))) rfl rfl ((((ho _).under _).under _).under _) (Rds.ent (n := 2) (l := [.int .i64 s.num.1, .int .i64 s.num.2.num.1]) .here rfl (by simp [Value.oneCell'])) rfl rfl (by decide) (by omega) (by omega) rfl (fun v8 M8 o8 => ?_)
                obtain ⟨a8, c8, rfl, _, _⟩ := o8.form
                obtain ⟨Z, hZ, ho8⟩ := o8.permE
                refine HL.perm ?_ (hZ.trans (app_swap Z [_, _, _] _))
                repeat (first | refine op_ ?_ | refine bx_ (fun _ => ?_))
                refine ha_quiet [9] (by rfl) (by kernel_rfl) ?_
                repeat (first | refine gd_ ?_)
                refine ha_fork1 10 (by rfl) (by kernel_rfl) (by rfl) (by first | exact Imp.refl _ | exact Imp.drop (Imp.refl _) | exact Imp.drop (Imp.drop (Imp.refl _)) | exact Imp.drop (Imp.drop (Imp.drop (Imp.refl _))) | exact Imp.drop (Imp.drop (Imp.drop (Imp.drop (Imp.refl _)))) | exact Imp.drop (Imp.drop (Imp.drop (Imp.drop (Imp.drop (Imp.refl _))))) | exact Imp.drop (Imp.drop (Imp.drop (Imp.drop (Imp.drop (Imp.drop (Imp.refl _)))))) | exact Imp.drop (Imp.drop (Imp.drop (Imp.drop (Imp.drop (Imp.drop (Imp.drop (Imp.refl _))))))) | exact Imp.drop (Imp.drop (Imp.drop (Imp.drop (Imp.drop (Imp.drop (Imp.drop (Imp.drop (Imp.refl _)))))))) | assumption | exact Imp.drop (by assumption) | exact Imp.drop (Imp.drop (by assumption)) | exact imp_nil _ | exact Imp.drop2 (Imp.refl _) | exact Imp.drop2 (Imp.drop2 (Imp.refl _)) | exact Imp.drop (Imp.drop2 (Imp.refl _))) ?_
                · skip
                  repeat (first | refine op_ ?_ | refine bx_ (fun _ => ?_))
                  refine ha_end (by rfl) (by kernel_rfl) (by first | exact Imp.refl _ | exact Imp.drop (Imp.refl _) | exact Imp.drop (Imp.drop (Imp.refl _)) | exact Imp.drop (Imp.drop (Imp.drop (Imp.refl _))) | exact Imp.drop (Imp.drop (Imp.drop (Imp.drop (Imp.refl _)))) | exact Imp.drop (Imp.drop (Imp.drop (Imp.drop (Imp.drop (Imp.refl _))))) | exact Imp.drop (Imp.drop (Imp.drop (Imp.drop (Imp.drop (Imp.drop (Imp.refl _)))))) | exact Imp.drop (Imp.drop (Imp.drop (Imp.drop (Imp.drop (Imp.drop (Imp.drop (Imp.refl _))))))) | exact Imp.drop (Imp.drop (Imp.drop (Imp.drop (Imp.drop (Imp.drop (Imp.drop (Imp.drop (Imp.refl _)))))))) | assumption | exact Imp.drop (by assumption) | exact Imp.drop (Imp.drop (by assumption)) | exact imp_nil _ | exact Imp.drop2 (Imp.refl _) | exact Imp.drop2 (Imp.drop2 (Imp.refl _)) | exact Imp.drop (Imp.drop2 (Imp.refl _))) ?_
                  exact ⟨a2, n2, c2, .slice a8 (j + 1) c8, Z, fun F => by rw [List.flatMap_append]; exact ho8 F, hb2, Imp.perm (List.perm_middle (l₁ := [_, _])).symm (Imp.perm (List.Perm.refl _) (Imp.drop (Imp.refl _))), rfl, rfl, rfl, rfl, rfl, trivial⟩
        · skip
          refine hl_call rfl rfl (inumS_fn (s := s.num.2) hb1 iX) (fun v M hv => ?_)
          obtain ⟨a2, n2, c2, rfl, rfl, hb2⟩ := hv
          repeat (first | refine op_ ?_ | refine bx_ (fun _ => ?_))
          refine ha_quiet [6] (by rfl) (by kernel_rfl) ?_
          repeat (first | refine gd_ ?_)
          refine ha_fork2 1 7 (by rfl) (by kernel_rfl) (by rfl) (by rfl) (by first | exact Imp.refl _ | exact Imp.drop (Imp.refl _) | exact Imp.drop (Imp.drop (Imp.refl _)) | exact Imp.drop (Imp.drop (Imp.drop (Imp.refl _))) | exact Imp.drop (Imp.drop (Imp.drop (Imp.drop (Imp.refl _)))) | exact Imp.drop (Imp.drop (Imp.drop (Imp.drop (Imp.drop (Imp.refl _))))) | exact Imp.drop (Imp.drop (Imp.drop (Imp.drop (Imp.drop (Imp.drop (Imp.refl _)))))) | exact Imp.drop (Imp.drop (Imp.drop (Imp.drop (Imp.drop (Imp.drop (Imp.drop (Imp.refl _))))))) | exact Imp.drop (Imp.drop (Imp.drop (Imp.drop (Imp.drop (Imp.drop (Imp.drop (Imp.drop (Imp.refl _)))))))) | assumption | exact Imp.drop (by assumption) | exact Imp.drop (Imp.drop (by assumption)) | exact imp_nil _ | exact Imp.drop2 (Imp.refl _) | exact Imp.drop2 (Imp.drop2 (Imp.refl _)) | exact Imp.drop (Imp.drop2 (Imp.refl _))) ?_ ?_
          · skip
            repeat (first | refine op_ ?_ | refine bx_ (fun _ => ?_))
            refine ha_fork1 7 (by rfl) (by kernel_rfl) (by rfl) (by first | exact Imp.refl _ | exact Imp.drop (Imp.refl _) | exact Imp.drop (Imp.drop (Imp.refl _)) | exact Imp.drop (Imp.drop (Imp.drop (Imp.refl _))) | exact Imp.drop (Imp.drop (Imp.drop (Imp.drop (Imp.refl _)))) | exact Imp.drop (Imp.drop (Imp.drop (Imp.drop (Imp.drop (Imp.refl _))))) | exact Imp.drop (Imp.drop (Imp.drop (Imp.drop (Imp.drop (Imp.drop (Imp.refl _)))))) | exact Imp.drop (Imp.drop (Imp.drop (Imp.drop (Imp.drop (Imp.drop (Imp.drop (Imp.refl _))))))) | exact Imp.drop (Imp.drop (Imp.drop (Imp.drop (Imp.drop (Imp.drop (Imp.drop (Imp.drop (Imp.refl _)))))))) | assumption | exact Imp.drop (by assumption) | exact Imp.drop (Imp.drop (by assumption)) | exact imp_nil _ | exact Imp.drop2 (Imp.refl _) | exact Imp.drop2 (Imp.drop2 (Imp.refl _)) | exact Imp.drop (Imp.drop2 (Imp.refl _))) ?_
            · skip
              repeat (first | refine op_ ?_ | refine bx_ (fun _ => ?_))
              rename_i gb
              refine ha_fork1 8 (by rfl) (by kernel_rfl) (by rfl) (by first | exact Imp.refl _ | exact Imp.drop (Imp.refl _) | exact Imp.drop (Imp.drop (Imp.refl _)) | exact Imp.drop (Imp.drop (Imp.drop (Imp.refl _))) | exact Imp.drop (Imp.drop (Imp.drop (Imp.drop (Imp.refl _)))) | exact Imp.drop (Imp.drop (Imp.drop (Imp.drop (Imp.drop (Imp.refl _))))) | exact Imp.drop (Imp.drop (Imp.drop (Imp.drop (Imp.drop (Imp.drop (Imp.refl _)))))) | exact Imp.drop (Imp.drop (Imp.drop (Imp.drop (Imp.drop (Imp.drop (Imp.drop (Imp.refl _))))))) | exact Imp.drop (Imp.drop (Imp.drop (Imp.drop (Imp.drop (Imp.drop (Imp.drop (Imp.drop (Imp.refl _)))))))) | assumption | exact Imp.drop (by assumption) | exact Imp.drop (Imp.drop (by assumption)) | exact imp_nil _ | exact Imp.drop2 (Imp.refl _) | exact Imp.drop2 (Imp.drop2 (Imp.refl _)) | exact Imp.drop (Imp.drop2 (Imp.refl _))) ?_
              · skip
                refine hl_append_own (F := ⟨gb, 78, [.int .i64 s.num.1, .int .i64 s.num.2.num.1], 1 * 2⟩ :: InB gi a2 n2 c2 s.num.2.num.2.e :: ⟨g5, 27, edC f (fun _ => 0) (.slice pa G2.1.length pc) (.slice av j cv) (.slice none 0 0), 19⟩ :: (Xp ++ (b2 :: H))) rfl rfl ((((ho _).under _).under _).under _) (Rds.ent (n := 2) (l := [.int .i64 s.num.1, .int .i64 s.num.2.num.1]) .here rfl (by simp [Value.oneCell'])) rfl rfl (by decide) (by omega) (by omega) rfl (fun v8 M8 o8 => ?_)
                obtain ⟨a8, c8, rfl, _, _⟩ := o8.form
                obtain ⟨Z, hZ, ho8⟩ := o8.permE
                refine HL.perm ?_ (hZ.trans (app_swap Z [_, _, _] _))
                repeat (first | refine op_ ?_ | refine bx_ (fun _ => ?_))
                refine ha_quiet [9] (by rfl) (by kernel_rfl) ?_
                repeat (first | refine gd_ ?_)
                refine ha_fork1 10 (by rfl) (by kernel_rfl) (by rfl) (by first | exact Imp.refl _ | exact Imp.drop (Imp.refl _) | exact Imp.drop (Imp.drop (Imp.refl _)) | exact Imp.drop (Imp.drop (Imp.drop (Imp.refl _))) | exact Imp.drop (Imp.drop (Imp.drop (Imp.drop (Imp.refl _)))) | exact Imp.drop (Imp.drop (Imp.drop (Imp.drop (Imp.drop (Imp.refl _))))) | exact Imp.drop (Imp.drop (Imp.drop (Imp.drop (Imp.drop (Imp.drop (Imp.refl _)))))) | exact Imp.drop (Imp.drop (Imp.drop (Imp.drop (Imp.drop (Imp.drop (Imp.drop (Imp.refl _))))))) | exact Imp.drop (Imp.drop (Imp.drop (Imp.drop (Imp.drop (Imp.drop (Imp.drop (Imp.drop (Imp.refl _)))))))) | assumption | exact Imp.drop (by assumption) | exact Imp.drop (Imp.drop (by assumption)) | exact imp_nil _ | exact Imp.drop2 (Imp.refl _) | exact Imp.drop2 (Imp.drop2 (Imp.refl _)) | exact Imp.drop (Imp.drop2 (Imp.refl _))) ?_
                · skip
                  repeat (first | refine op_ ?_ | refine bx_ (fun _ => ?_))
                  refine ha_end (by rfl) (by kernel_rfl) (by first | exact Imp.refl _ | exact Imp.drop (Imp.refl _) | exact Imp.drop (Imp.drop (Imp.refl _)) | exact Imp.drop (Imp.drop (Imp.drop (Imp.refl _))) | exact Imp.drop (Imp.drop (Imp.drop (Imp.drop (Imp.refl _)))) | exact Imp.drop (Imp.drop (Imp.drop (Imp.drop (Imp.drop (Imp.refl _))))) | exact Imp.drop (Imp.drop (Imp.drop (Imp.drop (Imp.drop (Imp.drop (Imp.refl _)))))) | exact Imp.drop (Imp.drop (Imp.drop (Imp.drop (Imp.drop (Imp.drop (Imp.drop (Imp.refl _))))))) | exact Imp.drop (Imp.drop (Imp.drop (Imp.drop (Imp.drop (Imp.drop (Imp.drop (Imp.drop (Imp.refl _)))))))) | assumption | exact Imp.drop (by assumption) | exact Imp.drop (Imp.drop (by assumption)) | exact imp_nil _ | exact Imp.drop2 (Imp.refl _) | exact Imp.drop2 (Imp.drop2 (Imp.refl _)) | exact Imp.drop (Imp.drop2 (Imp.refl _))) ?_
                  exact ⟨a2, n2, c2, .slice a8 (j + 1) c8, Z, fun F => by rw [List.flatMap_append]; exact ho8 F, hb2, Imp.perm (List.perm_middle (l₁ := [_, _])).symm (Imp.perm (List.Perm.refl _) (Imp.drop (Imp.refl _))), rfl, rfl, rfl, rfl, rfl, trivial⟩
          · skip
            repeat (first | refine op_ ?_ | refine bx_ (fun _ => ?_))
            rename_i gb
            refine ha_fork1 1 (by rfl) (by kernel_rfl) (by rfl) (by first | exact Imp.refl _ | exact Imp.drop (Imp.refl _) | exact Imp.drop (Imp.drop (Imp.refl _)) | exact Imp.drop (Imp.drop (Imp.drop (Imp.refl _))) | exact Imp.drop (Imp.drop (Imp.drop (Imp.drop (Imp.refl _)))) | exact Imp.drop (Imp.drop (Imp.drop (Imp.drop (Imp.drop (Imp.refl _))))) | exact Imp.drop (Imp.drop (Imp.drop (Imp.drop (Imp.drop (Imp.drop (Imp.refl _)))))) | exact Imp.drop (Imp.drop (Imp.drop (Imp.drop (Imp.drop (Imp.drop (Imp.drop (Imp.refl _))))))) | exact Imp.drop (Imp.drop (Imp.drop (Imp.drop (Imp.drop (Imp.drop (Imp.drop (Imp.drop (Imp.refl _)))))))) | assumption | exact Imp.drop (by assumption) | exact Imp.drop (Imp.drop (by assumption)) | exact imp_nil _ | exact Imp.drop2 (Imp.refl _) | exact Imp.drop2 (Imp.drop2 (Imp.refl _)) | exact Imp.drop (Imp.drop2 (Imp.refl _))) ?_
            · skip
              repeat (first | refine op_ ?_ | refine bx_ (fun _ => ?_))
              refine ha_fork1 8 (by rfl) (by kernel_rfl) (by rfl) (by first | exact Imp.refl _ | exact Imp.drop (Imp.refl _) | exact Imp.drop (Imp.drop (Imp.refl _)) | exact Imp.drop (Imp.drop (Imp.drop (Imp.refl _))) | exact Imp.drop (Imp.drop (Imp.drop (Imp.drop (Imp.refl _)))) | exact Imp.drop (Imp.drop (Imp.drop (Imp.drop (Imp.drop (Imp.refl _))))) | exact Imp.drop (Imp.drop (Imp.drop (Imp.drop (Imp.drop (Imp.drop (Imp.refl _)))))) | exact Imp.drop (Imp.drop (Imp.drop (Imp.drop (Imp.drop (Imp.drop (Imp.drop (Imp.refl _))))))) | exact Imp.drop (Imp.drop (Imp.drop (Imp.drop (Imp.drop (Imp.drop (Imp.drop (Imp.drop (Imp.refl _)))))))) | assumption | exact Imp.drop (by assumption) | exact Imp.drop (Imp.drop (by assumption)) | exact imp_nil _ | exact Imp.drop2 (Imp.refl _) | exact Imp.drop2 (Imp.drop2 (Imp.refl _)) | exact Imp.drop (Imp.drop2 (Imp.refl _))) ?_
              · skip
                refine hl_append_own (F := ⟨gb, 78, [.int .i64 s.num.1, .int .i64 s.num.2.num.1], 1 * 2⟩ :: InB gi a2 n2 c2 s.num.2.num.2.e :: ⟨g5, 27, edC f (fun _ => 0) (.slice pa G2.1.length pc) (.slice av j cv) (.slice none 0 0), 19⟩ :: (Xp ++ (b2 :: H))) rfl rfl ((((ho _).under _).under _).under _) (Rds.ent (n := 2) (l := [.int .i64 s.num.1, .int .i64 s.num.2.num.1]) .here rfl (by simp [Value.oneCell'])) rfl rfl (by decide) (by omega) (by omega) rfl (fun v8 M8 o8 => ?_)
                obtain ⟨a8, c8, rfl, _, _⟩ := o8.form
                obtain ⟨Z, hZ, ho8⟩ := o8.permE
                refine HL.perm ?_ (hZ.trans (app_swap Z [_, _, _] _))
                repeat (first | refine op_ ?_ | refine bx_ (fun _ => ?_))
                refine ha_quiet [9] (by rfl) (by kernel_rfl) ?_
                repeat (first | refine gd_ ?_)
                refine ha_fork1 10 (by rfl) (by kernel_rfl) (by rfl) (by first | exact Imp.refl _ | exact Imp.drop (Imp.refl _) | exact Imp.drop (Imp.drop (Imp.refl _)) | exact Imp.drop (Imp.drop (Imp.drop (Imp.refl _))) | exact Imp.drop (Imp.drop (Imp.drop (Imp.drop (Imp.refl _)))) | exact Imp.drop (Imp.drop (Imp.drop (Imp.drop (Imp.drop (Imp.refl _))))) | exact Imp.drop (Imp.drop (Imp.drop (Imp.drop (Imp.drop (Imp.drop (Imp.refl _)))))) | exact Imp.drop (Imp.drop (Imp.drop (Imp.drop (Imp.drop (Imp.drop (Imp.drop (Imp.refl _))))))) | exact Imp.drop (Imp.drop (Imp.drop (Imp.drop (Imp.drop (Imp.drop (Imp.drop (Imp.drop (Imp.refl _)))))))) | assumption | exact Imp.drop (by assumption) | exact Imp.drop (Imp.drop (by assumption)) | exact imp_nil _ | exact Imp.drop2 (Imp.refl _) | exact Imp.drop2 (Imp.drop2 (Imp.refl _)) | exact Imp.drop (Imp.drop2 (Imp.refl _))) ?_
                · skip
                  repeat (first | refine op_ ?_ | refine bx_ (fun _ => ?_))
                  refine ha_end (by rfl) (by kernel_rfl) (by first | exact Imp.refl _ | exact Imp.drop (Imp.refl _) | exact Imp.drop (Imp.drop (Imp.refl _)) | exact Imp.drop (Imp.drop (Imp.drop (Imp.refl _))) | exact Imp.drop (Imp.drop (Imp.drop (Imp.drop (Imp.refl _)))) | exact Imp.drop (Imp.drop (Imp.drop (Imp.drop (Imp.drop (Imp.refl _))))) | exact Imp.drop (Imp.drop (Imp.drop (Imp.drop (Imp.drop (Imp.drop (Imp.refl _)))))) | exact Imp.drop (Imp.drop (Imp.drop (Imp.drop (Imp.drop (Imp.drop (Imp.drop (Imp.refl _))))))) | exact Imp.drop (Imp.drop (Imp.drop (Imp.drop (Imp.drop (Imp.drop (Imp.drop (Imp.drop (Imp.refl _)))))))) | assumption | exact Imp.drop (by assumption) | exact Imp.drop (Imp.drop (by assumption)) | exact imp_nil _ | exact Imp.drop2 (Imp.refl _) | exact Imp.drop2 (Imp.drop2 (Imp.refl _)) | exact Imp.drop (Imp.drop2 (Imp.refl _))) ?_
                  exact ⟨a2, n2, c2, .slice a8 (j + 1) c8, Z, fun F => by rw [List.flatMap_append]; exact ho8 F, hb2, Imp.perm (List.perm_middle (l₁ := [_, _])).symm (Imp.perm (List.Perm.refl _) (Imp.drop (Imp.refl _))), rfl, rfl, rfl, rfl, rfl, trivial⟩
    rintro fr M ⟨a2, n2, c2, sv2, Xs2, ho2, hb2, hi2, hff⟩
    obtain ⟨base, rfl⟩ := hff.out
    clear hff
    refine HC.imp ?_ hi2
    repeat (first | refine go_ ?_ | refine bx_ (fun _ => ?_))
    exact ⟨q, by omega, _, Imp.refl _, j + 1, S1 ++ [(⟨s.num.1, s.num.2.num.1⟩ : Pt)], s.num.2.num.2, a2, n2, c2, sv2, Xs2, by omega, by simp [hS1], ⟨by rw [← h1]; simp, h2⟩, ho2, hb2, Imp.refl _, rfl, rfl, rfl, rfl, rfl, trivial⟩
  rintro fr M ⟨a, n, c, sv, Xs, hos, hb, him, hff⟩
  obtain ⟨base, rfl⟩ := hff.out
  clear hff
  refine HC.imp ?_ him
  obtain ⟨sa, sc, rfl, _, _⟩ := (hos []).form
  have hn4 := hb.eq
  have hle5 := Rd.fix_le 6 G4.2
  obtain ⟨G5, hG5⟩ : ∃ G5, G5 = Rd.fix 6 G4.2 := ⟨_, rfl⟩
  repeat (first | refine go_ ?_ | refine bx_ (fun _ => ?_))
  refine hl_call rfl rfl (imapped_fn (s := G4.2) hb (iT Xs _)) (fun v M hv => ?_)
  obtain ⟨a6, n6, c6, m, rfl, hm, rfl, hb6⟩ := hv
  rw [← hG5] at hm hb6 hle5 ⊢
  repeat (first | refine go_ ?_ | refine bx_ (fun _ => ?_))
  have hl6 := hb6.eq
  refine hl_call rfl rfl (inumsS_fn (s := G5.2) hb6 (iT Xs _) (by omega)) (fun v M hv => ?_)
  obtain ⟨a7, n7, c7, Xq, hi7, hoq, hb7⟩ := hv
  refine HL.imp ?_ hi7
  obtain ⟨G6, hG6⟩ : ∃ G6, G6 = G5.2.nums := ⟨_, rfl⟩
  rw [← hG6] at hoq hb7 ⊢
  obtain ⟨qa, qc, rfl, _, _⟩ := (hoq []).form
  repeat (first | refine go_ ?_ | refine bx_ (fun _ => ?_))
  refine hl_storeN (i := 12) (n := 6) rfl rfl rfl (by simp [Value.oneCell']) (.there (Take.app Xq .here)) (by simp) rfl ?_
  refine HL.perm (H' := ⟨g5, 27, edC f m (.slice pa G2.1.length pc) (.slice sa G4.1.length sc) (.slice none 0 0), 19⟩ :: InB gi a7 n7 c7 G6.2.e :: (Xq ++ (Xs ++ (Xp ++ (b2 :: H))))) ?_ (List.Perm.refl _)
  repeat (first | refine go_ ?_ | refine bx_ (fun _ => ?_))
  refine HL.perm (H' := InB gi a7 n7 c7 G6.2.e :: ⟨g5, 27, edC f m (.slice pa G2.1.length pc) (.slice sa G4.1.length sc) (.slice qa G6.1.length qc), 19⟩ :: (Xq ++ (Xs ++ (Xp ++ (b2 :: H))))) ?_ (List.Perm.swap _ _ _)
  refine hl_call rfl rfl (iend_fn (s := G6.2) hb7) (fun v M hv => ?_)
  obtain rfl := hv
  have hR : getR l = (⟨f10 f, G2.1, G4.1, f6 m, G6.1⟩, G6.2) := by
    unfold getR
    dsimp only
    rw [hf10]
    dsimp only
    rw [← hG2, ← hG3]
    dsimp only
    rw [← hG4, ← hG5, hm, ← hG6]
  have hE : getE l = if G6.2.endE = 0 then (⟨f10 f, G2.1, G4.1, f6 m, G6.1⟩, 0) else (Ed.zero, G6.2.endE) := by
    unfold getE
    rw [hR]
  rw [hE]
  generalize G6.2.endE = ee
  refine HL.perm (H' := b2 :: InB gi a7 n7 c7 ee :: ⟨g5, 27, edC f m (.slice pa G2.1.length pc) (.slice sa G4.1.length sc) (.slice qa G6.1.length qc), 19⟩ :: (Xq ++ (Xs ++ (Xp ++ H)))) ?_ (Take.there (.there (Take.app Xq (Take.app Xs (Take.app Xp .here))))).perm
  rw [hbe]
  by_cases h0 : ee = 0
  · rw [if_pos h0, h0]
    repeat (first | refine go_ ?_ | refine bx_ (fun _ => ?_))
    refine finCI (n := 19) rfl rfl .here rfl rfl ⟨f, m, .slice pa G2.1.length pc, .slice sa G4.1.length sc, .slice qa G6.1.length qc, G2.1, G6.1, G4.1, Xp, Xs, Xq, rfl, rfl, rfl, hop, hos, hoq⟩ (Imp.drop (Imp.drop (Imp.drop (Imp.perm (rev3 Xq Xs Xp H) (Imp.refl _)))))
  · rw [if_neg h0]
    repeat (first | refine go_ ?_ | refine bx_ (fun _ => ?_))
    obtain ⟨T, hT⟩ : ∃ T, T = ⟨g5, 27, edC f m (.slice pa G2.1.length pc) (.slice sa G4.1.length sc) (.slice qa G6.1.length qc), 19⟩ :: (Xq ++ (Xs ++ (Xp ++ H))) := ⟨_, rfl⟩
    have iT2 : Imp T H := by rw [hT]; exact Imp.drop ((Imp.tail Xq _).trans ((Imp.tail Xs _).trans (Imp.tail Xp _)))
    rw [← hT]
    refine hc_meet (fun fr M => Agr fr [(2, .pointer (some ⟨g2, 0, none⟩)), (3, .int .i64 (ee : Int))] ∧ M = ⟨g2, 27, edC (fun _ => 0) (fun _ => 0) (.slice none 0 0) (.slice none 0 0) (.slice none 0 0), 19⟩ :: InB gi a7 n7 c7 ee :: T) ?_ ?_
    · refine hc_drawA (InB gi a7 n7 c7 ee :: T) (by kernel_rfl) ?_
      refine ha_quiet [0, 1, 2, 3, 4] (by rfl) (by kernel_rfl) ?_
      repeat (first | refine gd_ ?_)
      refine ha_fork1 5 (by rfl) (by kernel_rfl) (by rfl) (by first | exact Imp.refl _ | exact Imp.drop (Imp.refl _) | exact Imp.drop (Imp.drop (Imp.refl _)) | exact Imp.drop (Imp.drop (Imp.drop (Imp.refl _))) | exact Imp.drop (Imp.drop (Imp.drop (Imp.drop (Imp.refl _)))) | exact Imp.drop (Imp.drop (Imp.drop (Imp.drop (Imp.drop (Imp.refl _))))) | exact Imp.drop (Imp.drop (Imp.drop (Imp.drop (Imp.drop (Imp.drop (Imp.refl _)))))) | exact Imp.drop (Imp.drop (Imp.drop (Imp.drop (Imp.drop (Imp.drop (Imp.drop (Imp.refl _))))))) | exact Imp.drop (Imp.drop (Imp.drop (Imp.drop (Imp.drop (Imp.drop (Imp.drop (Imp.drop (Imp.refl _)))))))) | assumption | exact Imp.drop (by assumption) | exact Imp.drop (Imp.drop (by assumption)) | exact imp_nil _ | exact Imp.drop2 (Imp.refl _) | exact Imp.drop2 (Imp.drop2 (Imp.refl _)) | exact Imp.drop (Imp.drop2 (Imp.refl _))) ?_
      · skip
        repeat (first | refine op_ ?_ | refine bx_ (fun _ => ?_))
        refine ha_quiet [6] (by rfl) (by kernel_rfl) ?_
        repeat (first | refine gd_ ?_)
        refine ha_end (by rfl) (by kernel_rfl) (by first | exact Imp.refl _ | exact Imp.drop (Imp.refl _) | exact Imp.drop (Imp.drop (Imp.refl _)) | exact Imp.drop (Imp.drop (Imp.drop (Imp.refl _))) | exact Imp.drop (Imp.drop (Imp.drop (Imp.drop (Imp.refl _)))) | exact Imp.drop (Imp.drop (Imp.drop (Imp.drop (Imp.drop (Imp.refl _))))) | exact Imp.drop (Imp.drop (Imp.drop (Imp.drop (Imp.drop (Imp.drop (Imp.refl _)))))) | exact Imp.drop (Imp.drop (Imp.drop (Imp.drop (Imp.drop (Imp.drop (Imp.drop (Imp.refl _))))))) | exact Imp.drop (Imp.drop (Imp.drop (Imp.drop (Imp.drop (Imp.drop (Imp.drop (Imp.drop (Imp.refl _)))))))) | assumption | exact Imp.drop (by assumption) | exact Imp.drop (Imp.drop (by assumption)) | exact imp_nil _ | exact Imp.drop2 (Imp.refl _) | exact Imp.drop2 (Imp.drop2 (Imp.refl _)) | exact Imp.drop (Imp.drop2 (Imp.refl _))) ?_
        exact ⟨⟨rfl, rfl, trivial⟩, rfl⟩
    rintro fr M ⟨hff, rfl⟩
    obtain ⟨base, rfl⟩ := hff.out
    clear hff
    repeat (first | refine go_ ?_ | refine bx_ (fun _ => ?_))
    refine finCI (n := 19) rfl rfl .here rfl rfl ⟨fun _ => 0, fun _ => 0, .slice none 0 0, .slice none 0 0, .slice none 0 0, [], [], [], [], [], [], rfl, rfl, rfl, fun F => Own.nil, fun F => Own.nil, fun F => Own.nil⟩ (Imp.drop (Imp.drop iT2))
end
end Go.Proofs.Ytoobhebbgbhahaa
