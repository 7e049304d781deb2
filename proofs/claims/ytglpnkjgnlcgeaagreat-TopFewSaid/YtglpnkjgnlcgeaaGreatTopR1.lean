/- Words and contracts, part 1. -/
import Derived.Test.YtglpnkjgnlcgeaaGreatProg
import Derived.Test.YtglpnkjgnlcgeaaGreatChecked
import Derived.Below
import Derived.WalkKit
import Derived.WalkLawsBesides
import Derived.WalkSpells
import Derived.Lib.Hide
import Derived.Laws.Rows
import Derived.Laws.AppendOwnNone
import Derived.Maps.AppendAt
import Derived.ProofKit
import Derived.Deep.Slices
import Derived.WideShapes
import Derived.RangeFuncNested
import Derived.RangeFuncBound
import Derived.RangeFuncCalls
import Derived.RangeFuncLeaves
import Derived.RangeFuncBox
import Derived.Shelf.Abstract
import Derived.Shelf.RegionOpen
import Derived.OwnWalkIn
import Derived.TacticsInMore
import Derived.LoopNIn
import Derived.LoopIn
import Derived.Lib.AppendZerosOnto
import Derived.Lib.SliceRun
import Derived.Lib.Walk
import Derived.Deep.LoopGhost
import Derived.Laws.CopyOwn
import Derived.Laws.CopyRow
import Derived.OrdersHeld
import Derived.Deep.QuietTactic
import Derived.BigQuiet
import Derived.StillTailTactics
import Derived.OpenShut
import Derived.Deep.DeepCutAuto
import Derived.Laws.MakeOwn
open Array renaming getD->ri,getElem?_eq_some_iff->a_
open Bool renaming false->am,not_eq_true'->tu,true->af
open Decidable renaming em->rm
open Go renaming Act->bm,Addr->bb,Calls->aR,Exit->dT,MemPlace->pJ,Oper->bI,Operand->gV,Program->c9,TypeId->bg,Value->ad,World->ab,cell_of_row->gU,execOp->hs,grownCap->oC,madeCells->mr,maxLen->aG,results->bF,splice->c_,undef->aM,wpAnyH->jE,wpList->eD,wpQuiet->mA,yielded->lS
open Go.Addr renaming add->ni
open Go.Builtin renaming zeroCells->hu
open Go.Calls renaming mono->ba
open Go.Code renaming region->tv
open Go.DataW renaming trod->ku
open Go.Ending renaming returned->aN
open Go.Fence renaming wide->fY
open Go.IntKind renaming i64->aa,u32->ac,u8->aL
open Go.KeepsOthers renaming setCell->k_
open Go.Lit renaming int->ei
open Go.Next renaming value->wD
open Go.Obj renaming cells->Y
open Go.Oper renaming quietUpon->ts,semAt_some->ji,wp->hX
open Go.Region renaming Mode->j5,binds->oB,noSelect->wE,ready->fZ,wanted->ld
open Go.Result renaming andThen->lR
open Go.RowKit renaming Below->an,intOf->bu
open Go.RowKit.Below renaming heap_alloc->hJ,refl->ay
open Go.Value renaming agg->aC,bool->aQ,int->K,pointer->bc,slice->G,tuple->bp
open Go.World renaming alloc->aO,alloc_heap_new->dw,cell?->aI,frozen?->ed,setCell->ah,size_alloc->e9,size_setCell->bB
open Int renaming toNat_natCast->cg
open List renaming cons_append->ej,flatten_append->wz,flatten_cons->i0,getD->al,length->ov,length_append->bJ,length_cons->cN,map_take->BT,mem_cons_self->dM,nil_append->dr,range->fJ,replicate->gj,size_toArray->fy,take_append_drop->kw,take_succ_cons->B0
open List.range renaming loop->JH
open Nat renaming add_assoc->lU,le_refl->aJ,le_succ->gi,le_trans->b9,lt_of_lt_of_le->cB,min->g8,reduceAdd->fI,reduceSub->fX,zero_add->eb,zero_le->ci
open Option renaming none->N,some->R
open Or renaming inl->aD,inr->az
open UInt32 renaming ofNat->fj
open UInt8 renaming ofNat->ee,toNat_inj->ht
open _root_ renaming Array->bd,Bool->aP,CoeDep->k8,Int->O,List->U,Nat->J,Option->aF,UInt32->cT,UInt8->ar,if_neg->aB,if_pos->av,rfl->I
namespace Go.Proofs.YtglpnkjgnlcgeaaGreat
open RowKit Tryz
set_option linter.unusedSimpArgs false
set_option linter.unusedVariables false
set_option maxRecDepth 100000
set_option maxHeartbeats 20000000
abbrev BV:=@Array.all_eq_true'
abbrev BX:=@Array.any_eq_true'
abbrev pT:=@Array.getElem?_eq_getElem
abbrev wB:=@Array.getElem?_modify
abbrev lV:=@Array.getElem?_setIfInBounds_ne
abbrev oG:=@Array.getElem?_setIfInBounds_self_of_lt
abbrev JQ:=@Array.replicate_succ
abbrev gm:=@Array.replicate_zero
abbrev oF:=@Array.size_setIfInBounds
abbrev f_:=@Bool.and_eq_true
abbrev hL:=@Bool.false_eq_true
abbrev wF:=@Bool.not_true
abbrev lT:=@Bool.or_eq_true
abbrev pU:=@DataW.trod_int
abbrev wJ:=@Lib.run_append_grow_zeros
abbrev rj:=@Lib.run_eql_slice_nil
abbrev pN:=@OwnFrom.and
abbrev j4:=@Below.setCell
abbrev nt:=@Sem.run_bind
abbrev lc:=@Sem.run_pure
abbrev tw:=@World.cell?_alloc_new
abbrev ra:=@World.cell?_setCell_other
abbrev lH:=@World.cell?_setCell_same'
abbrev wx:=@World.frozen?_setCell
abbrev g7:=@belowK_b
abbrev tk:=@below_setRow
abbrev aU:=@bodyPost_ret
abbrev ih:=@callsIn_of_wp
abbrev ms:=@callsIn_of_wp_marks
abbrev ek:=@callsIn_wide
abbrev k9:=@cell_kept
abbrev lK:=@frozen_kept
abbrev ky:=@getD_set_ne
abbrev hW:=@grownBy_putObj'
abbrev wK:=@growslice_fits
abbrev gC:=@info_parts
abbrev lf:=@mem_ready
abbrev kv:=@ownFrom_below
abbrev pL:=@results_none
abbrev hV:=@run_takeDeferred
abbrev tp:=@setRow_heap
abbrev tn:=@setRow_other
abbrev ww:=@wpIn_rangeFunc_ownF
abbrev bH:=@wpQuiet_nil
abbrev wy:=@Int.eq_ofNat_of_zero_le
abbrev j7:=@List.all_eq_true
abbrev jl:=@List.append_nil
abbrev go:=@List.append_toArray
abbrev pS:=@List.contains_iff_mem
abbrev wA:=@List.drop_append
abbrev oy:=@List.drop_eq_nil_of_le
abbrev B1:=@List.drop_succ_cons
abbrev wI:=@List.drop_zero
abbrev fH:=@List.eq_nil_of_length_eq_zero
abbrev BZ:=@List.filter_cons
abbrev BY:=@List.filter_cons_of_pos
abbrev BS:=@List.foldl_cons
abbrev pO:=@List.getD_cons_succ
abbrev tj:=@List.getD_cons_zero
abbrev jh:=@List.getElem?_append_left
abbrev ig:=@List.getElem?_append_right
abbrev mE:=@List.getElem?_drop
abbrev rb:=@List.getElem?_eq_none
abbrev dm:=@List.getElem?_eq_some_iff
abbrev iZ:=@List.getElem?_map
abbrev nk:=@List.getElem?_set_ne
abbrev wv:=@List.getElem?_set_self
abbrev fi:=@List.getElem?_take
abbrev wG:=@List.length_filter_le
abbrev gE:=@List.length_map
abbrev dA:=@List.length_nil
abbrev jD:=@List.length_set
abbrev tf:=@List.map_congr_left
abbrev hH:=@List.map_cons
abbrev np:=@List.map_nil
abbrev dV:=@List.mem_append
abbrev dU:=@List.mem_cons
abbrev en:=@List.mem_cons_of_mem
abbrev j8:=@List.mem_filter
abbrev ox:=@List.mem_iff_getElem?
abbrev iX:=@List.mem_map
abbrev eN:=@List.mem_of_getElem?
abbrev mB:=@List.mem_range
abbrev gn:=@List.push_toArray
abbrev ga:=@List.take_length
abbrev nj:=@List.take_of_length_le
abbrev wH:=@List.take_zero
abbrev dq:=@Nat.add_zero
abbrev wM:=@Nat.eq_or_lt_of_le
abbrev jC:=@Nat.eq_zero_or_pos
abbrev mw:=@Nat.lt_irrefl
abbrev gT:=@Nat.lt_or_ge
abbrev nv:=@Nat.lt_succ_iff_lt_or_eq
abbrev JR:=@Nat.lt_succ_self
abbrev jk:=@Nat.min_eq_left
abbrev rn:=@Nat.ne_of_lt
abbrev j':=@Nat.not_lt_zero
abbrev nl:=@Nat.sub_self
abbrev nm:=@Nat.zero_mul
abbrev kx:=@Option.getD_some
abbrev j6:=@Option.map_some
abbrev lg:=@UInt32.toNat_inj
abbrev rl:=@UInt8.toNat_ofNat'
abbrev ka:=@beq_eq_false_iff_ne
abbrev gp:=@beq_iff_eq
abbrev cO:=@congrArg
abbrev gr:=@decide_eq_true_eq
abbrev hG:=@if_true
def ZH (p:Prop):Prop:=p
theorem ag {p:Prop} (h:p):ZH p:=h
theorem ZH.o {p:Prop} (h:ZH p):p:=h
theorem ZH.out {p:Prop} (h:ZH p):p:=h
section
variable {p q u v y z P Q S T V W Z u12 u13 u14 u15 u16 u17 w:Prop}
theorem aX (h0:p) (e:q):ZH (p/\q):=⟨h0,e⟩
theorem bk (h0:p) (e:q) (f:u):ZH (p/\q/\u):=⟨h0,e,f⟩
theorem br (h0:p) (e:q) (f:u) (g:v):ZH (p/\q/\u/\v):=⟨h0,e,f,g⟩
theorem bM (h0:p) (e:q) (f:u) (g:v) (h:y):ZH (p/\q/\u/\v/\y):=⟨h0,e,f,g,h⟩
theorem cp (h0:p) (e:q) (f:u) (g:v) (h:y) (i:z):ZH (p/\q/\u/\v/\y/\z):=⟨h0,e,f,g,h,i⟩
theorem dG (h0:p) (e:q) (f:u) (g:v) (h:y) (i:z) (j:P):ZH (p/\q/\u/\v/\y/\z/\P):=⟨h0,e,f,g,h,i,j⟩
theorem gI (h0:p) (e:q) (f:u) (g:v) (h:y) (i:z) (j:P) (k:Q):ZH (p/\q/\u/\v/\y/\z/\P/\Q):=⟨h0,e,f,g,h,i,j,k⟩
theorem nG (h0:p) (e:q) (f:u) (g:v) (h:y) (i:z) (j:P) (k:Q) (l:S):ZH (p/\q/\u/\v/\y/\z/\P/\Q/\S):=⟨h0,e,f,g,h,i,j,k,l⟩
theorem nH (h0:p) (e:q) (f:u) (g:v) (h:y) (i:z) (j:P) (k:Q) (l:S) (m:T):ZH (p/\q/\u/\v/\y/\z/\P/\Q/\S/\T):=⟨h0,e,f,g,h,i,j,k,l,m⟩
theorem qa (h0:p) (e:q) (f:u) (g:v) (h:y) (i:z) (j:P) (k:Q) (l:S) (m:T) (n:V):ZH (p/\q/\u/\v/\y/\z/\P/\Q/\S/\T/\V):=⟨h0,e,f,g,h,i,j,k,l,m,n⟩
theorem xt (h0:p) (e:q) (f:u) (g:v) (h:y) (i:z) (j:P) (k:Q) (l:S) (m:T) (n:V) (o:Z):ZH (p/\q/\u/\v/\y/\z/\P/\Q/\S/\T/\V/\Z):=by grind [ZH]
theorem xu (h0:p) (e:q) (f:u) (g:v) (h:y) (i:z) (j:P) (k:Q) (l:S) (m:T) (n:V) (o:Z) (r:u12):ZH (p/\q/\u/\v/\y/\z/\P/\Q/\S/\T/\V/\Z/\u12):=by grind [ZH]
theorem CJ (h0:p) (e:q) (f:u) (g:v) (h:y) (i:z) (j:P) (k:Q) (l:S) (m:T) (n:V) (o:Z) (r:u12) (s:u13):ZH (p/\q/\u/\v/\y/\z/\P/\Q/\S/\T/\V/\Z/\u12/\u13):=by grind [ZH]
theorem CL (h0:p) (e:q) (f:u) (g:v) (h:y) (i:z) (j:P) (k:Q) (l:S) (m:T) (n:V) (o:Z) (r:u12) (s:u13) (t:u14):ZH (p/\q/\u/\v/\y/\z/\P/\Q/\S/\T/\V/\Z/\u12/\u13/\u14):=by grind [ZH]
theorem ZH.a (h:ZH (p/\w)):p:=h.1
theorem ZH.b (h:ZH (p/\q/\w)):q:=h.2.1
theorem ZH.B (h:ZH (p/\q)):q:=h.2
theorem ZH.c (h:ZH (p/\q/\u/\w)):u:=h.2.2.1
theorem ZH.C (h:ZH (p/\q/\u)):u:=h.2.2
theorem ZH.d (h:ZH (p/\q/\u/\v/\w)):v:=h.2.2.2.1
theorem ZH.D (h:ZH (p/\q/\u/\v)):v:=h.2.2.2
theorem ZH.e (h:ZH (p/\q/\u/\v/\y/\w)):y:=h.2.2.2.2.1
theorem ZH.E (h:ZH (p/\q/\u/\v/\y)):y:=h.2.2.2.2
theorem ZH.f (h:ZH (p/\q/\u/\v/\y/\z/\w)):z:=h.2.2.2.2.2.1
theorem ZH.F (h:ZH (p/\q/\u/\v/\y/\z)):z:=h.2.2.2.2.2
theorem ZH.g (h:ZH (p/\q/\u/\v/\y/\z/\P/\w)):P:=h.2.2.2.2.2.2.1
theorem ZH.G (h:ZH (p/\q/\u/\v/\y/\z/\P)):P:=h.2.2.2.2.2.2
theorem ZH.h (h:ZH (p/\q/\u/\v/\y/\z/\P/\Q/\w)):Q:=h.2.2.2.2.2.2.2.1
theorem ZH.H (h:ZH (p/\q/\u/\v/\y/\z/\P/\Q)):Q:=h.2.2.2.2.2.2.2
theorem ZH.i (h:ZH (p/\q/\u/\v/\y/\z/\P/\Q/\S/\w)):S:=h.2.2.2.2.2.2.2.2.1
theorem ZH.I (h:ZH (p/\q/\u/\v/\y/\z/\P/\Q/\S)):S:=h.2.2.2.2.2.2.2.2
theorem ZH.j (h:ZH (p/\q/\u/\v/\y/\z/\P/\Q/\S/\T/\w)):T:=h.2.2.2.2.2.2.2.2.2.1
theorem ZH.J (h:ZH (p/\q/\u/\v/\y/\z/\P/\Q/\S/\T)):T:=h.2.2.2.2.2.2.2.2.2
theorem ZH.k (h:ZH (p/\q/\u/\v/\y/\z/\P/\Q/\S/\T/\V/\w)):V:=h.2.2.2.2.2.2.2.2.2.2.1
theorem ZH.K (h:ZH (p/\q/\u/\v/\y/\z/\P/\Q/\S/\T/\V)):V:=h.2.2.2.2.2.2.2.2.2.2
theorem ZH.l (h:ZH (p/\q/\u/\v/\y/\z/\P/\Q/\S/\T/\V/\Z/\w)):Z:=h.2.2.2.2.2.2.2.2.2.2.2.1
theorem ZH.L (h:ZH (p/\q/\u/\v/\y/\z/\P/\Q/\S/\T/\V/\Z)):Z:=h.2.2.2.2.2.2.2.2.2.2.2
theorem ZH.m (h:ZH (p/\q/\u/\v/\y/\z/\P/\Q/\S/\T/\V/\Z/\u12/\w)):u12:=h.2.2.2.2.2.2.2.2.2.2.2.2.1
theorem ZH.M (h:ZH (p/\q/\u/\v/\y/\z/\P/\Q/\S/\T/\V/\Z/\u12)):u12:=h.2.2.2.2.2.2.2.2.2.2.2.2
theorem ZH.n (h:ZH (p/\q/\u/\v/\y/\z/\P/\Q/\S/\T/\V/\Z/\u12/\u13/\w)):u13:=h.2.2.2.2.2.2.2.2.2.2.2.2.2.1
theorem ZH.N (h:ZH (p/\q/\u/\v/\y/\z/\P/\Q/\S/\T/\V/\Z/\u12/\u13)):u13:=h.2.2.2.2.2.2.2.2.2.2.2.2.2
theorem ZH.r (h:ZH (p/\q/\u/\v/\y/\z/\P/\Q/\S/\T/\V/\Z/\u12/\u13/\u14/\w)):u14:=h.2.2.2.2.2.2.2.2.2.2.2.2.2.2.1
theorem ZH.s (h:ZH (p/\q/\u/\v/\y/\z/\P/\Q/\S/\T/\V/\Z/\u12/\u13/\u14/\u15/\w)):u15:=h.2.2.2.2.2.2.2.2.2.2.2.2.2.2.2.1
theorem ZH.t (h:ZH (p/\q/\u/\v/\y/\z/\P/\Q/\S/\T/\V/\Z/\u12/\u13/\u14/\u15/\u16/\w)):u16:=h.2.2.2.2.2.2.2.2.2.2.2.2.2.2.2.2.1
theorem ZH.U (h:ZH (p/\q/\u/\v/\y/\z/\P/\Q/\S/\T/\V/\Z/\u12/\u13/\u14/\u15/\u16/\u17)):u17:=h.2.2.2.2.2.2.2.2.2.2.2.2.2.2.2.2.2
theorem ZH.cb (h:ZH w) (e:p):ZH (p/\w):=⟨e,h⟩
theorem ZH.kg (h:ZH w) (h0:p) (e:q):ZH (p/\q/\w):=⟨h0,e,h⟩
theorem ZH.CM (h:ZH w) (h0:p) (e:q) (f:u) (g:v) (i:y):ZH (p/\q/\u/\v/\y/\w):=⟨h0,e,f,g,i,h⟩
theorem ZH.tW (h:ZH (p/\w)) (e:W):ZH (p/\W/\w):=⟨h.1,e,h.2⟩
theorem ZH.kh (h:ZH (p/\q/\w)) (e:W):ZH (p/\q/\W/\w):=⟨h.1,h.2.1,e,h.2.2⟩
theorem ZH.ll (h:ZH (p/\q/\u/\w)) (e:W):ZH (p/\q/\u/\W/\w):=⟨h.1,h.2.1,h.2.2.1,e,h.2.2.2⟩
theorem ZH.ik (h:ZH (p/\q/\u/\v/\w)) (e:W):ZH (p/\q/\u/\v/\W/\w):=by simp_all
theorem ZH.kD (h:ZH (p/\q/\u/\v/\y/\w)) (e:W):ZH (p/\q/\u/\v/\y/\W/\w):=by simp_all
theorem ZH.lm (h:ZH (p/\q/\u/\v/\y/\z/\w)) (e:W):ZH (p/\q/\u/\v/\y/\z/\W/\w):=by simp_all
theorem ZH.oN (h:ZH (p/\q/\u/\v/\y/\z/\P/\w)) (e:W):ZH (p/\q/\u/\v/\y/\z/\P/\W/\w):=by simp_all
theorem ZH.ry (h:ZH (p/\q/\u/\v/\y/\z/\P/\Q/\w)) (e:W):ZH (p/\q/\u/\v/\y/\z/\P/\Q/\W/\w):=by simp_all
theorem ZH.tX (h:ZH (p/\q/\u/\v/\y/\z/\P/\Q/\S/\w)) (e:W):ZH (p/\q/\u/\v/\y/\z/\P/\Q/\S/\W/\w):=by simp_all
theorem ZH.xv (h:ZH (p/\q/\u/\v/\y/\z/\P/\Q/\S/\T/\w)) (e:W):ZH (p/\q/\u/\v/\y/\z/\P/\Q/\S/\T/\W/\w):=by simp_all
theorem ZH.xw (h:ZH (p/\q/\u/\v/\y/\z/\P/\Q/\S/\T/\V/\w)) (e:W):ZH (p/\q/\u/\v/\y/\z/\P/\Q/\S/\T/\V/\W/\w):=by simp_all
end
theorem ao {e:Sort _} (a:e):∃b,a=b:=⟨a,I⟩
theorem jO {w e f:ab} (h:an w.heap.size w e) (k:an e.heap.size e f):an w.heap.size w f:=h.trans (k.mono h.size)
theorem bv {n:J} {w z:ab} (h:an n w z) (b:J) (q:b<n:=by omega):z.heap[b]?=w.heap[b]?:=h.block b q
theorem aS {n:J} {w z:ab} (h:an n w z) (b o:J) (u:ad) (q:n<=b:=by omega):an n w (ah z ⟨b,o,N⟩ u):=j4 (p:=⟨b,o,N⟩) h q u
instance:Coe ab J:=⟨λw=>w.heap.size⟩
instance {e:Type}:CoeOut (U e) J:=⟨ov⟩
instance:Coe ar J:=⟨UInt8.toNat⟩
instance:Coe cT J:=⟨UInt32.toNat⟩
instance:Coe O ad:=⟨λe=>K aa e⟩
instance:Coe J ad:=⟨λe=>K aa (e:O)⟩
instance:Coe ar ad:=⟨λe=>K aL (e.toNat:O)⟩
instance:Coe cT ad:=⟨λe=>K ac (e.toNat:O)⟩
instance {p:Prop}:Coe (ZH p) p:=⟨ZH.o⟩
section
variable {a b c d:J} {w:ab}
instance:k8 (J×J) (a,b) bb:=⟨⟨a,b,N⟩⟩
instance:k8 (ab×J) (w,b) bb:=⟨⟨w.heap.size,b,N⟩⟩
instance:k8 (J×J) (a,b) (aF bb):=⟨R ⟨a,b,N⟩⟩
instance:k8 (ab×J) (w,b) (aF bb):=⟨R ⟨w.heap.size,b,N⟩⟩
instance:k8 (J×J) (a,b) ad:=⟨bc (R ⟨a,b,N⟩)⟩
instance:k8 (ab×J) (w,b) ad:=⟨bc (R ⟨w.heap.size,b,N⟩)⟩
instance:k8 (J×J×J×J) (a,b,c,d) ad:=⟨G (R ⟨a,b,N⟩) c d⟩
instance:k8 (ab×J×J×J) (w,b,c,d) ad:=⟨G (R ⟨w.heap.size,b,N⟩) c d⟩
instance:k8 Unit () (a<=a):=⟨aJ a⟩
instance:k8 Unit () (0<=a):=⟨ci a⟩
instance:k8 Unit () (a<=a+1):=⟨gi a⟩
instance:k8 Unit () (an a w w):=⟨ay a w⟩
end
def bV (a:ar):ad:=K aL a
def Bytes (w:ab) (lo hi:J) (v:ad) (l:U ar):Prop:=∃c a,v=G c l a/\l.length<=a/\a<=aG/\(0<l.length->∃b d,c=R ⟨b,d,N⟩/\lo<=b/\b<hi/\∀f h,l[f]?=R h->aI w (b,d+f)=(bV h))/\(c=N->a=0)
section
variable {w w':ab} {lo hi lo' hi':J} {v:ad} {l:U ar}
theorem Bytes.bC (h:Bytes w lo hi v l) (a:∀b o,lo<=b->b<hi->aI w' ⟨b,o,N⟩=aI w ⟨b,o,N⟩):Bytes w' lo hi v l:=by grind [Bytes]
theorem Bytes.more (h:Bytes w lo hi v l) (a:lo'<=lo) (b:hi<=hi':=by omega):Bytes w lo' hi' v l:=by grind [Bytes]
theorem Bytes.below {B:J} (h:Bytes w lo hi v l) (b:an B w w') (d:hi<=B):Bytes w' lo hi v l:=h.bC λa c _ _=>b.cell (p:=⟨a,c,N⟩) (by show a<B;omega)
theorem Bytes.bw (w:ab) (lo hi:J):Bytes w lo hi (G N 0 0) []:=by grind [Bytes]
theorem Bytes.new (w:ab) (a:bg) (l:U ar) (h:l<=aG) (b:J×J):Bytes (aO w (Y (l.map bV).toArray a b)) w (w+1) (w,0,l.length,l.length) l:=by refine⟨_,_,I,aJ _,h,λ_=>⟨_,_,I,aJ _,JR _,λ_ _ hx=>?_⟩,λh=>by cases h⟩;rw[eb,World.cell?_alloc_mark];simp[hx]
theorem Bytes.cut {b off n c:J} (h:Bytes w lo hi (b,off,n,c) l) (i k c':J) (a:i+k<=l) (d:k<=c') (f:c'<=aG):Bytes w lo hi (b,off+i,k,c') ((l.drop i).take k):=by grind [Bytes]
end
theorem Bytes.at_ {w:ab} {lo hi:J} {v:ad} {l:U ar} (h:Bytes w lo hi v l) (d:0<l.length:=by omega):∃b off c,v=G (R ⟨b,off,N⟩) l c/\lo<=b/\b<hi/\l.length<=c/\c<=aG/\∀i a,l[i]?=R a->aI w (b,off+i)=(bV a):=by grind [Bytes,bV]
theorem Bytes.step {w w':ab} {lo:J} {v:ad} {l:U ar} (h:Bytes w lo w v l) (a:an w w w'):Bytes w' lo w' v l:=(h.below a ()).more () a.size
theorem Bytes.hc {w:ab} {hi lo:J} {v:ad} {l:U ar} (h:Bytes w lo hi v l):Bytes w 0 hi v l:=h.more () ()
theorem cz {B:J} {w a b:ab} (h:an B w a) (c:B<=a) (k:an a a b):an B w b:=h.trans (k.mono c)
theorem ln {w:ab} {a:bb} {v:ad} (h:aI w a=v):a.block<w:=by rcases gT a.block w with b|b;{exact b};exfalso;unfold aI at h;simp[Array.getElem?_eq_none b]at h
def ef (w:ab) (v:ad):Prop:=∀a b c f,v=G (R ⟨a,b,N⟩) c f->∀d,d<c->ed w (a,b+d)=am
structure cJ (w w':ab) (v:ad) (l:U ar):Prop where
 bytes:Bytes w' w w' v l
 fl:ef w' v
 below:an w w w'
theorem ef.bw (w:ab):ef w (G N 0 0):=λ_ _ _ _ h=>by cases h
theorem cJ.bw {w w':ab} (h:an w w w'):cJ w w' (G N 0 0) []:=⟨Bytes.bw _ _ _,ef.bw _,h⟩
theorem cJ.new {w w0:ab} (h:an w w w0) (a:bg) (l:U ar) (c:l<=aG) (b:bd ad) (d:b=(l.map bV).toArray) (n:J) (f:n=l):cJ w (aO w0 (Y b a)) (w0,0,n,n) l:=by subst d f;refine⟨(Bytes.new w0 a l c _).more h.size (by simp),λ_ _ n _ e _ hi=>?_,h.alloc h.size _⟩;cases e;apply World.frozen?_alloc_at;rfl
theorem cJ.CN {w w':ab} {e:bg} {v:ad} {n:J} {d:U ad} {l:U ar} (f:an w w w') (h:w'.ownsRow w e 1 v n d) (hx:d=l.map bV):cJ w w' v l:=by have⟨j,h⟩:=h;subst hx;have k:l=n:=by{simpa using j};rcases h with⟨rfl,_⟩|⟨g,m,i,rfl,o,c,_,p,_,q⟩;{have:l=[]:=fH (by omega);subst this;exact cJ.bw f};have r:g<w':=(a_.1 c).1;refine⟨⟨_,m,by rw[k],by omega,p,λ_=>⟨g,0,I,o,r,λa s hx=>?_⟩,λh=>by cases h⟩,λ_ _ _ _ e a hi=>?_,f⟩;{rw[gU w' g (0+a) i _ (0,0) c];have hi:a<l:=(dm.1 hx).1;have b:(i.toList.take (n*1))[a]?=(bV s):=by{rw[q];simp[hx]};rw[fi]at b;split at b;{simpa using b};cases b};cases e;simp[ed,c]
theorem tY {P:c9} {w:ab} {lo hi:J} {v:ad} {l:U ar} (h:Bytes w lo hi v l) (a dst e:bg) (c:P.underlying a=R (.slice e)) (d:P.underlying e=R (.int aL)) (f:P.underlying dst=R .string):(convert a dst v).run P w=.ok (.string ⟨l.toArray⟩) w:=by obtain⟨n,j,rfl,_,_,o,_⟩:=h;rcases jC l with i|i;{have:l=[]:=fH i;subst this;rcases n with _|k;{exact run_convert_bytes_nil w a e c d _ _ dst f};rw[run_convert_bytes_string w a dst e _ _ _ c d f,run_bytesToString w k _ j [] (by have:=run_loadCells_list (P:=P) w k ([]:U ad) (by simp);simpa using this)];rfl};obtain⟨p,q,rfl,_,_,r⟩:=o i;rw[run_convert_bytes_arg w a e c d p q l.length j (l.map λb=>(b.toNat:O)) (by simp) (λm hi=>by rw[r m l[m] (by simp[hi])];simp[bV,hi]) dst f];have e:(l.map λb=>(b.toNat:O)).map (λs=>ee s.toNat)=l:=by{rw[List.map_map];exact(tf (λb _=>by simp)).trans (List.map_id l)};rw[strOfNums,e]
def eE (a:J) (e:bg) (w:ab) (v:ad) (l:U ar):Prop:=w.ownsRow a e 1 v l (l.map bV)
theorem eE.bw (a:J) (e:bg) (w:ab):eE a e w (G N 0 0) []:=World.ownsRow_nil _ _ _ _
theorem eE.made {w w':ab} {e:bg} {v:ad} {l:U ar} (h:eE w e w' v l) (a:an w w w'):cJ w w' v l:=cJ.CN a h I
theorem eE.bytes {b:J} {e:bg} {w:ab} {v:ad} {l:U ar} (h:eE b e w v l):Bytes w b w v l:=by have⟨_,h⟩:=h;rcases h with⟨rfl,_⟩|⟨g,i,c,rfl,j,d,_,k,_,m⟩;{have:l=[]:=fH (by omega);subst this;exact Bytes.bw _ _ _};have n:g<w:=(a_.1 d).1;refine⟨_,i,I,by omega,k,λ_=>⟨g,0,I,j,n,λf o hx=>?_⟩,λh=>by cases h⟩;rw[gU w g (0+f) c _ (0,0) d];have a:(c.toList.take (l.length*1))[f]?=(bV o):=by{rw[m];simp[hx]};rw[fi]at a;split at a;{simpa using a};cases a
theorem eE.block {a:J} {e:bg} {w:ab} {v:ad} {l:U ar} (h:eE a e w v l):∀k,v.ownBlock=R k->a<=k:=by intro k b;rcases h.2 with⟨rfl,_⟩|⟨g,_,_,rfl,c,_,_,_,_,_⟩;{cases b};cases b;exact c
theorem oO {P:c9} {w:ab} {ops:bd bI} {rest:U bI} {o:bI} {a:bm} {Q:dT->bm->ab->Prop} (q:o.guard=N) (s k:gV) (d:bg) (r:o.op=.call {callee:=.builtin .append,args:=#[s,k],argTypes:=#[d,d]}) (c:J) (e:bg) (t:P.underlying d=R (.slice e)) (hi:(P.info? e).map (λi=>(i.zero,i.size,i.bytes))=R (R (K aL 0),1,1)) (v:ad) (l:U ar) (u:a.eval s=v) (hown:eE c e w v l) (lo hi':J) (x:ad) (b:U ar) (hx:a.eval k=x) (F:Bytes w lo hi' x b) (ah:l.length+b.length<=140737488355328) (hbase:c<=w) (h:∀v' w',eE c e w' v' (l++b)->an c w w'->eD P ops Q rest (a.put o.dst v') w'):eD P ops Q (o::rest) a w:=by have⟨y,z,H,L,M⟩:=gC hi;obtain⟨m,A,rfl,_,_,O,S⟩:=F;have B:∀w',w.grownBy w' v.ownBlock->an c w w':=λw' n=>((ay w w).mono hbase).grown n hbase hown.block;rcases m with _|m;{have p:A=0:=S I;subst p;have T:b=[]:=fH (by omega);subst T;exact wpList_append_own_none q s k d r c e y 1 t z v _ _ u hown hx (h v w (by simpa using hown) (B _ (World.grownBy.refl w _)))};have V:(b.map bV).length=b*1:=by{simp};refine wpList_append_own w q s k d r c e y _ 1 1 t z H L M I (by decide) v _ _ u hown m b A (b.map bV) hx V ?_ ?_ (by unfold aG;omega) (by omega) hbase ?_;{intro f W j;have C:f<b:=by{have:=(dm.1 j).1;simpa using this};have⟨D,E,Z,_,_,p⟩:=O (by omega);cases Z;have ae:(⟨D,E,N⟩:bb).add f=⟨D,E+f,N⟩:=by{unfold ni;split<;>simp_all};rw[ae,p f b[f] (by simp[C])];simp[C]at j;rw[j]};{intro W j;obtain⟨_,_,rfl⟩:=iX.1 j;rfl};intro v' w' ag n _;exact h v' w' (by unfold eE;simpa using ag) (B _ n)
def eF (w:ab) (g:J) (e:bg) (l:U ar):Prop:=w.heap[g]?=R (Y (l.map bV).toArray e (0,0))
section
variable {w w':ab} {g:J} {e:bg} {l:U ar}
theorem eF.lt (h:eF w g e l):g<w:=(a_.1 h).1
theorem eF.cell (h:eF w g e l) (i:J):aI w (g,i)=(l[i]?).map bV:=by rw[gU w g i _ e (0,0) h];simp
theorem eF.frozen (h:eF w g e l) (i:J):ed w (g,i)=am:=by unfold eF at h;simp[ed,h]
theorem eF.below {B:J} (h:eF w g e l) (a:an B w w') (b:g<B):eF w' g e l:=(a.block g b).trans h
theorem eF.step (h:eF w g e l) (a:an w w w'):eF w' g e l:=h.below a h.lt
theorem eF.bytes (h:eF w g e l) (a:l<=aG):Bytes w g (g+1) (g,0,l.length,l.length) l:=by refine⟨_,_,I,aJ _,a,λ_=>⟨g,0,I,aJ _,JR _,λ_ _ hx=>?_⟩,λh=>by cases h⟩;rw[eb,h.cell,hx];rfl
theorem eF.fl (h:eF w g e l) (n c:J):ef w (g,0,n,c):=by intro _ _ _ _ a _ _;cases a;exact h.frozen _
end
theorem Bytes.pre {w:ab} {lo hi:J} {a:aF bb} {n c:J} {l:U ar} (h:Bytes w lo hi (G a n c) l) (k:J) (b:k<=l):Bytes w lo hi (G a k c) (l.take k):=by grind [Bytes]
theorem rz {P:c9} {w:ab} {ops:bd bI} {rest:U bI} {o:bI} {a:bm} {Q:dT->bm->ab->Prop} (f:o.guard=N) (s c:gV) (b:bg) (j:o.op=Op.makeSlice b s c) (e:bg) (k:P.underlying b=R (.slice e)) (hi:(P.info? e).map (λi=>(i.zero,i.size,i.bytes))=R (R (K aL 0),1,1)) (n:J) (m:a.eval s=K aa n) (p:a.eval c=K aa n) (L:n<=140737488355328) (h:∀w',eF w' w e (gj n 0)->an w w w'->eD P ops Q rest (a.put o.dst (w,0,n,n)) w'):eD P ops Q (o::rest) a w:=by have⟨q,r,t,u,x⟩:=gC hi;refine wpList_make_full w f s c b j w e q _ 1 k r t u aa aa n n n m p I I (by rw[x];omega) (by unfold aG;omega) () ?_;intro w' y z;refine h w' ?_ ((ay _ _).grown z () (λ_ A=>by cases A));rcases y.2 with⟨B,_⟩|⟨g,_,C,D,_,E,_,_,_,d⟩;{cases B};cases D;unfold eF;rw[E];have F:C.toList=(gj n (0:ar)).map bV:=by{rw[nj (by simp;omega)]at d;rw[d];have H:(bV 0)=K aL 0:=rfl;simp only[mr,Value.cells,Nat.mul_one,fy,cN,dA,fI,Nat.mod_one,List.map_replicate,H,Array.toList_map];apply List.ext_getElem<;>simp};rw[<-F]
theorem oP (n:O) (k:J) (h:n=(k%256:J):=by omega):K aL n=bV (ee k):=by subst h;simp[bV]
section
open Go.RowKit Go.ChangeShapes Go.WideShapes Go.Deep
theorem hM (B:J) (w:ab) (n:J):an B w (w.drewN n):=⟨I,I,I,aJ _,λ_ _=>rfl⟩
def Kp (lo hi:J) (w w':ab):Prop:=∀a b,lo<=a->a<hi->aI w' ⟨a,b,N⟩=aI w ⟨a,b,N⟩/\ed w' ⟨a,b,N⟩=ed w ⟨a,b,N⟩
theorem Kp.xx {B lo hi:J} {w w':ab} (h:an B w w') (c:hi<=B):Kp lo hi w w':=λa b _ _=>⟨h.cell (p:=(a,b)) (by show a<B;omega),h.frozen (p:=(a,b)) (by show a<B;omega)⟩
theorem Kp.trans {lo hi:J} {a b c:ab} (h:Kp lo hi a b) (k:Kp lo hi b c):Kp lo hi a c:=by grind [Kp]
theorem Bytes.fm {w:ab} {lo hi:J} {v:ad} {l:U ar} {n:J} (h:Bytes w lo hi v l) (a:l=n) (d:0<n:=by omega):∃b off c,v=G (R ⟨b,off,N⟩) n c/\lo<=b/\b<hi/\n<=c/\c<=aG/\∀i x,l[i]?=R x->aI w (b,off+i)=(bV x):=by subst a;exact h.at_ d
theorem Bytes.cellAt {w:ab} {lo hi b off n c:J} {l:U ar} (h:Bytes w lo hi (b,off,n,c) l) (i:J) (x:ar) (hx:l[i]?=x):aI w (b,off+i)=(bV x):=by grind [Bytes,bV]
theorem Bytes.form {w:ab} {lo hi:J} {v:ad} {l:U ar} {n:J} (h:Bytes w lo hi v l) (b:l=n):∃a c,v=G a n c/\n<=c/\c<=aG:=by grind [Bytes]
theorem rA {w w':ab} {lo hi B:J} {v:ad} {l:U ar} (h:Bytes w lo hi v l) (c:ef w v) (d:an B w w') (k:hi<=B):ef w' v:=by intro a e _ _ f b hi';have⟨_,_,g,_,_,i,_⟩:=h;subst f;cases g;have⟨_,_,j,_,_,_⟩:=i (by omega);cases j;exact(d.frozen (p:=(a,e+b)) (by show a<B;omega)).trans (c _ _ _ _ I b hi')
theorem Bytes.set {w:ab} {lo hi b off n c:J} {l:U ar} (h:Bytes w lo hi (b,off,n,c) l) (i:J) (x:ar) (hi':i<l:=by omega):Bytes (ah w (b,off+i) (bV x)) lo hi (b,off,n,c) (l.set i x):=by have⟨_,_,a,j,k,m,o⟩:=h;cases a;refine⟨_,_,by rw[jD],by rw[jD];exact j,k,λe=>?_,o⟩;have⟨_,_,p,q,s,f⟩:=m (by rw[jD]at e;exact e);cases p;refine⟨_,_,I,q,s,λg u d=>?_⟩;by_cases a:i=g;{subst a;rw[wv hi']at d;cases d;exact lH _ _ _ (by rw[f i l[i] (by simp[hi'])];rfl)};rw[nk a]at d;rw[ra _ _ _ _ (by intro h;injection h;omega)];exact f g u d
theorem ef.set {w:ab} {v:ad} (h:ef w v) (p:bb) (u:ad):ef (ah w p u) v:=by simp_all [ef];omega
structure Rd (α:Type) where
 n:J
 R:ab->J->J->α->(J->aF ad)->Prop
 bC:∀{w w':ab} {lo hi:J} {x:α} {f:J->aF ad},Kp lo hi w w'->R w lo hi x f->R w' lo hi x f
 more:∀{w:ab} {lo hi lo' hi':J} {x:α} {f:J->aF ad},lo'<=lo->hi<=hi'->R w lo hi x f->R w lo' hi' x f
 ext:∀{w:ab} {lo hi:J} {x:α} {f g:J->aF ad},(∀j,j<n->f j=g j)->R w lo hi x f->R w lo hi x g
def Sl {α:Type} (r:Rd α) (w:ab) (lo hi:J) (v:ad) (l:U α):Prop:=∃c a,v=G c l a/\l.length<=a/\a<=aG/\(0<l.length->∃b d,c=R ⟨b,d,N⟩/\lo<=b/\b<hi/\∀e x,l[e]?=R x->r.R w lo hi x (λf=>aI w (b,d+e*r.n+f)))/\(c=N->a=0)
section
variable {α:Type} {r:Rd α} {w w':ab} {lo hi lo' hi':J} {v:ad} {l:U α}
theorem Sl.bC (h:Sl r w lo hi v l) (a:Kp lo hi w w'):Sl r w' lo hi v l:=by have⟨e,f,g,i,j,k,m⟩:=h;refine⟨e,f,g,i,j,λn=>?_,m⟩;have⟨b,o,p,c,d,q⟩:=k n;exact⟨b,o,p,c,d,λs x hx=>r.ext (λ_ _=>(a b _ c d).1.symm) (r.bC a (q s x hx))⟩
theorem Sl.more (h:Sl r w lo hi v l) (a:lo'<=lo) (b:hi<=hi':=by omega):Sl r w lo' hi' v l:=by have⟨c,d,e,f,g,i,j⟩:=h;refine⟨c,d,e,f,g,λk=>?_,j⟩;have⟨m,n,o,_,_,p⟩:=i k;exact⟨m,n,o,by omega,by omega,λq x hx=>r.more a b (p q x hx)⟩
theorem Sl.below {B:J} (h:Sl r w lo hi v l) (a:an B w w') (b:hi<=B):Sl r w' lo hi v l:=h.bC (Kp.xx a b)
theorem Sl.step (h:Sl r w lo w v l) (a:an w w w'):Sl r w' lo w' v l:=(h.below a ()).more () a.size
theorem Sl.hc (h:Sl r w lo hi v l):Sl r w 0 hi v l:=h.more () ()
theorem Sl.bw (w:ab) (lo hi:J):Sl r w lo hi (G N 0 0) []:=by grind [Sl]
theorem Sl.qb (h:Sl r w lo hi v l):l<=aG:=by obtain⟨_,_,_,_,_,_⟩:=h;omega
theorem Sl.at_ (h:Sl r w lo hi v l) (a:0<l.length:=by omega):∃b off c,v=G (R ⟨b,off,N⟩) l c/\lo<=b/\b<hi/\l.length<=c/\c<=aG/\∀i x,l[i]?=R x->r.R w lo hi x (λj=>aI w (b,off+i*r.n+j)):=by grind [Sl]
theorem Sl.cut {b off n c:J} (h:Sl r w lo hi (b,off,n,c) l) (i k c':J) (a:i+k<=l) (d:k<=c') (e:c'<=aG):Sl r w lo hi (b,off+i*r.n,k,c') ((l.drop i).take k):=by grind [Sl]
end
def ex (k:IntKind):Rd O where
 n:=1
 R _ _ _ x f:=f 0=R (K k x)/\(ei k x).wf=af
 bC _ h:=h
 more _ _ h:=h
 ext a h:=⟨(a 0 (by decide))▸h.1,h.2⟩
theorem Bytes.kept {w w':ab} {lo hi:J} {v:ad} {l:U ar} (h:Bytes w lo hi v l) (a:Kp lo hi w w'):Bytes w' lo hi v l:=h.bC λb c d e=>(a b c d e).1
def il:Rd (U ar) where
 n:=1
 R w lo hi x f:=∃v,f 0=R v/\Bytes w lo hi v x
 bC hk h:=by obtain⟨v,a,b⟩:=h;exact⟨v,a,b.kept hk⟩
 more a b h:=by obtain⟨v,c,d⟩:=h;exact⟨v,c,d.more a b⟩
 ext e h:=by obtain⟨v,c,d⟩:=h;exact⟨v,(e 0 (by decide))▸c,d⟩
structure eo where
 at_:O
 data:U ar
 deriving DecidableEq
def fg:Rd eo where
 n:=2
 R w lo hi x f:=f 0=x.at_/\(ei aa x.at_).wf=af/\∃v,f 1=R v/\Bytes w lo hi v x.data
 bC hk h:=by obtain⟨a,b,v,c,d⟩:=h;exact⟨a,b,v,c,d.kept hk⟩
 more c d h:=by obtain⟨a,b,v,e,g⟩:=h;exact⟨a,b,v,e,g.more c d⟩
 ext i h:=by obtain⟨a,b,v,e,g⟩:=h;exact⟨(i 0 (by decide))▸a,b,v,(i 1 (by decide))▸e,g⟩
structure bq where
 a:ar
 id:cT
 off:cT
 deriving DecidableEq
structure au where
 P:bq
 Q:O
 val:U ar
 deriving DecidableEq
def wV (x:cT):ad:=K ac x
def cx:Rd au where
 n:=5
 R w lo hi x f:=f 0=(bV x.P.a)/\f 1=(wV x.P.id)/\f 2=(wV x.P.off)/\f 3=x.Q/\(ei aa x.Q).wf=af/\∃v,f 4=R v/\Bytes w lo hi v x.val
 bC hk h:=by obtain⟨a,b,c,d,e,v,i,j⟩:=h;exact⟨a,b,c,d,e,v,i,j.kept hk⟩
 more i j h:=by obtain⟨a,b,c,d,e,v,k,m⟩:=h;exact⟨a,b,c,d,e,v,k,m.more i j⟩
 ext g h:=by
  have⟨a,b,c,d,e,v,k,m⟩:=h;exact⟨(g 0 (by decide))▸a,(g 1 (by decide))▸b,(g 2 (by decide))▸c,(g 3 (by decide))▸d,e,v,(g 4 (by decide))▸k,m⟩
structure dH where
 x:cT
 A:O
 next:cT
 table:cT
 aV:U O
 deriving DecidableEq
def kE:Rd dH where
 n:=5
 R w lo hi x f:=f 0=(wV x.x)/\f 1=x.A/\(ei aa x.A).wf=af/\f 2=(wV x.next)/\f 3=(wV x.table)/\∃v,f 4=R v/\Sl (ex aa) w lo hi v x.aV
 bC hk h:=by obtain⟨a,b,c,d,e,v,i,j⟩:=h;exact⟨a,b,c,d,e,v,i,j.bC hk⟩
 more i j h:=by obtain⟨a,b,c,d,e,v,k,m⟩:=h;exact⟨a,b,c,d,e,v,k,m.more i j⟩
 ext g h:=by
  have⟨a,b,c,d,e,v,k,m⟩:=h;exact⟨(g 0 (by decide))▸a,(g 1 (by decide))▸b,c,(g 2 (by decide))▸d,(g 3 (by decide))▸e,v,(g 4 (by decide))▸k,m⟩
structure aY where
 q:U (U ar)
 u:U eo
 deriving DecidableEq
def cF (w:ab) (lo hi:J) (b u:ad) (d:aY):Prop:=Sl il w lo hi b d.q/\Sl fg w lo hi u d.u
structure bE where
 y:O
 V:U au
 deriving DecidableEq
structure aq where
 Z:aY
 S:U ar
 ax:U ar
 deriving DecidableEq
section
variable {H:Type} {enc:bg×ad->H} {P:c9} {w:ab} {aw:J} {spare:J->aP} {be:aP} {fuel:J} {t:bg} {cs:U ad} {x:DataW H×U pJ}
theorem CO {b:bd Field} (e:P.underlying t=R (.struct b)) (h:ku enc P w aw spare be fuel t cs=x):cs=P.cellsOf t/\∃n,∀f∈b.toList,∃y,ku enc P w aw spare be n f.type ((cs.drop f.offset).take (P.cellsOf f.type))=R y:=by cases fuel with|zero=>simp[ku]at h|succ n=>unfold ku at h;rw[e]at h;simp only at h;split at h;{rename_i g;refine⟨g,n,λf i=>?_⟩;have⟨c,d,_⟩:=Option.map_eq_some_iff.1 h;have⟨a,hi⟩:=ox.1 i;obtain⟨y,j⟩:∃y,c[a]?=R y:=by{have:=mapM_some_length d;exact⟨c[a]'(by rw[this];exact(dm.1 hi).1),by simp⟩};exact⟨y,(mapM_some_get d a f hi).trans j⟩};cases h
theorem mK {a:bb} {n:J} {b:U ad} (h:w.cells? aw a n=b):b=n/\∀j,j<n->b[j]?=aI w (a.add j):=by have⟨_,c,d⟩:=World.cells?_some h;exact⟨c,λj e=>(d j e).symm⟩
def tZ {α:Type} (P:c9) (e:bg) (r:Rd α):Prop:=∀{H:Type} {enc:bg×ad->H} {w:ab} {aw:J} {spare:J->aP} {be:aP} {fuel:J} {cs:U ad} {x:DataW H×U pJ},ku enc P w aw spare be fuel e cs=x->cs=r.n->∃a:α,r.R w 0 w a (λb=>cs[b]?)
theorem qc {α:Type} {n:J} {p:J->α->Prop} (h:∀i,i<n->∃x,p i x):∃l:U α,l=n/\∀i x,l[i]?=R x->p i x:=by induction n with|zero=>exact⟨[],I,λi x h=>by simp at h⟩|succ n d=>have⟨l,c,e⟩:=d (λi hi=>h i (Nat.lt_succ_of_lt hi));have⟨x,hx⟩:=h n (JR n);refine⟨l++[x],by simp[c],λi f a=>?_⟩;rcases Nat.lt_trichotomy i n with b|b|b;{rw[jh (by omega)]at a;exact e i f a};{subst b;rw[ig (by omega),c,nl]at a;cases a;exact hx};rw[rb (by simp;omega)]at a;cases a
theorem xy {α:Type} {r:Rd α} {e:bg} (A:P.underlying t=R (.slice e)) (n:P.cellsOf e=r.n) (B:0<r.n) (C:tZ P e r) (h:ku enc P w aw spare be fuel t cs=x):∃v l,cs=[v]/\Sl r w 0 w v l:=by rcases open_slice A h with⟨rfl,_⟩|⟨b,g,D,E,_,_,_,rfl,_,_,F,J,_,o⟩;{exact⟨_,[],I,Sl.bw _ _ _⟩};have U:g<=E:=by{rw[J];split<;>omega};have L:∀a,a<g->∃d:α,r.R w 0 w d (λc=>aI w (b.add (a*r.n+c))):=by{intro a hi;have⟨p,f,q⟩:=o a (by omega);rw[n]at f;have⟨s,i⟩:=mK f;have⟨d,j⟩:=C q s;exact⟨d,r.ext (λc M=>by rw[i c M,add_add]) j⟩};have O:0<g->b.spot=N/\b.block<w:=by{intro hi;have⟨p,f,q⟩:=o 0 (by omega);rw[n]at f;have⟨s,i⟩:=mK f;have u:aI w b=(p[0]'(by omega)):=by{have:=i 0 B;simp only[nm,ni,hG]at this;rw[<-this];simp};exact⟨World.cell?_spot u,ln u⟩};have⟨l,Q,S⟩:=qc L;refine⟨_,l,I,R b,D,by rw[Q],by omega,F,λ_=>?_,λh=>by cases h⟩;have⟨y,z⟩:=O (by omega);have⟨k,m,_⟩:=b;dsimp only at y z;subst y;refine⟨k,m,I,ci _,z,λa d j=>r.ext (λc _=>?_) (S a d j)⟩;have T:(⟨k,m,N⟩:bb).add (a*r.n+c)=⟨k,m+a*r.n+c,N⟩:=by{unfold ni;split<;>simp_all<;>omega};rw[T]
end
end
section
open Go.RowKit Go.Shelf
attribute [local go_sem] ji
theorem oQ (W:ab) (v:ad) (a:bg):aI (aO W (Y #[v] a)) (W,0)=v/\ed (aO W (Y #[v] a)) (W,0)=am:=by simp_all
theorem CP {W:ab} {a:bb} {v:ad} (o:Obj) (h:aI W a=v):aI (aO W o) a=v:=k9 h (World.grownBy_alloc W o N) (λ_ b=>by cases b)
theorem CQ {W:ab} {a:bb} {v:ad} (o:Obj) (h:aI W a=v) (b:ed W a=am):ed (aO W o) a=am:=(lK h (World.grownBy_alloc W o N) (λ_ c=>by cases c)).trans b
def gX (l:U ar) (k:J):U (J×ar):=(fJ k).map λa=>(l.length-1-a,al l (l.length-1-a) 0)
theorem CR (l:U ar) (k:J):gX l (k+1)=gX l k++[(l.length-1-k,al l (l.length-1-k) 0)]:=by simp[gX,List.range_succ]
theorem CS (l:U ar) (k:J):(gX l k)=k:=by simp[gX]
def gY (n₀ a:J) (A B:ab):Prop:=an n₀ A B/\aI B (a,0)=aI A (a,0)
theorem gY.refl (n₀ a:J) (A:ab):gY n₀ a A A:=⟨ay _ _,I⟩
theorem gY.trans {n₀ a:J} {A B C:ab} (h:gY n₀ a A B) (k:gY n₀ a B C):gY n₀ a A C:=⟨h.1.trans k.1,k.2.trans h.2⟩
theorem rB {w:ab} {n₀ a:J} (g:n₀<=w) (h:a<w):∀(W:ab) (l:J) (o b:Obj),w<=l->W.heap[l]?=o->o.isCells=am->o.isWalk=am->gY n₀ a W (W.putObj l b):=λW l o b c d e f=>⟨g7 g W l o b c d e f,(g7 (w:=w) (n₀:=a+1) (by omega) W l o b c d e f).cell (p:=(a,0)) (JR _)⟩
theorem CT (F:Fence) (n:J) (y:F.fn 216) (z:F.round=N) (Z:1<=n) (l h n₀ b off m:J) (a:U ar) (ad:a<=m) (A:m<=aG) (B:b<n₀) (j q:U (J×ar)->ab->Prop) (C:∀f d W,j f W->f.length<a->YieldAt F (n-1) prog l #[K aa (d.1:O),bV d.2] W λe g=>(e=aN (aQ af)/\j (f++[d]) g/\gY n₀ h W g)\/(e=aN (aQ am)/\q (f++[d]) g)) (W:ab) (D:aI W ⟨h,0,N⟩=R (G (R ⟨b,off,N⟩) a m)) (E:∀i d,a[i]?=R d->aI W ⟨b,off+i,N⟩=R (bV d)) (h0:j [] W):CallsIn F n prog 216 #[.func (.yield l) #[] #[],bc (R ⟨h,0,N⟩)] W λe g=>(∃v,e=aN v)/\((∃r,r=gX a a/\j r g)\/(∃f,(∃k,k<=a.length/\f=gX a k)/\q f g)):=by unfold aG at A;refine ih func216 I y ?_ z;simp only[ntmps216,fy,cN,dA,fI,fX,JQ,gm,gn,go,dr,ej];gi_wp2;gi_loopw[3] (λi wr=>∃k:J,k<=a/\i=K aa ((a:O)-1-k)/\j (gX a k) wr/\gY n₀ h W wr) (λi _=>(bu i+1).toNat);(case atStart=>exact⟨0,ci _,by simp,h0,gY.refl _ _ _⟩);obtain⟨k,_,rfl,s,o⟩:=hrel;have ae:aI wr ⟨h,0,N⟩=R (G (R ⟨b,off,N⟩) a m):=o.2.trans D;by_cases H:k<a;{obtain⟨c,L,t⟩:∃c:J,c<a/\c+1+k=a:=⟨a.length-1-k,by omega,by omega⟩;have M:aI wr (b,off+c)=(bV (al a c 0)):=(o.1.cell (p:=(b,off+c)) B).trans (E c _ (by simp[L]));have⟨_,_,_,_,u,P⟩:=C _ (c,al a c 0) wr s (by rw[CS];exact H);have w:gX a (k+1)=gX a k++[(c,al a c 0)]:=by{rw[CR,show a-1-k=c by omega]};have x:=ag w;clear w;rw[show((a.length:O)-1-(k:O))=(c:O) by omega];dsimp only at u;generalize al a c 0=d at*;unfold bV at M u;have Q:=ag t;clear t;gi_wp2;refine P.mono ?_;rintro e _ (⟨rfl,S,T⟩|⟨rfl,V⟩);{gi_wp2;go_roundw;(case rel=>exact⟨k+1,by omega,by have:=Q.o;congr 1<;>omega,by rw[x.o];exact S,o.trans T⟩);(simp[bu])};gi_wp2;refine aU (pL I _ _ _) I ?_;exact⟨⟨_,I⟩,az ⟨_,⟨k+1,by omega,x.o.symm⟩,V⟩⟩};obtain rfl:k=a:=by{omega};gi_wp2;go_end0;exact⟨⟨_,I⟩,aD ⟨_,I,s⟩⟩
theorem CU (F:Fence) (n:J) (d:F.fn 216) (f:F.round=N) (l c g:J) (a:aF bb) (b:U (J×ar)->ab->Prop) (W:ab) (k:aI W (c,0)=R (G a 0 g)) (h0:b [] W):CallsIn F n prog 216 #[.func (.yield l) #[] #[],(c,0)] W λe h=>(∃v,e=aN v)/\b [] h:=by refine ih func216 I d ?_ f;simp only[ntmps216,fy,cN,dA,fI,fX,JQ,gm,gn,go,dr,ej];gi_wp2;gi_loopw[3] (λi wr=>i=K aa (-1)/\b [] wr) (λ_ _=>0);(case atStart=>exact⟨I,h0⟩);obtain⟨rfl,j⟩:=hrel;gi_wp2;go_end0;exact⟨⟨_,I⟩,j⟩
theorem CV (F:Fence) (n:J) (d:F.fn 205) (f:F.round=N) (a:aF bb) (b c:J) (w:ab):CallsIn F n prog 205 #[G a b c] w λe w'=>e=aN (.func (.func 216) #[] #[(w,0)])/\w'=aO w (Y #[G a b c] 30):=by refine ih func205 I d ?_ f;simp only[ntmps205,fy,cN,dA,fI,fX,JQ,gm,gn,go,dr,ej];gi_wp2;go_ret;exact⟨I,I⟩
theorem CW (F:Fence) (n:J) (c:F.fn 216) (d:F.round=N) (q:1<=n) (b n₀ lo:J) (e:ad) (a:U ar) (w:ab) (r:b<w) (s:n₀<=w) (t:aI w (b,0)=e) (u:Bytes w lo n₀ e a):SeqStopsK F n prog 216 #[(b,0)] (λf:J×ar=>#[K aa (f.1:O),K aL (f.2.toNat:O)]) (gY n₀ b) (λv=>v=gX a a) (λx=>∃k,k<=a.length/\x=gX a k) a w:=λg h y i j _ _ z l=>by have m:=(j.cell (p:=(b,0)) r).trans t;obtain⟨A,o,rfl,B,C,D,_⟩:=u.below j s;rcases jC a with E|H;{have:a=[]:=fH E;subst this;exact(CU F n c d g b o A h i m l).mono λ_ _ ⟨L,M⟩=>⟨L,aD ⟨_,I,M⟩⟩};obtain⟨P,Q,rfl,_,S,T⟩:=D H;exact CT F n c d q g b n₀ P Q o a B C S h y z i m T l
end
section
open Go.RowKit Go.Shelf
attribute [local go_sem] bF results180
attribute [local go_sem] ji
def numOf:U ar->J|[]=>0|x::l=>x.toNat+256*numOf l
def i4 (a:U (J×ar)):O:=a.foldl (λb c=>bits BinOp.or ac (b*256%4294967296) c.2.toNat) 0
theorem CX (v:ad) (l:U ar) (b a:J) (w:ab) (o:Bytes w 0 w.heap.size v l) (D:b+a<=l) (h0:0<a):aR prog 180 #[v,K aa b,K aa a] w λe w'=>e=aN (bp #[K ac (i4 (gX ((l.drop b).take a) a)),K aa 0])/\an w.heap.size w w':=by obtain⟨_,m,rfl,_,E,y,_⟩:=id o;obtain⟨p,q,rfl,_,_,f⟩:=y (by omega);unfold aG at E;refine(ek (n:=3)).1 ?_;refine ms func180 I trivial ?_ I;simp only[ntmps180,fy,cN,dA,fI,fX,JQ,gm,gn,go,dr,ej];have hcut:Bytes w 0 w (G (R ⟨p,q+b,N⟩) a (m-b)) ((l.drop b).take a):=o.cut b a _ D (by omega) (by unfold aG;omega);have Q:((l.drop b).take a)=a:=by{simp;omega};generalize(l.drop b).take a=j at*;clear f y o;gi_wp2_with (refine⟨trivial,?_⟩;gi_at_call 205;refine(CV fY _ trivial I _ _ _ _).mono ?_;rintro e w' ⟨rfl,rfl⟩);have d:=oQ w (K ac 0) 23;have r:=oQ (aO w (Y #[K ac 0] 23)) (G (R ⟨p,q+b,N⟩) a (m-b)) 30;rw[e9]at r;have z:=hcut.below (((ay _ w).alloc (aJ _) (Y #[K ac 0] 23)).alloc (by simp) (Y #[G (R ⟨p,q+b,N⟩) a (m-b)] 30)) (aJ _);refine ww I (by omega) (gf:=216) (lb:=#[bc (R ⟨w.heap.size+1,0,N⟩)]) I trivial (enters_of func216 (by kernel_rfl) I) (CW fY 2 trivial I (by omega) (w.heap.size+1) w.heap.size 0 _ j _ (by simp) (by simp;omega) r.1 z) gY.trans (rB (by simp;omega) (by simp)) () (λ_=>rfl) (λg c=>(aI c ⟨w,0,N⟩=R (K ac (i4 g))/\ed c ⟨w,0,N⟩=am)/\an w w c) (λ_ _ _=>False) (pN (Own.from (λ_ _ _ _ d A B=>⟨k9 d.1 A B,(lK d.1 A B).trans d.2⟩) _) (kv (aJ _) (by simp;omega))) (λ_=>Own.from (λ_ _ _ _ d _ _=>d) _) ⟨⟨CP _ d.1,CQ _ d.1 d.2⟩,(((ay _ w).alloc (aJ _) _).alloc (by simp) _)⟩ ?a1 ?assign ?body ?done ?stop;(case assign=>intro l k c _ s;gi_wp2;exact s);(case done=>rintro i _ c F rfl ⟨⟨f,C⟩,t⟩ s;gi_wp2;have u:(c.setCell ⟨w.heap.size,0,N⟩ (K ac (i4 (gX j a)))).heap[i]?=R (.deferred (R [])):=(k_ c _ _).same i _ s I;refine⟨by simp,aD ⟨_,_,I,hV u,?_⟩⟩;have H:aI ((ah c ⟨w.heap.size,0,N⟩ (K ac (i4 (gX j a)))).putObj i (.deferred N)) ⟨w.heap.size,0,N⟩=R (K ac (i4 (gX j a))):=k9 (lH _ _ _ (by rw[f];rfl)) (hW _ i (.deferred N)) (λL e=>by cases e;exact⟨_,u,I⟩);simp at F;exact⟨bp #[K ac (i4 (gX j a)),K aa 0],by simp[bF,results180,go_sem,H],I,(aS t w 0 _).trans (g7 (w:=w) () _ i _ _ (by omega) u I I)⟩);(case stop=>intro i m g c _ _ h _;exact h.elim);rintro L g ⟨M,k⟩ c ⟨⟨f,C⟩,t⟩ _;have hx:(k.toNat:O)<256:=by{have:=k.toNat_lt;omega};have⟨_,x⟩:=ao (i4 g);have P:=ag x;rw[x]at f;clear x z r d;gi_wp2;refine⟨k_ _ _ _,⟨aS (ay w.heap.size c) w 0 _,ra _ _ _ _ (by simp)⟩,⟨?_,by rw[wx];exact C⟩,aS t w 0 _⟩;rw[show i4 (g++[(M,k)])=bits BinOp.or ac (i4 g*256%4294967296) k.toNat by simp[i4],P.o];exact lH _ _ _ (by rw[f];rfl)
theorem oR (q a:J) (c:q<16777216:=by omega) (hx:a<256:=by omega):bits BinOp.or ac ((q:O)*256%4294967296) (a:O)=((q*256+a:J):O):=by have b:((q:O)*256%4294967296)=((q*256:J):O):=by{omega};rw[b,bits_join ac 32 (by decide) (λ_ _ _=>by rw[IntKind.wrap_u32];omega) 8 _ _ (by omega) (by omega) (by omega) (by omega) (by omega) (by omega)];omega
theorem CY (a b:ar):i4 (gX [a,b] 2)=(numOf [a,b]:O):=by have e:=a.toNat_lt;have f:=b.toNat_lt;have c:=oR 0 b;have d:=oR b a;simp at c;simp[i4,gX,fJ,JH,c,d,numOf];omega
theorem CZ (a b c d:ar):i4 (gX [a,b,c,d] 4)=(numOf [a,b,c,d]:O):=by have i:=a.toNat_lt;have j:=b.toNat_lt;have k:=c.toNat_lt;have l:=d.toNat_lt;have e:=oR 0 d;have f:=oR d c;have g:=oR (d.toNat*256+c.toNat) b;have h:=oR ((d.toNat*256+c.toNat)*256+b.toNat) a;simp at e;simp only[i4,gX,fJ,JH,hH,np,BS,List.foldl_nil,cN,dA,fI,fX,tj,pO,Int.zero_mul];rw[show(0:O)%4294967296=0 by decide,e,f,g,h];simp[numOf];omega
def cY (l:U ar) (a:O) (b:J):J:=if 0<=a/\a.toNat+b<=l then numOf ((l.drop a.toNat).take b)else 0
def hN (l:U ar) (a:O) (b:J):O:=if 0<=a/\a.toNat+b<=l then 0 else 8
theorem C0 (v:ad) (l:U ar) (a:O) (b:J) (w:ab) (c:Bytes w 0 w v l) (g:¬(0<=a/\a.toNat+b<=l)) (h:b<=4):aR prog 180 #[v,a,b] w λe w'=>e=aN (bp #[K ac 0,K aa 8])/\an w w w':=by obtain⟨_,_,rfl,_,d,f⟩:=c;unfold aG at d;clear f;by_cases i:a<0;{go_in;go_wp2;refine aU (by go_simp;rfl) I ?_;exact⟨I,(ay _ _).alloc () _⟩};have j:(l:O)-b<a:=by{omega};go_in;go_wp2;refine aU (by go_simp;rfl) I ?_;exact⟨I,(ay _ _).alloc () _⟩
theorem xz (v:ad) (l:U ar) (c:O) (a:J) (w:ab) (k:Bytes w 0 w v l) (n:a=2\/a=4):aR prog 180 #[v,c,a] w λe w'=>e=aN (bp #[K ac (cY l c a),K aa (hN l c a)])/\an w w w':=by by_cases h:0<=c/\c.toNat+a<=l;{obtain⟨d,rfl⟩:=wy h.1;simp at h;have b:(l.drop d)=l-d:=by{simp};have i:i4 (gX ((l.drop d).take a) a)=(cY l d a:O):=by{simp only[cY,cg];rw[av (by omega)];rcases n with rfl|rfl;{match(l.drop d),b with|f::g::o,_=>exact CY f g|[],b=>simp at b;omega|[f],b=>simp at b;omega};match(l.drop d),b with|f::g::m::p::o,_=>exact CZ f g m p|[],b=>simp at b;omega|[f],b=>simp at b;omega|[f,g],b=>simp at b;omega|[f,g,m],b=>simp at b;omega};have j:hN l d a=0:=by{simp only[hN,cg];rw[av (by omega)]};rw[<-i,j];exact CX v l d a w k h (by omega)};have i:cY l c a=0:=by{rw[cY,aB h]};have j:hN l c a=8:=by{rw[hN,aB h]};rw[i,j];exact C0 v l c a w k h (by omega)
theorem xA:∀l:U ar,numOf l<256^l.length|[]=>by simp[numOf]|x::l=>by have:=xA l;have:=x.toNat_lt;simp only[numOf,cN,Nat.pow_succ];omega
theorem nI (l:U ar) (b:O) (a:J):cY l b a<256^a:=by unfold cY;split;{exact cB (xA _) (Nat.pow_le_pow_right (by decide) (by simp;omega))};exact Nat.pow_pos (by decide)
theorem rC (v:ad) (l:U ar) (a:O) (w:ab) (b:Bytes w 0 w v l):aR prog 127 #[v,a] w λe w'=>e=aN (bp #[K aa (cY l a 2),K aa (hN l a 2)])/\an w w w':=by have f:=nI l a 2;have c:=xz v l a 2 w b (aD I);generalize cY l a 2=g at*;generalize hN l a 2=h at*;clear b;go_in;go_wp2_with (go_at_call 180;refine c.mono ?_;rintro e w' ⟨rfl,d⟩);go_ret2;exact⟨I,d⟩
theorem nJ (v:ad) (l:U ar) (a:O) (w:ab) (b:Bytes w 0 w v l):aR prog 126 #[v,a] w λe w'=>e=aN (bp #[K ac (cY l a 4),K aa (hN l a 4)])/\an w w w':=by have c:=xz v l a 4 w b (az I);generalize cY l a 4=f at*;generalize hN l a 4=g at*;clear b;go_in;go_wp2_with (go_at_call 180;refine c.mono ?_;rintro e w' ⟨rfl,d⟩);go_ret2;exact⟨I,d⟩
def cZ (n:J):U ar:=[ee n,ee (n/256)]
def bY (n:J):U ar:=[ee n,ee (n/256),ee (n/65536),ee (n/16777216)]
theorem rD (n:J) (w:ab) (h:n<65536:=by omega):aR prog 120 #[n] w λe w'=>∃v,e=aN (bp #[v,K aa 0])/\cJ w w' v (cZ n):=by have a:((n:O)/65536 !=0)=am:=by{simp;omega};go_in;go_wp2;go_ret2;refine⟨_,I,cJ.new () _ _ (by simp[cZ,aG]) _ ?_ _ (by simp[cZ])⟩;simp only[cZ,hH,np];rw[oP _ n,oP _ (n/256)]
theorem nK (n:J) (w:ab) (h:n<4294967296:=by omega):aR prog 122 #[K ac n] w λe w'=>∃v,e=aN v/\cJ w w' v (bY n):=by go_in;go_wp2;go_ret;refine⟨_,I,cJ.new () _ _ (by simp[bY,aG]) _ ?_ _ (by simp[bY])⟩;simp only[bY,hH,np];rw[oP _ n,oP _ (n/256),oP _ (n/65536),oP _ (n/16777216)]
end
theorem i5:(prog.info? 5).map (λi=>(i.zero,i.size,i.bytes))=R (R (K aL 0),1,1):=by kernel_rfl
theorem xB {P:c9} {w:ab} {ops:bd bI} {rest:U bI} {o:bI} {a:bm} {Q:dT->bm->ab->Prop} (v:o.guard=N) (d s:gV) (l p:bg) (x:o.op=.call {callee:=.builtin .copy,args:=#[d,s],argTypes:=#[l,p]}) (e:bg) (m:P.underlying l=R (.slice e)) (hi:(P.info? e).map (λi=>(i.zero,i.size,i.bytes))=R (R (K aL 0),1,1)) (g off c y:J) (z:a.eval d=G (R ⟨g,off,N⟩) c y) (j:U ar) (A:eF w g e j) (lo hi':J) (q:ad) (b:U ar) (C:a.eval s=q) (D:Bytes w lo hi' q b) (E:off+min b.length c<=j.length) (B:J) (F:B<=g) (h:∀w',eF w' g e (c_ j off (b.take (min b c)))->an B w w'->eD P ops Q rest (a.put o.dst (goInt ((min b c:J):O))) w'):eD P ops Q (o::rest) a w:=by have⟨_,H,_,L,_⟩:=gC hi;obtain⟨_,_,rfl,_,_,M,_⟩:=D;have n:(b.take (min b.length c)).length=min b.length c:=by{rw[List.length_take];omega};have r:((b.take (min b.length c)).map bV).length=g8 b.length c:=by{rw[gE,n]};refine wpList_copy_splice v d s l p x e m (by rw[H];simp[L]) _ _ _ _ _ _ z C g off (j.map bV) e A ((b.take (min b c)).map bV) r ?_ ?_ ?_ B w () F ?_;{intro S;refine⟨I,?_⟩;rw[r]at S;have T:0<b.length:=by{have:g8 b c<=b:=Nat.min_le_left _ _;omega};obtain⟨t,u,rfl,_,_,V⟩:=M T;refine⟨_,I,λk _ f=>?_⟩;have W:(⟨t,u,N⟩:bb).add k=⟨t,u+k,N⟩:=by{unfold ni;split<;>simp_all};rw[iZ,fi]at f;split at f;{cases hx:b[k]? with|none=>{rw[hx]at f;cases f}|some Z=>rw[hx]at f;cases f;rw[W];exact V k Z hx};cases f};{rw[gE,gE,n];exact E};{intro _ m;obtain⟨_,_,rfl⟩:=iX.1 m;rfl};intro w' ae ag;rw[gE,n];refine h w' ?_ ag;unfold eF;rw[ae.out];simp[c_,BT,List.map_drop]
def rE (g:J) (w w':ab):Prop:=an g w w'/\w'.heap.size=w/\∀a,a≠g->w'.heap[a]?=w.heap[a]?
theorem rE.refl (g:J) (w:ab):rE g w w:=⟨ay _ _,I,λ_ _=>rfl⟩
theorem C1 {P:c9} {w:ab} {ops:bd bI} {rest:U bI} {o:bI} {a:bm} {Q:dT->bm->ab->Prop} (q:o.guard=N) (d s:gV) (j n:bg) (r:o.op=.call {callee:=.builtin .copy,args:=#[d,s],argTypes:=#[j,n]}) (e:bg) (k:P.underlying j=R (.slice e)) (hi:(P.info? e).map (λi=>(i.zero,i.size,i.bytes))=R (R (K aL 0),1,1)) (g off l t:J) (u:a.eval d=G (R ⟨g,off,N⟩) l t) (c:U ar) (p:eF w g e c) (lo hi':J) (v:ad) (b:U ar) (x:a.eval s=v) (C:Bytes w lo hi' v b) (D:b<=l) (E:off+b.length<=c) (h:∀w',eF w' g e (c_ c off b)->rE g w w'->eD P ops Q rest (a.put o.dst (goInt ((b.length:J):O))) w'):eD P ops Q (o::rest) a w:=by have⟨_,F,_,H,_⟩:=gC hi;obtain⟨_,_,rfl,_,_,L,_⟩:=C;have y:g8 b l=b:=jk D;have z:(P.info? e).map (·.size)=R 1:=by{rw[F];simp[H]};by_cases M:b.length=0;{obtain rfl:b=[]:=fH M;refine wpList_copy_nothing q d s j n r e k z _ _ _ _ _ _ u x y ?_;exact h w (by simpa[c_]using p) (rE.refl _ _)};obtain⟨A,B,rfl,_,_,S⟩:=L (by omega);refine wpList_copy_own q d s j n r e k z g off l t _ _ _ u x (c.map bV).toArray e p (b.map bV) (by rw[gE,y]) ?_ (by simpa using E) ?_ ?_;{intro m _ f;have T:(⟨A,B,N⟩:bb).add m=⟨A,B+m,N⟩:=by{unfold ni;split<;>simp_all};rw[iZ]at f;cases hx:b[m]? with|none=>{rw[hx]at f;cases f}|some V=>rw[hx]at f;cases f;rw[T];exact S m V hx};{intro _ k;obtain⟨_,_,rfl⟩:=iX.1 k;rfl};rw[gE];refine h _ ?_ ⟨tk () () _,by simp[World.setRow],λW _=>tn w g W _ (by omega)⟩;unfold eF;rw[tp w g (c.map bV).toArray _ e (0,0) p];simp[c_,BT,List.map_drop]
theorem lp {w w':ab} {lo hi:J} {v:ad} {l:U ar} (h:Bytes w lo hi v l) (a:ef w v) (b:Kp lo hi w w'):ef w' v:=by grind [Bytes,ef,Kp]
def rF:Rd (U ar) where
 n:=1
 R w lo hi x f:=∃a,f 0=R a/\Bytes w lo hi a x/\ef w a
 bC hk h:=by obtain⟨a,c,b,i⟩:=h;exact⟨a,c,b.kept hk,lp b i hk⟩
 more c b h:=by obtain⟨a,d,e,g⟩:=h;exact⟨a,d,e.more c b,g⟩
 ext j h:=by obtain⟨a,d,e,g⟩:=h;exact⟨a,(j 0 (by decide))▸d,e,g⟩
def xC:Rd eo where
 n:=2
 R w lo hi x f:=f 0=x.at_/\(ei aa x.at_).wf=af/\∃a,f 1=R a/\Bytes w lo hi a x.data/\ef w a
 bC hk h:=by obtain⟨b,c,a,e,d,l⟩:=h;exact⟨b,c,a,e,d.kept hk,lp d l hk⟩
 more e d h:=by obtain⟨b,c,a,g,i,j⟩:=h;exact⟨b,c,a,g,i.more e d,j⟩
 ext k h:=by obtain⟨b,c,a,g,i,j⟩:=h;exact⟨(k 0 (by decide))▸b,c,a,(k 1 (by decide))▸g,i,j⟩
theorem Sl.imp {b:Type} {r a:Rd b} {w:ab} {lo hi:J} {v:ad} {l:U b} (h:Sl r w lo hi v l) (d:a.n=r.n) (hi':∀c f,r.R w lo hi c f->a.R w lo hi c f):Sl a w lo hi v l:=by grind [Sl]
def e3 (w:ab) (lo hi:J) (b u:ad) (d:aY):Prop:=Sl rF w lo hi b d.q/\Sl xC w lo hi u d.u
theorem e3.v {w:ab} {lo hi:J} {b u:ad} {d:aY} (h:e3 w lo hi b u d):cF w lo hi b u d:=⟨h.1.imp I λ_ _ ⟨a,c,e,_⟩=>⟨a,c,e⟩,h.2.imp I λ_ _ ⟨f,c,a,e,g,_⟩=>⟨f,c,a,e,g⟩⟩
theorem cF.step {w w':ab} {lo:J} {b u:ad} {d:aY} (h:cF w lo w b u d) (a:an w w w'):cF w' lo w' b u d:=⟨h.1.step a,h.2.step a⟩
theorem e3.below {w w':ab} {lo hi B:J} {b u:ad} {d:aY} (h:e3 w lo hi b u d) (a:an B w w') (c:hi<=B):e3 w' lo hi b u d:=⟨h.1.below a c,h.2.below a c⟩
theorem e3.more {w:ab} {lo hi lo' hi':J} {b u:ad} {d:aY} (h:e3 w lo hi b u d) (a:lo'<=lo) (c:hi<=hi':=by omega):e3 w lo' hi' b u d:=⟨h.1.more a c,h.2.more a c⟩
theorem cF.more {w:ab} {lo hi lo' hi':J} {b u:ad} {d:aY} (h:cF w lo hi b u d) (a:lo'<=lo) (c:hi<=hi':=by omega):cF w lo' hi' b u d:=⟨h.1.more a c,h.2.more a c⟩
theorem e3.bw (w:ab) (lo hi:J):e3 w lo hi (G N 0 0) (G N 0 0) ⟨[],[]⟩:=⟨Sl.bw _ _ _,Sl.bw _ _ _⟩
structure gJ (w w':ab) (b u:ad) (d:aY):Prop where
 Z:e3 w' w w' b u d
 below:an w w w'
theorem gJ.bw {w w':ab} (h:an w w w'):gJ w w' (G N 0 0) (G N 0 0) ⟨[],[]⟩:=⟨e3.bw _ _ _,h⟩
theorem gJ.v0 {w w':ab} {b u:ad} {d:aY} (h:gJ w w' b u d):cF w' 0 w' b u d:=h.Z.v.more () ()
theorem mL {B:J} {a w:ab} (_:an B a w):∃v,v=w:=⟨_,I⟩
def dh (a:U (U ar)) (k:J):J:=(a.take k).flatten.length
def laid (a:U (U ar)) (k:J):U ar:=(a.take k).flatten++gj (a.flatten.length-dh a k) 0
theorem xD (a:U (U ar)) (k:J):a.flatten=(a.take k).flatten++(a.drop k).flatten:=by rw[<-wz,kw]
theorem xE (a:U (U ar)) (k:J) (h:k<a):(a.take (k+1)).flatten=(a.take k).flatten++al a k []:=by rw[List.take_add_one,wz];simp[h]
theorem t_ (a:U (U ar)):dh a 0=0:=by simp[dh]
theorem nL (a:U (U ar)) (k:J) (h:k<a):dh a (k+1)=dh a k+(al a k []):=by unfold dh;rw[xE a k h,bJ]
theorem mM (a:U (U ar)) (k:J):dh a k<=a.flatten:=by grind [ov,xD,bJ,dh]
theorem xF (a:U (U ar)):dh a a=a.flatten:=by simp[dh]
theorem C2 (a:U (U ar)):laid a 0=gj a.flatten 0:=by simp[laid,dh]
theorem rG (a:U (U ar)) (k:J):(laid a k).length=a.flatten:=by grind [mM,laid,bJ,List.length_replicate,dh]
theorem C3 (a:U (U ar)):laid a a=a.flatten:=by simp[laid,xF]
theorem xG (a:U (U ar)) (k o:J) (h:k<a) (f:dh a k<a.flatten->o=dh a k):c_ (laid a k) o (al a k [])=laid a (k+1):=by have b:=nL a k h;have c:=xE a k h;have i:=mM a (k+1);rcases jC (a.getD k []).length with d|d;{have g:al a k []=[]:=fH d;rw[g]at b c|-;simp only[dA,dq,jl]at b c;unfold laid;rw[b,c];simp[c_]};obtain rfl:=f (by omega);unfold laid c_;rw[c,b];have e:(a.take k).flatten=dh a k:=rfl;rw[List.take_left' e,wA,e,show dh a k+(al a k []).length-dh a k=(al a k []).length by omega,oy (by omega),dr,List.drop_replicate,List.append_assoc];congr 3;omega
theorem xH (a:U (U ar)) (j:J) (h:j<a.length):(a.flatten.drop (dh a j)).take (a.getD j []).length=a.getD j []:=by grind [xD,dh,List.drop_left,List.drop_eq_getElem_cons,i0,List.take_left]
def eG (d:aY):U (U ar):=d.q++d.u.map eo.data
theorem oS (d:aY):(eG d).length=d.q+d.u:=by simp[eG]
theorem qd (d:aY) (k:J) (h:k<d.q):al (eG d) k []=al d.q k []:=by simp[eG,jh h]
theorem qe (d:aY) (k:J) (h:k<d.u):al (eG d) (d.q.length+k) []=(al d.u k ⟨0,[]⟩).data:=by simp[eG,h]
def gu (a b c:J) (w w':ab):Prop:=w.heap.size<=w'/\∀d,d<w.heap.size->d≠a->d≠b->d≠c->w'.heap[d]?=w.heap[d]?
theorem gu.refl (a b c:J) (w:ab):gu a b c w w:=⟨aJ _,λ_ _ _ _ _=>rfl⟩
theorem gu.trans {a b c:J} {w d e:ab} (h:gu a b c w d) (k:gu a b c d e):gu a b c w e:=by grind [gu]
theorem gu.xI {a b c:J} {w e:ab} (h:e.heap.size=w) (k:∀d,d≠a->d≠b->e.heap[d]?=w.heap[d]?):gu a b c w e:=by grind [gu]
theorem gu.C4 {a b c:J} {w d:ab} (h:an w w d):gu a b c w d:=⟨h.size,λe f _ _ _=>h.block e f⟩
theorem aH (w:ab) (c o:J) (u:ad) (k:J) (h:k≠c:=by omega):(ah w (c,o) u).heap[k]?=w.heap[k]?:=by simp[ah,wB,Ne.symm h]
theorem gu.nM {a b c:J} (w:ab) (o:J) (u:ad):gu a b c w (ah w (c,o) u):=by grind [gu,Nat.le_of_eq,bB,aH]
theorem cA {w w':ab} {b:J} (h:w'.heap[b]?=w.heap[b]?) (o:J):aI w' (b,o)=aI w (b,o):=by unfold aI;simp[h]
theorem jP {w w':ab} {b:J} (h:w'.heap[b]?=w.heap[b]?) (o:J):ed w' (b,o)=ed w (b,o):=by unfold ed;simp[h]
noncomputable def mQ (w W:ab):ab:=by classical exact if an w w W then W else w
theorem fh (w W:ab):an w w (mQ w W):=by unfold mQ;split;{assumption};exact ay _ _
theorem C5 {w W:ab} (h:an w w W):mQ w W=W:=by unfold mQ;rw[av h]
def cc (w:ab) (w':ab):Prop:=∃a,w'=mQ w a
attribute [go_sem] cc
theorem cc.of {w w':ab} (h:an w w w'):cc w w':=⟨w',(C5 h).symm⟩
theorem cc.below {w w':ab} (h:cc w w'):an w w w':=by obtain⟨a,rfl⟩:=h;exact fh w a
theorem cc.drew (w:ab):cc w w.drew:=cc.of (ay _ _).drew
def uc (o:bI):aP:=match o.op with|.move _|.assign _|.pick ..|.load ..|.binOp ..|.unOp ..|.convert ..|.slice ..|.fieldAddr ..|.field ..|.indexAddr ..|.index ..|.extract ..=>af|.call {callee:=.builtin .len,..}=>af|_=>am
section
variable {P:c9} {ops:bd bI} {Q:dT->bm->ab->Prop} {md:j5} {S S':ab->Prop} {C:ab->Prop}
theorem kj {s:Sem ad} {w:ab} {v:ad} (h:ts P C w v ((do pure (wD (<-s)):Sem Next).run P w)):((do pure (wD (<-s)):Sem Next).run P w)=.ok (.value v) w:=by simp only[nt]at h|-;cases a:s.run P w with|ok b c=>rw[a]at h;simp only[lR,lc,ts]at h|-;obtain⟨rfl,rfl⟩:=h;rfl|halt b c=>rw[a]at h;simp only[lR,ts]at h
theorem xM {o:bI} {a:bm} {w:ab} {v:ad} (c:uc o=af) (h:o.quietAt P a C w v):(hs a.eval o).run P w=.ok (.value v) w:=by unfold Oper.quietAt at h;have⟨k,f,g,l,mQ,m⟩:=o;unfold uc at c;cases f with|move b=>simp only[hs,lc,ts]at h|-;obtain⟨_,rfl⟩:=h;rfl|assign b=>simp only[hs,lc,ts]at h|-;obtain⟨_,rfl⟩:=h;rfl|pick d b i=>have j:hs a.eval {dst:=k,op:=.pick d b i,type:=g,pos:=l,after:=mQ,guard:=m}=(do pure (wD (<-(do pure (if<-asBool (a.eval d)then a.eval b else a.eval i):Sem ad))):Sem Next):=by{simp[hs]};rw[j]at h|-;exact kj h|call d=>{have⟨s,n,p⟩:=d;cases s with|builtin t=>{cases t with|len=>have j:hs a.eval {dst:=k,op:=.call {callee:=.builtin .len,args:=n,argTypes:=p},type:=g,pos:=l,after:=mQ,guard:=m}=(do pure (wD (<-Builtin.len_ p g (n.map a.eval))):Sem Next):=by{simp[hs,resolve,invoke,builtin]};rw[j]at h|-;exact kj h|_=>simp at c}|_=>simp at c}|load e b=>exact kj h|binOp f q b i y=>exact kj h|unOp f e b=>exact kj h|convert u z b=>exact kj h|slice e b A B D=>exact kj h|fieldAddr u b x=>exact kj h|field q b x=>exact kj h|indexAddr e b r=>exact kj h|index q b r=>exact kj h|extract e r=>exact kj h|_=>simp at c
def mR (md:j5) (ops:bd bI):U J->bd aP->aP|[],_=>af|i::q,a=>(fZ md ops a).contains i&&Region.free md ops a i&&((ops[i]?).map uc).getD am&&mR md ops q (a.setIfInBounds i af)
def mS:U J->bd aP->bd aP|[],l=>l|i::q,l=>mS q (l.setIfInBounds i af)
def oU:aF bI->U bI->U bI|some o,l=>o::l|N,l=>l
theorem xN (o:bI) (l:U bI):oU (R o) l=o::l:=rfl
def opsOf (ops:bd bI):U J->U bI|[]=>[]|i::q=>oU ops[i]? (opsOf ops q)
theorem xO (ops:bd bI) (i:J) (q:U J):opsOf ops (i::q)=oU ops[i]? (opsOf ops q):=rfl
theorem bK:(∀(ops:bd bI) (i:J) (q:U J),opsOf ops (i::q)=oU ops[i]? (opsOf ops q))/\(∀ops:bd bI,opsOf ops []=[])/\(∀(o:bI) (l:U bI),oU (R o) l=o::l)/\(∀(l:U bI) (i:J),l.toArray[i]?=l[i]?)/\(∀(o:bI) (l:U bI) (i:J),(o::l)[i+1]?=l[i]?)/\(∀(o:bI) (l:U bI),(o::l)[0]?=o):=by grind [opsOf,oU]
theorem ud (f:wE ops=af) (g:∀c (d:aF Tmp) (v:ad) (a:bm) w,Q (.panic c) (a.put d v) w->Q (.panic c) a w) {k:J} {w:ab} (j:S w):∀(q:U J) (n:J) (b:bd aP) (a:bm),mR md ops q b=af->n=q.length+k->mA P ops S (λa'=>jE P md ops Q S k (mS q b) a' w) (opsOf ops q) a->jE P md ops Q S n b a w|[],n,b,a,_,l,h=>by subst l;simpa[opsOf,mA,mS]using h|i::q,n,b,a,o,l,h=>by simp only[mR,f_]at o;obtain⟨⟨⟨p,r⟩,m⟩,s⟩:=o;cases e:ops[i]? with|none=>simp[e]at m|some t=>simp only[e,j6,kx]at m;have u:opsOf ops (i::q)=t::opsOf ops q:=by{rw[xO,e,xN]};rw[u]at h;obtain rfl:n=(q.length+k)+1:=by{simp at l;omega};simp only[mA]at h;split at h;{rename_i hw;have⟨v,x,y⟩:=h;exact wpAnyH_take e f r p (λc a w=>g c _ _ a w) (aD ⟨hw,λz A=>xM m (x z A)⟩) j (ud f g j q _ _ _ s I y)};rename_i hw;exact wpAnyH_take e f r p (λc a w=>g c _ _ a w) (az ⟨by simpa using hw,I⟩) j (ud f g j q _ _ _ s I h)
theorem xP (c:∀W,S' W->S W):∀(b:J) (d:bd aP) (a:bm) (w:ab),jE P md ops Q S' b d a w->jE P md ops Q S b d a w|0,_,_,_,h=>h|b+1,_,_,_,h=>⟨h.1,λi hi=>wpOp_mono (λa' w' e=>⟨c _ e.1,xP c b _ a' w' e.2⟩) (h.2 i hi)⟩
def rJ (P:c9) (md:j5) (ops:bd bI) (Q:dT->bm->ab->Prop) (S:ab->Prop) (d:J) (e:bd aP) (f:bm->ab->Prop):Prop:=∀(S':ab->Prop) b a,(∀c,S' c->S c)->S' a->jE P md ops Q S' d e b a->f b a
theorem rJ.out {b:J} {c:bd aP} {d:bm->ab->Prop} (h:rJ P md ops Q S b c d) (S':ab->Prop) {a:bm} {w:ab} (e:∀W,S' W->S W) (f:S' w) (g:jE P md ops Q S' b c a w):d a w:=h S' a w e f g
def io (P:c9) (md:j5) (ops:bd bI) (Q:dT->bm->ab->Prop) (S:ab->Prop) (d:J) (e:bd aP) (a:bm) (w:ab) (f:U J):Prop:=∀b∈f,wpOp P ops Q b (λg c=>S c/\jE P md ops Q S d (e.setIfInBounds b af) g c) a w
theorem io.nil {b:J} {c:bd aP} {a:bm} {w:ab}:io P md ops Q S b c a w []:=λ_ h=>by cases h
theorem io.cons {c:J} {d:bd aP} {a:bm} {w:ab} {i:J} {f:U J} (o:bI) (j:ops[i]?=o) (h:∀b:bm->ab->Prop,rJ P md ops Q S c (d.setIfInBounds i af) b->if ld o (lS ops a.tmps)=af then hX P o a w b Q else b (a.put o.dst aM) w) (k:io P md ops Q S c d a w f):io P md ops Q S c d a w (i::f):=λl e=>by rcases dU.1 e with rfl|e;{exact wpOp_step j (λb m=>h b (λS' a w g n p=>m a w ⟨g _ n,xP g _ _ _ _ p⟩))};exact k l e
theorem ue {n d:J} {b:bd aP} {a:bm} {w:ab} (c:U J) (e:fZ md ops b=c) (f:c≠[]) (g:n=d+1) (h:io P md ops Q S d b a w c):jE P md ops Q S n b a w:=by subst g;exact wpAnyH_all e f h
theorem he (f:J) {w:ab} {n:J} {b:bd aP} {a:bm} (q:U J) (g:S w) (i:∀c e (v:ad) (a:bm) w,Q (.panic c) (a.put (R e) v) w=Q (.panic c) a w) (d:(wE ops&&(mR md ops q b&&n==q.length+f))=af) (h:mA P ops S (λa'=>jE P md ops Q S f (mS q b) a' w) (opsOf ops q) a):jE P md ops Q S n b a w:=by simp only[f_,gp]at d;exact ud d.1 (λc j v a w h=>by cases j with|none=>exact h|some e=>exact i c e v a w▸h) g q n b a d.2.1 d.2.2 h
theorem C6 {n:J} (e:J) {d:bd aP} {a:bm} {w:ab} (c:U J) (b:(fZ md ops d==c&&(!c.isEmpty&&n==e+1))=af) (h:io P md ops Q S e d a w c):jE P md ops Q S n d a w:=by simp only[f_,tu,gp]at b;exact ue c b.1 (λf=>by rw[f]at b;simp at b) b.2.2 h
theorem ls {e:J} {d:bd aP} {a:bm} {w:ab} (b:U J) (c:(fZ md ops d==b&&!b.isEmpty)=af) (h:io P md ops Q S e d a w b):jE P md ops Q S (e+1) d a w:=by simp only[f_,tu,gp]at c;exact ue b c.1 (λf=>by rw[f]at c;simp at c) I h
theorem lu {n:J} (e i:J) {b:bd aP} {a:bm} {w:ab} {o:bI} (c:(fZ md ops b==[i]&&n==e+1)=af) (f:ops[i]?=o) (h:∀d:bm->ab->Prop,rJ P md ops Q S e (b.setIfInBounds i af) d->if ld o (lS ops a.tmps)=af then hX P o a w d Q else d (a.put o.dst aM) w):jE P md ops Q S n b a w:=by simp only[f_,gp]at c;exact ue [i] c.1 (by simp) c.2 (io.cons o f h io.nil)
end
def fO (ops:bd bI) (i:J):aF Tmp:=(ops[i]?).bind (·.dst)
def cI (ops:bd bI) (b:J->ad):U J->bm->bm|[],a=>a|i::c,a=>cI ops b c (a.put (fO ops i) (b i))
def nQ (ops:bd bI):U J->aP|[]=>af|i::a=>(a.all λj=>fO ops i==N||fO ops j !=fO ops i)&&nQ ops a
def hz (b:J->ad) (k:J) (v:ad):J->ad:=λa=>if a=k then v else b a
section
variable {ops:bd bI}
theorem C7 (a:bm) (b:aF Tmp) (u v:ad):(a.put b u).put b v=a.put b v:=by cases b with|none=>rfl|some c=>simp[Act.put,Array.setIfInBounds_setIfInBounds]
def qi (a:bm):aF Tmp->ad|some d=>a.tmps.getD d aM|none=>aM
theorem C8 (a:bm) (b:aF Tmp):a.put b (qi a b)=a:=by cases b with|none=>rfl|some d=>obtain⟨e,f⟩:=a;simp only[Act.put,qi];congr 1;apply Array.ext_getElem?;intro g;rw[Array.getElem?_setIfInBounds];split;{rename_i h;subst h;split;{rename_i c;simp[c]};rename_i c;simp[c]};rfl
theorem uf (a:bm):∀b,cI ops (λi=>qi a (fO ops i)) b a=a|[]=>rfl|i::b=>by rw[cI,C8,uf a b]
theorem xQ (e:J->ad) (b:aF Tmp) (v:ad):∀(c:U J) (a:bm),(∀j∈c,b=N\/fO ops j≠b)->(cI ops e c a).put b v=cI ops e c (a.put b v)|[],_,_=>rfl|i::c,a,h=>by rw[cI,cI,xQ e b v c _ (λj f=>h j (en _ f))];congr 1;rcases h i (dM ..)with rfl|g;{rfl};· exact Act.put_comm a _ _ (λd k hx=>g (k.trans hx.symm))
theorem xR {c d:J->ad}:∀(b:U J) (a:bm),(∀j∈b,c j=d j\/fO ops j=N)->cI ops c b a=cI ops d b a|[],_,_=>rfl|i::b,a,h=>by rw[cI,cI,xR b _ (λj f=>h j (en _ f))];rcases h i (dM ..)with e|e<;>rw[e]<;>rfl
theorem ug (c:J->ad) (k:J) (v:ad):∀(b:U J) (a:bm),nQ ops b=af->k∈b->(cI ops c b a).put (fO ops k) v=cI ops (hz c k v) b a|[],_,_,d=>by{cases d}|i::b,a,f,d=>by simp only[nQ,f_,j7,lT,gp,bne_iff_ne,ne_eq]at f;have⟨g,m⟩:=f;by_cases e:k=i;{subst e;rw[cI,xQ c _ v b _ g,C7,cI];have:hz c k v k=v:=by{simp[hz]};rw[this];refine xR b _ (λj n=>?_);by_cases l:j=k;{subst l;rcases g j n with h|h;{exact az h};exact absurd I h};left;simp[hz,l]};· have o:k∈b:=by{rcases dU.1 d with h|h;{exact absurd h e};exact h};rw[cI,ug c k v b _ m o,cI];have:hz c k v i=c i:=by{simp[hz,Ne.symm e]};rw[this]
end
def nR (md:j5) (ops:bd bI) (f:bd aP) (c:U J) (g:J->U J):aP:=((fJ ops.size).all λa=>f.getD a af||c.contains a)&&c.all λa=>decide (a<f.size)&&decide (a<ops.size)&&(((ops[a]?).map λd=>d.after.all λb=>!oB md b||decide (b.on<a)).getD am)&&((g a).all λe=>c.contains e&&(((ops[a]?).map λd=>d.after.any λb=>oB md b&&(b.on==e||(c.contains b.on&&(g b.on).contains e))).getD am))
section
variable {P:c9} {ops:bd bI} {Q:dT->bm->ab->Prop} {md:j5} {S:ab->Prop}
def kk (P:c9) (ops:bd bI) (Q:dT->bm->ab->Prop) (S:ab->Prop) (i:J->ad->ab->Prop) (m:J->U J) (d:U J) (e:bm) (l:U J):Prop:=∀f∈l,∀b,ops[f]?=R b->∀(c:J->ad) (a:ab),S a->(∀j∈m f,i j (c j) a)->∀g:bm->ab->Prop,(∀k h,i f k h->an a a h->g ((cI ops c d e).put b.dst k) h)->if ld b (lS ops (cI ops c d e).tmps)=af then hX P b (cI ops c d e) a g Q else g ((cI ops c d e).put b.dst aM) a
theorem kk.nil {a:J->ad->ab->Prop} {b:J->U J} {c:U J} {d:bm}:kk P ops Q S a b c d []:=λ_ h=>by cases h
theorem kk.cons {d:J->ad->ab->Prop} {e:J->U J} {a:U J} {b:bm} {i:J} {l:U J} (o:bI) (k:ops[i]?=o) (h:∀(c:J->ad) (W:ab),S W->(∀j∈e i,d j (c j) W)->∀f:bm->ab->Prop,(∀v g,d i v g->an W W g->f ((cI ops c a b).put o.dst v) g)->if ld o (lS ops (cI ops c a b).tmps)=af then hX P o (cI ops c a b) W f Q else f ((cI ops c a b).put o.dst aM) W) (m:kk P ops Q S d e a b l):kk P ops Q S d e a b (i::l):=by simp_all [cI,kk];omega
theorem nS (a:bd aP) (i:J) (d:aP) (h:i<a.size:=by omega):(a.setIfInBounds i af).getD i d=af:=by simp[ri,h]
theorem oV (a:bd aP) (i:J) (d e:aP) (h:i<a.size:=by omega):a.getD i d=a.getD i e:=by simp[ri,h]
theorem C9 (b:U J) (D:J->U J) (y:J->ad->ab->Prop) (p:bd aP) (E:bm) (ag:∀W m,S W->an W W m->S m) (aw:∀i v W m,y i v W->an W W m->y i v m) (ax:nQ ops b=af) (ah:nR md ops p b D=af) (aA:kk P ops Q S y D b E b) (ai:∀(f:J->ad) (W:ab),S W->(∀i∈b,y i (f i) W)->Q .normal (cI ops f b E) W):∀(z:J) (a:bd aP) (f:J->ad) (W:ab),S W->a.size=p.size->(∀j,j∉b->a.getD j af=p.getD j af)->(∀i∈b,a.getD i af=af->y i (f i) W/\∀j∈D i,a.getD j af=af)->(b.filter λi=>!a.getD i af).length<=z->jE P md ops Q S z a (cI ops f b E) W:=by simp only[nR,f_,j7,mB,lT,pS,gr]at ah;have⟨aj,H⟩:=ah;have ak:∀(a:bd aP),a.size=p.size->(∀j,j∉b->a.getD j af=p.getD j af)->∀i,i∈fZ md ops a->i∈b/\a.getD i af=am:=by{intro a q n i e;have⟨g,L,s,_⟩:=lf.1 e;refine⟨?_,g⟩;have t:i<ops.size:=(a_.1 s).1;rcases aj i t with h|h;{by_cases k:i∈b;{exact k};rw[n i k,h]at g;cases g};exact h};have aB:∀(a:bd aP),a.size=p.size->(∀j,j∉b->a.getD j af=p.getD j af)->fZ md ops a=[]->∀i∈b,a.getD i af=af:=by{intro a q n A;have aE:∀i,i<ops.size->a.getD i af=af:=by{intro i;induction i using Nat.strongRecOn with|_ i M=>intro t;cases hx:a.getD i af with|true=>rfl|false=>exfalso;have k:i∈b:=by{rcases aj i t with h|h;{by_cases k:i∈b;{exact k};rw[<-n i k,hx]at h;cases h};exact h};have⟨⟨⟨g,r⟩,al⟩,_⟩:=H i k;have ao:i∈fZ md ops a:=by{refine lf.2 ⟨hx,ops[i],by simp[t],λc O T=>?_⟩;simp only[pT t,j6,kx,BV]at al;have ap:=al c O;simp only[T,wF,Bool.false_or,gr]at ap;have aF:=M c.on ap (by omega);rw[oV a c.on am af];exact aF};rw[A]at ao;cases ao};intro i e;exact aE i (H i e).1.1.2};intro z;induction z with|zero=>{intro a f W u q n w aG;have aH:(b.filter λi=>!a.getD i af)=[]:=fH (by omega);have F:∀i∈b,a.getD i af=af:=λi e=>by{cases hx:a.getD i af with|true=>rfl|false=>have:i∈(b.filter λi=>!a.getD i af):=j8.2 ⟨e,by simp only[hx,Bool.not_false]⟩;rw[aH]at this;cases this};refine⟨?_,ai f W u (λi e=>(w i e (F i e)).1)⟩;cases A:fZ md ops a with|nil=>rfl|cons x a2=>have⟨g,r⟩:=ak a q n x (by rw[A];exact dM ..);rw[F x g]at r;cases r}|succ z M=>intro a f W u q n w aG;refine⟨λA=>?_,λi e=>?_⟩;{have F:=aB a q n A;exact ai f W u (λi e=>(w i e (F i e)).1)};have⟨B,aI⟩:=ak a q n i e;have⟨_,L,s,aK⟩:=lf.1 e;have⟨⟨⟨_,_⟩,_⟩,aO⟩:=H i B;have V:∀j∈D i,j∈b/\a.getD j af=af:=by{intro j l;have⟨aR,hx⟩:=aO j l;refine⟨aR,?_⟩;simp only[s,j6,kx,BX]at hx;have⟨c,O,hx⟩:=hx;simp only[f_,lT,gp,pS]at hx;have⟨T,hx⟩:=hx;have aS:=aK c O T;have ar:a.getD c.on af=af:=by{rcases gT c.on a.size with h|h;{rw[oV a c.on af am h];exact aS};simp[ri,Nat.not_lt.2 h]};rcases hx with rfl|⟨aT,aU⟩;{exact ar};exact(w c.on aT ar).2 j aU};refine wpOp_step s (λaV aW=>?_);refine aA i B L s f W u (λj l=>(w j (V j l).1 (V j l).2).1) aV (λv m aX Z=>?_);have aZ:L.dst=fO ops i:=by{simp[fO,s]};rw[aZ,ug f i v b E ax B];refine aW _ _ ⟨ag W m u Z,?_⟩;refine M _ _ _ (ag W m u Z) (by simp[q]) (λj l=>?_) (λd a0 av=>?_) ?_;{have:i≠j:=λh=>l (h▸B);rw[ky af this];exact n j l};{by_cases c:i=d;{subst c;refine⟨by simpa[hz]using aX,λj l=>?_⟩;by_cases C:i=j;{subst C;exact nS a i af};rw[ky af C];exact(V j l).2};rw[ky af c]at av;have⟨g,r⟩:=w d a0 av;refine⟨?_,λj l=>?_⟩;{have:hz f i v d=f d:=by{simp[hz,Ne.symm c]};rw[this];exact aw d _ W m g Z};by_cases C:i=j;{subst C;exact nS a i af};rw[ky af C];exact r j l};have t:(b.filter λd=>!(a.setIfInBounds i af).getD d af).length<(b.filter λd=>!a.getD d af).length:=by{have a1:∀o:U J,(o.filter λd=>!(a.setIfInBounds i af).getD d af).length<=(o.filter λd=>!a.getD d af).length/\(i∈o->(o.filter λd=>!(a.setIfInBounds i af).getD d af).length<(o.filter λd=>!a.getD d af).length):=by{intro o;induction o with|nil=>{exact⟨aJ _,λh=>by cases h⟩}|cons x o ae=>by_cases c:i=x;{subst c;have g:(!(a.setIfInBounds i af).getD i af)=am:=by{rw[nS a i af];rfl};have r:(!a.getD i af)=af:=by{rw[aI];rfl};rw[List.filter_cons_of_neg (by rw[g];decide),BY (by rw[r])];simp only[cN];exact⟨by omega,λ_=>by omega⟩};have g:(a.setIfInBounds i af).getD x af=a.getD x af:=ky af c;simp only[BZ,g];split;{simp only[cN];exact⟨by omega,λk=>by rcases dU.1 k with h|h;{exact absurd h c};have:=ae.2 h;omega⟩};exact⟨ae.1,λk=>by rcases dU.1 k with h|h;{exact absurd h c};exact ae.2 h⟩};exact(a1 b).2 B};omega
theorem xS (a:U J) (f:J->U J) (b:J->ad->ab->Prop) {c:bd aP} {d:bm} {W0:ab} {g:J} (k:S W0) (l:∀W e,S W->an W W e->S e) (m:∀i v W e,b i v W->an W W e->b i v e) (n:nQ ops a=af) (o:nR md ops c a f=af) (p:(a.all λi=>!c.getD i af)=af) (q:a<=g) (r:kk P ops Q S b f a d a) (s:∀(j:J->ad) (W:ab),S W->(∀i∈a,b i (j i) W)->Q .normal (cI ops j a d) W):jE P md ops Q S g c d W0:=by have h:=C9 (P:=P) (md:=md) (Q:=Q) (S:=S) a f b c d l m n o r s g c (λi=>qi d (fO ops i)) W0 k I (λ_ _=>rfl) (λi t hx=>by have:=j7.1 p i t;rw[hx]at this;cases this) (b9 (wG _ _) q);rw[uf]at h;exact h
theorem xT (w:ab):∀W a,cc w W->an W W a->cc w a:=λ_ _ h b=>cc.of (cz h.below h.below.size b)
attribute [go_sem] cI fO
theorem C_ {id:J} {Q:dT->bm->ab->Prop} {a:bm} {w:ab} {l:U bI} (n:J) (b:P.follows .mixedOrders=af) (c:Region.lexTailB .any l.toArray n=af) (h:wpStill P l.toArray w.drew (λa'=>eD P l.toArray Q (l.drop n) a' w.drew) (l.take n) a):(tv id l.toArray af).wp P Q a w:=wp_region_still_tail n b c h
end
def ip (a y:O):O:=if a<y then-1 else if y<a then 1 else 0
def lw (a b c:O):O:=if a=0 then(if b=0 then c else b)else a
theorem uh (a:O) (w:ab):aR prog 214 #[K aL a] w λe w'=>e=aN (aQ am)/\w'=w:=by go_in;go_wp2;go_ret;exact⟨I,I⟩
theorem ui (a:O) (w:ab):aR prog 130 #[K ac a] w λe w'=>e=aN (aQ am)/\w'=w:=by go_in;go_wp2;go_ret;exact⟨I,I⟩
theorem C' (a y:O) (w:ab):aR prog 200 #[K aL a,K aL y] w λe w'=>e=aN (K aa (ip a y))/\w'=w:=by unfold ip;by_cases b:a<y;{rw[av b];go_in;go_wp2_with (go_at_call 214;refine(uh _ _).mono ?_;rintro e w' ⟨rfl,rfl⟩);go_ret;exact⟨I,I⟩};rw[aB b];by_cases c:y<a;{rw[av c];go_in;go_wp2_with (go_at_call 214;refine(uh _ _).mono ?_;rintro e w' ⟨rfl,rfl⟩);go_ret;exact⟨I,I⟩};rw[aB c];go_in;go_wp2_with (go_at_call 214;refine(uh _ _).mono ?_;rintro e w' ⟨rfl,rfl⟩);go_ret;exact⟨I,I⟩
theorem uj (a y:O) (w:ab):aR prog 70 #[K ac a,K ac y] w λe w'=>e=aN (K aa (ip a y))/\w'=w:=by unfold ip;by_cases b:a<y;{rw[av b];go_in;go_wp2_with (go_at_call 130;refine(ui _ _).mono ?_;rintro e w' ⟨rfl,rfl⟩);go_ret;exact⟨I,I⟩};rw[aB b];by_cases c:y<a;{rw[av c];go_in;go_wp2_with (go_at_call 130;refine(ui _ _).mono ?_;rintro e w' ⟨rfl,rfl⟩);go_ret;exact⟨I,I⟩};rw[aB c];go_in;go_wp2_with (go_at_call 130;refine(ui _ _).mono ?_;rintro e w' ⟨rfl,rfl⟩);go_ret;exact⟨I,I⟩
theorem Da (b off:J) (d a1 c:O) (w:ab) (h0:aI w (b,off)=d) (i:aI w (b,off+1)=a1) (j:aI w (b,off+2)=c):aR prog 199 #[(b,off,3,3)] w λe w'=>e=aN (K aa (lw d a1 c))/\w'=w:=by have v:=bk h0 i j;clear h0 i j;go_in;go_wp2;go_loop[8] (λl=>∃a:J,a<=3/\l=K aa a/\(0<a->d=0)/\(1<a->a1=0)/\(2<a->c=0)) (λl=>3-(bu l).toNat);(case atStart=>exact⟨0,by omega,I,by omega,by omega,by omega⟩);obtain⟨a,_,rfl,f,k,p⟩:=hrel;have m:lw d a1 c=if a=0 then lw d a1 c else if a=1 then lw 0 a1 c else if a=2 then lw 0 0 c else 0:=by{unfold lw;(repeat' split);all_goals omega};have q:=ag m;by_cases x:a<3;{obtain⟨g,hx,r,s⟩:∃g,aI w ⟨b,off+a,N⟩=R (K aa g)/\(g=0->(0<a+1->d=0)/\(1<a+1->a1=0)/\(2<a+1->c=0))/\(g≠0->lw d a1 c=g):=by{have⟨h0,i,j⟩:=v.o;unfold lw;rcases(by omega:a=0\/a=1\/a=2)with rfl|rfl|rfl;{exact⟨d,h0,λh=>⟨λ_=>h,by omega,by omega⟩,λh=>by rw[aB h]⟩};{exact⟨a1,i,λh=>⟨λ_=>f (by omega),λ_=>h,by omega⟩,λh=>by rw[av (f (by omega)),aB h]⟩};exact⟨c,j,λh=>⟨λ_=>f (by omega),λ_=>k (by omega),λ_=>h⟩,λh=>by rw[av (f (by omega)),av (k (by omega))]⟩};have t:=aX r s;clear m q r s f k p;by_cases n:g=0;{have u:=t.a n;have o:=ag u;subst n;clear u;go_wp2;go_round;(case rel=>exact⟨a+1,by omega,by go_num,o.a,o.b,o.C⟩);simp[bu];omega};go_wp2;go_ret;exact⟨by rw[t.B n];rfl,I⟩};obtain rfl:a=3:=by{omega};clear m f k p;go_wp2;go_ret;exact⟨by rw[q.o];rfl,I⟩
def dt (k:bq):ad:=aC #[bV k.a,wV k.id,wV k.off]
def fA (a b:bq):aP:=if a.a=b.a then(if a.id=b.id then decide (a.off.toNat<b.off.toNat)else decide (a.id.toNat<b.id.toNat))else decide (a.a.toNat<b.a.toNat)
theorem Db (a y:J):ip a y=0↔a=y:=by grind [ip]
theorem uk (a y:J):ip a y<0↔a<y:=by grind [ip]
theorem Dc (a b:bq):decide (lw (ip a.a b.a) (ip a.id b.id) (ip a.off b.off)<0)=fA a b:=by unfold lw fA;simp only[Db,<-ht,<-lg];split;{split;{simp only[uk]};simp only[uk]};simp only[uk]
theorem oW (a b:bq) (w:ab):aR prog 165 #[dt a,dt b] w λe w'=>e=aN (aQ (fA a b))/\an w w w':=by have k:=ag (Dc a b);have⟨c,d,f⟩:=a;have⟨g,h,i⟩:=b;simp only[dt,bV,wV]at*;go_in;go_wp2_with fail;refine C_ 15 (by kernel_rfl) (by kernel_rfl) ?_;simp only[B0,wH,B1,wI];(repeat still_step);still_call (C' _ _ _);(repeat still_step);still_call (uj _ _ _);(repeat still_step);still_call (uj _ _ _);refine wpStill_nil ?_;have j:an w w (aO (aO w (Y #[c,d,f] 52)) (Y #[g,h,i] 52)).drew:=(((ay _ _).alloc () _).alloc (by simp) _).drew;generalize(aO (aO w (Y #[c,d,f] 52)) (Y #[g,h,i] 52)).drew=l at*;generalize ip c g=m at*;generalize ip d h=n at*;generalize ip f i=o at*;go_wp2_with fail;refine ba (Da l 0 m n o _ (by rw[tw];rfl) (by rw[tw];rfl) (by rw[tw];rfl)) ?_;rintro e w' ⟨rfl,rfl⟩;go_wp2;go_ret;exact⟨by rw[<-k.o];rfl,j.alloc j.size _⟩
section
open Go.RowKit Go.ChangeShapes Go.WideShapes Go.Deep
def fieldsOf (P:c9) (t:bg):aF (U (J×bg)):=match P.underlying t with|some (.struct b)=>R (b.toList.map λa=>(a.offset,a.type))|_=>N
section
variable {H:Type} {enc:bg×ad->H} {P:c9} {w:ab} {aw:J} {spare:J->aP} {be:aP} {fuel:J} {t:bg} {cs:U ad} {x:DataW H×U pJ}
theorem xU {l:U (J×bg)} (a:fieldsOf P t=l) (h:ku enc P w aw spare be fuel t cs=x):cs=P.cellsOf t/\∃n,∀f∈l,∃y,ku enc P w aw spare be n f.2 ((cs.drop f.1).take (P.cellsOf f.2))=R y:=by unfold fieldsOf at a;split at a;{rename_i k b;cases a;have⟨c,n,d⟩:=CO b h;refine⟨c,n,λf g=>?_⟩;obtain⟨i,j,rfl⟩:=iX.1 g;exact d i j};cases a
theorem Dd (a:P.underlying t=R .bool) (h:ku enc P w aw spare be fuel t cs=x):∃b,cs=[aQ b]:=by cases fuel with|zero=>simp[ku]at h|succ c=>unfold ku at h;rw[a]at h;split at h<;>simp_all
end
def rK:Rd ar where
 n:=1
 R _ _ _ x f:=f 0=(bV x)
 bC _ h:=h
 more _ _ h:=h
 ext a h:=(a 0 (by decide))▸h
theorem Sl.bytes {w:ab} {lo hi:J} {v:ad} {l:U ar} (h:Sl rK w lo hi v l):Bytes w lo hi v l:=by simp_all [Sl,rK,Bytes]
theorem ul {n:O} (h:(ei aL n).wf=af):∃x:ar,K aL n=bV x:=by have⟨_,_⟩:=bounds_u8 h;refine⟨ee n.toNat,?_⟩;simp[bV];omega
theorem qj {n:O} (h:(ei ac n).wf=af):∃x:cT,K ac n=wV x:=by have⟨_,_⟩:=bounds_u32 h;refine⟨fj n.toNat,?_⟩;simp[wV];omega
section
variable {P:c9} {e:bg}
theorem De (a:P.underlying e=R (.int aL)):tZ P e rK:=λh _=>by obtain⟨_,rfl,_,hw⟩:=pU a h;have⟨x,hx⟩:=ul hw;exact⟨x,by rw[hx];rfl⟩
variable {H:Type} {enc:bg×ad->H} {w:ab} {aw:J} {spare:J->aP} {be:aP} {fuel:J} {t:bg} {cs:U ad} {x:DataW H×U pJ}
theorem Df (a:P.underlying t=R (.slice e)) (b:P.underlying e=R (.int aL)) (c:P.cellsOf e=1) (h:ku enc P w aw spare be fuel t cs=x):∃v l,cs=[v]/\Bytes w 0 w v l:=by have⟨v,l,d,f⟩:=xy (r:=rK) a c (by decide) (De b) h;exact⟨v,l,d,f.bytes⟩
theorem Dg {c b a:bg} (p:fieldsOf P c=R [(0,b),(1,a),(2,a)]) (q:P.underlying b=R (.int aL)) (j:P.underlying a=R (.int ac)) (r:P.cellsOf b=1) (s:P.cellsOf a=1) (u:P.cellsOf c=3) (h:ku enc P w aw spare be fuel c cs=x):∃k:bq,cs=[bV k.a,wV k.id,wV k.off]:=by have⟨l,_,d⟩:=xU p h;have⟨_,f⟩:=d (0,b) (by simp);have⟨_,g⟩:=d (1,a) (by simp);have⟨_,i⟩:=d (2,a) (by simp);dsimp only at f g i;rw[r]at f;rw[s]at g i;rw[u]at l;have⟨_,m,_,v⟩:=pU q f;have⟨_,n,_,y⟩:=pU j g;have⟨_,o,_,z⟩:=pU j i;have⟨A,B⟩:=ul v;have⟨C,D⟩:=qj y;have⟨E,F⟩:=qj z;match cs,l with|[J,L,M],_=>simp at m n o;subst m n o;rw[B,D,F];exact⟨⟨A,C,E⟩,I⟩
end
end
theorem eE.empty (w:ab) (a:J) (e:bg) (h:a<=w):eE a e (aO w (Y #[] e)) (w,0,0,0) []:=⟨I,az ⟨w,0,#[],I,h,dw w _,aJ _,ci _,I,I⟩⟩
theorem kG (v:ad) (l:U ar) (w:ab) (b:Bytes w 0 w v l) (p:l.length<=1000000000:=by omega):aR prog 21 #[v] w λe w'=>∃u,e=aN u/\cJ w w' u l:=by obtain⟨a,c,rfl,_,_,d,f⟩:=id b;clear d;have q:=λ(w:ab) (a:aF bb) (g c h i:J)=>rj (P:=prog) w 30 5 a g c h i underlying30;rcases a with _|a;{have j:=f I;subst j;have:l=[]:=fH (by omega);subst this;go_in;go_wp2;go_ret;exact⟨_,I,cJ.bw ()⟩};have k:=b.step ((ay w w).alloc () (Y #[] 5));have m:=eE.empty w w 5 (aJ _);go_in;go_wp2_with (at_builtin;refine oO I _ _ 30 I w 5 underlying30 i5 _ [] I m _ _ _ l I k (by simp;omega) (by simp) ?_;intro _ _ n o);go_ret;exact⟨_,I,n.made (((ay w w).alloc () _).trans o)⟩
theorem xV {w:ab} {lo hi:J} {v:ad} {l:U ar} (h:Bytes w lo hi v l):(convert 30 9 v).run prog w=.ok (.string ⟨l.toArray⟩) w:=tY (P:=prog) h 30 9 5 underlying30 underlying5 underlying9
theorem oX (v u:ad) (l m:U ar) (w:ab) (lo hi lo' hi':J) (a:Bytes w lo hi v l) (b:Bytes w lo' hi' u m):aR prog 73 #[v,u] w λe w'=>e=aN (aQ (decide (l=m)))/\w'=w:=by have f:=xV a;have g:=xV b;have c:(l==m)=decide (l=m):=by{rw[Bool.eq_iff_iff];simp};have d:=ag c;clear c;obtain⟨_,_,rfl,_⟩:=a;obtain⟨_,_,rfl,_⟩:=b;go_in;go_wp2;go_ret;exact⟨by rw[<-d.o];rfl,I⟩
theorem lx (a b:bq) (w:ab):(Op.equalIn 10000 52 (dt a) (dt b)).run prog w=.ok (decide (a=b)) w:=by have p:=underlying5;have q:=isAgg5;have r:=sizeOf5;have s:=underlying23;have t:=isAgg23;have u:=sizeOf23;have c:prog.underlying 52=R (.struct (prog.fieldsOf 52)):=by{kernel_rfl};have d:prog.stoodInHeld 52=am:=by{kernel_rfl};have⟨e,f,g⟩:=a;have⟨i,j,k⟩:=b;simp only[dt,bV,wV];rw[show(10000:J)=9999+1 from rfl,run_equalIn_agg w 9999 52 _ _ c d];simp only[Program.fieldsOf,underlying52];go_simp;have hx:∀(a b:cT),((a.toNat:O)=b.toNat)=(a=b):=λa b=>propext ⟨λh=>lg.1 (by omega),λh=>by rw[h]⟩;have l:∀(a b:ar),((a.toNat:O)=b.toNat)=(a=b):=λa b=>propext ⟨λh=>ht.1 (by omega),λh=>by rw[h]⟩;simp only[hx,l];by_cases m:e=i<;>by_cases n:f=j<;>by_cases o:g=k<;>simp[m,n,o]
def du (a:au) (v:ad):ad:=aC #[bV a.P.a,wV a.P.id,wV a.P.off,a.Q,v]
def di (a:au):aP:=decide ((a.Q=0\/(8<=a.Q/\a.Q<256))/\a.val.length<=12)
def dN (b:aP):O:=if b then 0 else 8
theorem oY (i:au) (v:ad) (w:ab) (j:Bytes w 0 w v i.val):aR prog 75 #[du i v] w λe w'=>e=aN (K aa (dN (di i)))/\an w w w':=by obtain⟨k,l,rfl,_,_,_,_⟩:=j;have⟨⟨d,f,g⟩,c,b⟩:=i;simp only[du,bV,wV]at*;have h:=(ay w w).alloc () (Y #[d,f,g,c,G k b l] 95);by_cases m:c=0;{subst m;by_cases n:12<b.length;{have a:dN (di ⟨⟨d,f,g⟩,0,b⟩)=8:=by{unfold dN di;rw[aB];simp;omega};rw[a];go_in;go_wp2;go_ret;exact⟨I,h⟩};have a:dN (di ⟨⟨d,f,g⟩,0,b⟩)=0:=by{unfold dN di;rw[av];simp;omega};rw[a];go_in;go_wp2;go_ret;exact⟨I,h⟩};by_cases o:c<8;{have a:dN (di ⟨⟨d,f,g⟩,c,b⟩)=8:=by{unfold dN di;rw[aB];simp;omega};rw[a];go_in;go_wp2;go_ret;exact⟨I,h⟩};by_cases p:256<=c;{have a:dN (di ⟨⟨d,f,g⟩,c,b⟩)=8:=by{unfold dN di;rw[aB];simp;omega};rw[a];go_in;go_wp2;go_ret;exact⟨I,h⟩};by_cases n:12<b.length;{have a:dN (di ⟨⟨d,f,g⟩,c,b⟩)=8:=by{unfold dN di;rw[aB];simp;omega};rw[a];go_in;go_wp2;go_ret;exact⟨I,h⟩};have a:dN (di ⟨⟨d,f,g⟩,c,b⟩)=0:=by{unfold dN di;rw[av];simp;omega};rw[a];go_in;go_wp2;go_ret;exact⟨I,h⟩
theorem Dh (a y:au) (v u:ad) (w:ab) (n:Bytes w 0 w v a.val) (o:Bytes w 0 w u y.val):aR prog 198 #[du a v,du y u] w λe w'=>e=aN (aQ (decide (a=y)))/\an w w w':=by have f:=((ay w w).alloc () (Y #[bV a.P.a,wV a.P.id,wV a.P.off,a.Q,v] 95)).alloc (by simp) (Y #[bV y.P.a,wV y.P.id,wV y.P.off,y.Q,u] 95);have p:=o.step f;have g:=oX _ _ _ _ _ _ _ _ _ (n.step f) p;have q:=λw=>lx a.P y.P w;have z:prog.eqGuardType prog.depth 52=am:=by{kernel_rfl};obtain⟨_,_,rfl,_,_,_,_⟩:=n;obtain⟨_,_,rfl,_,_,_,_⟩:=o;have⟨b,d,h⟩:=a;have⟨l,i,j⟩:=y;simp only at*;clear p;by_cases k:b=l;{subst k;rw[decide_eq_true I]at q;by_cases m:d=i;{subst m;have c:decide ((⟨b,d,h⟩:au)=⟨b,d,j⟩)=decide (h=j):=by{simp};rw[c];have x:=ag g;clear g c;have⟨r,s,t⟩:=b;simp only[du,dt,bV,wV]at*;go_in;go_wp2_with fail;refine x.o.mono ?_;rintro e _ ⟨rfl,rfl⟩;go_wp2;go_ret;exact⟨I,f⟩};have c:decide ((⟨b,d,h⟩:au)=⟨b,i,j⟩)=am:=by{simp[m]};have A:(d==i)=am:=by{simp[m]};rw[c];clear g c;have⟨r,s,t⟩:=b;simp only[du,dt,bV,wV]at*;go_in;go_wp2;go_ret;exact⟨I,f⟩};have c:decide ((⟨b,d,h⟩:au)=⟨l,i,j⟩)=am:=by{simp[k]};rw[decide_eq_false k]at q;rw[c];clear g c k;have⟨r,s,t⟩:=b;have⟨_,_,_⟩:=l;simp only[du,dt,bV,wV]at*;go_in;go_wp2;go_ret;exact⟨I,f⟩
theorem xW (n:J) (w:ab) (m:n<=1000000:=by omega):aR prog 178 #[G N 0 0,n] w λe w'=>∃v,e=aN v/\eE w 5 w' v []/\an w w w':=by rcases jC n with rfl|_;{go_in;go_wp2;go_ret;exact⟨_,I,eE.bw _ _ _,ay _ _⟩};have⟨a,g,i,_,c⟩:=gC i5;have d:(Builtin.firstCells a.size 0 (G N 0 0)).run prog w.drew=.ok ([]:U ad).toArray w.drew:=run_firstCells_none w.drew a.size 0 0 0;have j:∀b,(Builtin.append_ #[30,3] b #[G N 0 0,n]).run prog w=.ok (w,0,n,oC w n 0 5) (aO w.drew (Y (([]:U ad).toArray++hu (K aL 0).cells n++hu (K aL 0).cells (oC w n 0 5-n)) 5)):=λb=>by{have h:=wJ w 30 3 b 5 a (K aL 0) aa aa underlying30 underlying3 g i N 0 0 [] d n (by omega) (by omega) (by omega) (by omega) (by rw[c];omega) (by rw[eb];exact wK (by omega) (by rw[c];omega));rw[eb]at h;exact h};have o:=grownCap_ge w n 0 5;have f:=grownCap_le_maxLen w n 0 5 (by unfold aG;omega);generalize oC w n 0 5=k at*;have l:=ag f;clear f d;go_in;go_wp2_with (at_builtin;refine Lib.wpList_append_run _ I _ _ _ _ I _ _ I I _ _ (j _) ?_);go_ret;refine⟨_,I,⟨by simp,az ⟨w,k,_,I,aJ _,dw w _,ci _,l,?_,by simp⟩⟩,((ay _ _).alloc () _).drew⟩;simp[hu];omega
def eQ (ps:U (ad×U ar)):U ar:=(ps.map (·.2)).flatten
theorem rL (ps:U (ad×U ar)) (k:J) (p:ad×U ar) (h:ps[k]?=p):eQ (ps.take (k+1))=eQ (ps.take k)++p.2:=by have a:k<ps:=(dm.1 h).1;have b:ps[k]=p:=(dm.1 h).2;rw[List.take_succ_eq_append_getElem a,b];simp[eQ]
theorem rM (ps:U (ad×U ar)) (k:J):(eQ (ps.take k)).length<=(eQ ps).length:=by grind [eQ,kw,bJ]
theorem rN (ps:U (ad×U ar)) (b off c:J) (w:ab) (x:b<w) (n:∀i p,ps[i]?=R p->w.cell? (b,off+i)=R p.1) (o:∀p∈ps,Bytes w 0 w p.1 p.2) (S:ps.length<=c) (T:c<=1000000) (y:(eQ ps).length<=1000000):aR prog 121 #[(b,off,ps.length,c)] w λe w'=>∃u,e=aN u/\cJ w w' u (eQ ps):=by have q:=ag n;have r:=ag o;clear n o;go_in;go_wp2;go_loop[3,11] (λz i=>∃a:J,a<=ps.length/\i=K aa a/\z=K aa (eQ (ps.take a)).length) (λ_ i=>ps.length-(bu i).toNat);(case atStart=>exact⟨0,ci _,I,I⟩);obtain⟨a,A,rfl,rfl⟩:=hrel;by_cases l:a<ps.length;{obtain⟨p,d⟩:∃p,ps[a]?=R p:=⟨ps[a],by simp[l]⟩;have hx:=q.o a p d;have g:=r.o p (eN d);have f:=cO ov (rL ps a p d);rw[bJ]at f;have j:=rM ps (a+1);have m:=ag f;rw[f]at j;clear f;generalize(eQ (ps.take a)).length=s at*;have⟨B,t⟩:=p;dsimp only at hx j g;obtain⟨C,D,rfl,_,_,_,_⟩:=g;clear d;go_wp2;go_round;(case rel=>exact⟨a+1,by omega,by go_num,by rw[m.o];go_num⟩);simp[bu];omega};obtain rfl:a=ps:=by{omega};rw[ga];have E:=ag y;go_wp2_with fail;refine ba (xW _ _) ?_;rintro e F ⟨H,rfl,h,L⟩;have v:eE w 5 F H (eQ (ps.take 0)):=h;clear h;go_wp2;go_loopw[6,27] (λM i wr=>∃a:J,a<=ps/\i=K aa a/\eE w 5 wr M (eQ (ps.take a))/\an w w wr) (λ_ i _=>ps.length-(bu i).toNat);(case atStart=>exact⟨0,ci _,I,v,L⟩);obtain⟨a,A,rfl,h,k⟩:=hrel;by_cases l:a<ps;{obtain⟨p,d⟩:∃p,ps[a]?=R p:=⟨ps[a],by simp[l]⟩;have hx:=(k.cell (p:=(b,off+a)) x).trans (q.o a p d);have g:=r.o p (eN d);have f:=rL ps a p d;have j:=rM ps (a+1);rw[f,bJ]at j;have m:=ag f;clear f d v;generalize eQ (ps.take a)=s at*;have⟨B,t⟩:=p;dsimp only at hx j g;have O:=g.below k ();obtain⟨C,D,rfl,_,_,_,_⟩:=id g;clear g;go_wp2_with (at_builtin;refine oO I _ _ 30 I w 5 underlying30 i5 _ s I h _ _ _ t I O (by have:=E.o;omega) k.size ?_;intro u _ P Q);go_roundw;(case rel=>exact⟨a+1,by omega,by go_num,by rw[m.o];exact P,k.trans Q⟩);simp[bu];omega};obtain rfl:a=ps:=by{omega};rw[ga]at h;go_wp2;go_ret;exact⟨_,I,h.made k⟩
section
attribute [local go_sem] bF results212
theorem aA {w:ab} {g:J} {a:bd ad} {b:bg} {f:J×J} (h:w.heap[g]?=R (Y a b f)) (i:J):aI w (g,i)=a[i]?:=by simp[aI,h]
theorem bz {w:ab} {g:J} {a:bd ad} {b:bg} (h:w.heap[g]?=R (Y a b (0,0))) (i:J):ed w (g,i)=am:=by simp[ed,h]
theorem jR (w:ab) (a b:Obj):(aO (aO w a) b).heap[w.heap.size]?=a/\(aO (aO w a) b).heap[w.heap.size+1]?=b:=by refine⟨?_,?_⟩;{rw[hJ (aO w a) b w (by simp),dw]};have:=dw (aO w a) b;simpa using this
theorem Bytes.hO {w:ab} {lo hi g i:J} {v u:ad} {l:U ar} (h:Bytes w lo hi v l) (a:g<lo\/hi<=g):Bytes (ah w (g,i) u) lo hi v l:=h.bC λ_ _ _ _=>ra _ _ _ _ (by intro h;injection h;omega)
theorem Di (a:au) (v:ad) (w:ab) (o:Bytes w 0 w.heap.size v a.val) (r:a.val.length<=1000000000):aR prog 212 #[du a v] w λe w'=>∃u,e=aN (du a u)/\cJ w w' u a.val:=by have g:=((ay w w).alloc (aJ _) (Y #[bV a.P.a,wV a.P.id,wV a.P.off,K aa a.Q,v] 95)).alloc (by simp) (Y #[K aL 0,K ac 0,K ac 0,K aa 0,G N 0 0] 95);have p:=o.step g;have l:=kG _ _ _ p r;have⟨c,d⟩:=ao (aO (aO w (Y #[bV a.P.a,wV a.P.id,wV a.P.off,K aa a.Q,v] 95)) (Y #[K aL 0,K ac 0,K ac 0,K aa 0,G N 0 0] 95));have f:c.heap.size=w.heap.size+2:=by{rw[<-d];simp};have h:c.heap[w.heap.size]?=R (Y #[bV a.P.a,wV a.P.id,wV a.P.off,K aa a.Q,v] 95 (0,0)):=by{rw[<-d];exact(jR _ _ _).1};have i:c.heap[w.heap.size+1]?=R (Y #[K aL 0,K ac 0,K ac 0,K aa 0,G N 0 0] 95 (0,0)):=by{rw[<-d];exact(jR _ _ _).2};rw[d]at l g;obtain⟨_,_,rfl,_,_,_,_⟩:=o;have⟨⟨_,_,_⟩,_,_⟩:=a;have s:=ag l;have q:=br h i d f;clear p l h i d f;simp only[du,bV,wV]at*;go_in;go_wp2_with fail;rw[q.c];refine s.o.mono ?_;rintro e t ⟨u,rfl,b⟩;have⟨h,i,_,f⟩:=q.o;have m:=(bv b.below w.heap.size).trans h;have n:=(bv b.below (w.heap.size+1)).trans i;have k:=cz g g.size b.below;obtain⟨_,_,rfl,_,_⟩:=b.bytes.form I;have A:=aA m;have B:=bz m;have C:=aA n;have D:=bz n;have x:=ag b;have y:=aX k f;clear m n h i b k f g;go_wp2_with fail;refine aU (by go_simp;rfl) I ?_;refine⟨_,I,?_⟩;have⟨k,f⟩:=y.o;have b:=x.o;have z:w.heap.size<c.heap.size:=by{omega};have j:w.heap.size+1<c.heap.size:=by{omega};refine⟨?_,?_,?_⟩;{refine Bytes.more (lo:=c.heap.size) (hi:=t.heap.size) ?_ (by omega) (by simp);exact(((((b.bytes.hO (aD z)).hO (aD j)).hO (aD j)).hO (aD j)).hO (aD j)).hO (aD j)};{exact(((((b.fl.set _ _).set _ _).set _ _).set _ _).set _ _).set _ _};exact aS (aS (aS (aS (aS (aS k w 4 _) (w+1) 0 _) (w+1) 1 _) (w+1) 2 _) (w+1) 3 _) (w+1) 4 _
end
theorem nU (n:J) (h:n<4294967296:=by omega):numOf (bY n)=n:=by simp_all [numOf,bY];omega
theorem rR (n:J) (h:n<65536:=by omega):numOf (cZ n)=n:=by simp_all [numOf,cZ];omega
theorem Dn (a b c:U ar):cY (a++b++c) (a:O) b=numOf b/\hN (a++b++c) (a:O) b=0:=by simp_all [cY,numOf,hN]
theorem Do (l:U ar) (k:J) (h:k+2<=l):cZ (numOf ((l.drop k).take 2))=(l.drop k).take 2:=by have a:(l.drop k)=l-k:=by{simp};match(l.drop k),a with|b::c::d,_=>have e:=b.toNat_lt;have f:=c.toNat_lt;simp only[B0,wH,numOf,cZ,List.cons.injEq,and_true];refine⟨?_,?_⟩<;>(apply ht.1;simp only[rl];omega)|[],a=>simp at a;omega|[b],a=>simp at a;omega
theorem ur (l:U ar) (k:J) (h:k+4<=l:=by omega):bY (numOf ((l.drop k).take 4))=(l.drop k).take 4:=by have a:(l.drop k)=l-k:=by{simp};match(l.drop k),a with|b::c::d::e::f,_=>have g:=b.toNat_lt;have i:=c.toNat_lt;have j:=d.toNat_lt;have m:=e.toNat_lt;simp only[B0,wH,numOf,bY,List.cons.injEq,and_true];refine⟨?_,?_,?_,?_⟩<;>(apply ht.1;simp only[rl];omega)|[],a=>simp at a;omega|[b],a=>simp at a;omega|[b,c],a=>simp at a;omega|[b,c,d],a=>simp at a;omega
theorem ly (l:U ar) (k a:J) (h:k+a<=l:=by omega):cY l k a=numOf ((l.drop k).take a)/\hN l k a=0:=by grind [cY,numOf,hN]
theorem Dp (l:U ar) (h:4<=l.length):cY l 0 4=numOf (l.take 4):=by grind [cY,numOf]
theorem us (w:ab) (b:bg) (n:O) (a:ar) (hx:K aL n=bV a):Bytes (aO w (Y #[K aL n] b)) w (w+1) (w,0,1,1) [a]:=by rw[hx];exact Bytes.new w b [a] (by simp[aG]) (0,0)
theorem Dq (w:ab) (o:Obj) (a:ab) (h:an (aO w o) (aO w o) a):a.heap[w.heap.size]?=o:=(h.block w (by simp)).trans (dw w o)
def ey (a:au):U ar:=[a.P.a]++bY a.P.id++bY a.P.off++cZ a.Q.toNat++[ee a.val]++a.val
theorem ut (a:au):(ey a).length=12+a.val:=by simp[ey,bY,cZ];omega
theorem xY (a:au) (v:ad) (w:ab) (d:Bytes w 0 w v a.val):∃W,aO w (Y #[bV a.P.a,wV a.P.id,wV a.P.off,a.Q,v] 95)=W/\an w w W/\Bytes W 0 W v a.val/\W.heap.size=w+1/\∀b,an W W b->b.heap[w.heap.size]?=R (Y #[bV a.P.a,wV a.P.id,wV a.P.off,a.Q,v] 95 (0,0)):=by have c:=(ay w w).alloc () (Y #[bV a.P.a,wV a.P.id,wV a.P.off,a.Q,v] 95);exact⟨_,I,c,d.step c,by simp,Dq _ _⟩
def rS (a:au):U ar:=if di a then ey a else[]
theorem uu {a:au} (h:di a=af):0<=a.Q/\a.Q<256/\a.val.length<=12:=by grind [di]
def okW (a:eo):aP:=decide (0<=a.at_)&&decide (a.at_<256)&&a.data.length==128
def cq (d:aY):aP:=d.q.length==256&&decide (d.u.length<=4096)&&d.q.all (λa=>a.length==128)&&d.u.all okW
theorem bW {a:Type} (l:U a) (d:a) (i:J) (h:i<l:=by omega):l[i]?=(al l i d):=by simp[h]
theorem oZ (b u:ad) (d:aY) (w:ab) (h:cF w 0 w b u d):aR prog 51 #[aC #[b,u]] w λe w'=>e=aN (K aa (if cq d then 0 else 8))/\an w w w':=by have l:=(ay w w).alloc () (Y #[b,u] 29);have C:=h.1.step l;have D:=h.2.step l;have E:=dw w (Y #[b,u] 29);obtain⟨aJ,aK,rfl,aP,aS,-,-⟩:=h.1;obtain⟨aT,aU,rfl,_,aV,-,-⟩:=h.2;unfold aG at aS aV;have⟨g,f⟩:=d;clear h;simp only at*;have⟨aW,F⟩:=ao (aO w (Y #[G aJ g aK,G aT f aU] 29));rw[F]at l C D E;have y:=ag (show cq ⟨g,f⟩=(g.length==256&&decide (f.length<=4096)&&g.all (λb=>b.length==128)&&f.all okW)from rfl);generalize cq ⟨g,f⟩=r at*;have i:=bM E C D F l;clear E C D F l;go_in;go_upto_region 1 with(fail);rw[i.d];have Z:=aA i.a 0;have aZ:=aA i.a 1;simp at Z aZ;by_cases ae:¬g.length=256;{have a0:¬(g:O)=256:=by{omega};have j:r=am:=by{rw[y.o];simp[ae]};subst j;go_wp2;go_ret;exact⟨I,i.E⟩};have H:g.length=256:=by{omega};clear ae;by_cases bd:4096<f.length;{have a0:(4096:O)<f:=by{omega};have j:r=am:=by{rw[y.o];simp[H];omega};subst j;go_wp2;go_ret;exact⟨I,i.E⟩};have a1:decide ((4096:O)<f)=am:=by{simp;omega};have L:=ag (show r=(g.all (λb=>b.length==128)&&f.all okW) by rw[y.o,H];simp[show f.length<=4096 by omega]);clear y;obtain⟨a2,a3,_,M,-,_,a4,a5,ah⟩:=i.b.at_;injection M with P _ Q;subst P Q;have ai:=ag ah;unfold aG at a5;clear ah;rw[H]at i aP a4 Z|-;go_wp2_with fail;go_loopw[20] (λs wr=>∃a:J,a<=256/\s=K aa a/\wr=aW/\∀c,c<a->(al g c []).length=128) (λs _=>256-(bu s).toNat);(case atStart=>exact⟨0,ci _,I,I,λc k=>absurd k (j' _)⟩);case round=>obtain⟨a,aj,rfl,rfl,n⟩:=hrel;by_cases z:a<256;{have⟨a6,ak,ap⟩:=ai.o a (al g a []) (bW _ _ _);obtain⟨S,T,rfl,-,U⟩:=ap.form I;unfold aG at U;have ar:wr.cell? (a2,a3+a)=R (G S (g.getD a []).length T):=by{simpa[il]using ak};have⟨v,t⟩:=ao (al g a []);rw[t]at ar;have m:=aX t n;clear ak ap t n;by_cases V:v.length=128;{rw[V]at ar;go_wp2;go_roundw;(case measure=>simp[bu];omega);exact⟨a+1,by omega,by go_num,trivial,λc k=>by by_cases e:c=a;{subst e;rw[m.a];exact V};exact m.B c (by omega)⟩};have a7:¬(v:O)=128:=by{omega};have j:r=am:=by{rw[L.o];have:g.all (λb=>b.length==128)=am:=by{rw[List.all_eq_false];refine⟨v,?_,by simp[V]⟩;rw[<-m.a];exact eN (bW _ _ _)};rw[this];rfl};subst j;go_wp2;go_ret;exact⟨I,i.E⟩};obtain rfl:a=256:=by{omega};have av:g.all (λb=>b.length==128)=af:=by{rw[j7];intro a8 hx;have⟨c,k⟩:=ox.1 hx;have A:c<g:=(dm.1 k).1;rw[bW g [] c A]at k;cases k;exact gp.2 (n c (by omega))};obtain⟨B,a9⟩:∃B,B=wr:=⟨_,I⟩;subst a9;have aw:=ag (show r=f.all okW by rw[L.o,av];rfl);clear L n av z aj ai a1;go_wp2_with fail;go_loopw[31] (λs a_=>∃a:J,a<=f/\s=K aa a/\an B B a_/\∀c,c<a->okW (al f c ⟨0,[]⟩)=af) (λs _=>f.length-(bu s).toNat);(case atStart=>exact⟨0,ci _,I,ay _ _,λc k=>absurd k (j' _)⟩);case round=>obtain⟨a,aj,rfl,l,n⟩:=hrel;by_cases z:a<f;{obtain⟨_,_,wc,M,-,_,_,a',ax⟩:=(i.c.step l).at_;injection M with P _ Q;subst P Q;unfold aG at a';have⟨aB,ba,a6,aE,aF⟩:=ax a (al f a ⟨0,[]⟩) (bW _ _ _ z);obtain⟨S,T,rfl,-,U⟩:=aF.form I;unfold aG at U;have⟨v,t⟩:=ao (al f a ⟨0,[]⟩);rw[t]at aB ba aE;have m:=bk t n l;clear ax aF t n l;have⟨o,p⟩:=v;simp[fg]at aB aE;have q:okW ⟨o,p⟩=(decide (0<=o)&&decide (o<256)&&p.length==128):=rfl;have x:=ag (cz i.E i.E.size (m.C.alloc m.C.size (Y #[o,G S p.length T] 163)));have aH:okW ⟨o,p⟩=am->r=am:=λh=>by{rw[aw.o,List.all_eq_false];refine⟨⟨o,p⟩,?_,by rw[h];decide⟩;rw[<-m.a];exact eN (bW _ _ _ z)};have W:=ag aH;clear aH;by_cases be:o<0;{have j:=W.o (by rw[q];simp;omega);subst j;clear q;go_wp2;go_ret;exact⟨I,x.out⟩};by_cases bg:256<=o;{have j:=W.o (by rw[q];simp;omega);subst j;clear q;go_wp2;go_ret;exact⟨I,x.out⟩};by_cases aI:p.length=128;{have bb:=ag (show okW ⟨o,p⟩=af by rw[q];simp[aI];omega);clear q;go_wp2;go_roundw;(case measure=>simp[bu];omega);exact⟨a+1,by omega,by go_num,m.C.alloc m.C.size _,λc k=>by by_cases e:c=a;{subst e;rw[m.a];exact bb.o};exact m.b c (by omega)⟩};have a7:¬(p:O)=128:=by{omega};have j:=W.o (by rw[q];simp[aI]);subst j;clear q;go_wp2;go_ret;exact⟨I,x.out⟩};obtain rfl:a=f:=by{omega};have j:r=af:=by{rw[aw.o,j7];intro a8 hx;have⟨c,k⟩:=ox.1 hx;have A:c<f:=(dm.1 k).1;rw[bW f ⟨0,[]⟩ c A]at k;cases k;exact n c A};subst j;have x:=cz i.E i.E.size l;clear n l;go_wp2;go_ret;exact⟨I,x⟩
def eX (d:aY) (p:O):O:=if cq d then(if p<0\/256<=p then 2 else 0)else 8
theorem uv (b u:ad) (d:aY) (p:O) (w:ab) (h:cF w 0 w b u d):aR prog 123 #[aC #[b,u],p] w λe w'=>e=aN (K aa (eX d p))/\an w w w':=by have a:=(ay w w).alloc () (Y #[b,u] 29);have j:=h.1.step a;have k:=h.2.step a;have l:=dw w (Y #[b,u] 29);have o:=λs t=>oZ b u d s t;obtain⟨v,x,rfl,_,y,-,-⟩:=h.1;obtain⟨z,A,rfl,_,B,-,-⟩:=h.2;unfold aG at y B;clear h;have⟨C,m⟩:=ao (aO w (Y #[G v d.q x,G z d.u A] 29));rw[m]at a j k l;have q:(cq d=af/\(if cq d then(0:O)else 8)=0/\eX d p=(if p<0\/256<=p then 2 else 0))\/((if cq d then(0:O)else 8)=8/\eX d p=8):=by{unfold eX;cases cq d;{exact az ⟨I,I⟩};exact aD ⟨I,I,I⟩};generalize(if cq d then(0:O)else 8)=J at*;generalize eX d p=n at*;have g:=ag q;have D:=ag o;have c:=br l (And.intro j k) m a;clear l j k m a q o;go_in;go_upto_region 1 with(fail);rw[c.c];have E:=aA c.a;go_wp2_with fail;refine ba (D.o C c.b) ?_;rintro e _ ⟨rfl,F⟩;have i:=cz c.D c.D.size F;clear E;rcases g.o with⟨-,rfl,hx⟩|⟨rfl,rfl⟩;{by_cases r:p<0;{have f:n=2:=by{rw[hx];simp[r]};subst f;clear hx g;go_wp2;go_ret;exact⟨I,i⟩};have L:decide (p<0)=am:=by{simp;omega};by_cases H:256<=p;{have f:n=2:=by{rw[hx];simp[H]};subst f;clear hx g;go_wp2;go_ret;exact⟨I,i⟩};have M:decide (256<=p)=am:=by{simp;omega};have f:n=0:=by{rw[hx];simp[r];omega};subst f;clear hx g;go_wp2;go_ret;exact⟨I,i⟩};go_wp2;go_ret;exact⟨I,i⟩
def qk:au:=⟨⟨0,0,0⟩,0,[]⟩
def kl (l:U ar):au:=⟨⟨al l 0 0,fj (cY l 1 4),fj (cY l 5 4)⟩,(cY l 9 2:J),(l.drop 12).take (al l 11 0).toNat⟩
def km (l:U ar):aP:=decide (12<=l.length/\12+(al l 11 0).toNat<=l)
def hf (l:U ar):aP:=km l&&di (kl l)
def hP (l:U ar):au:=if hf l then kl l else qk
def h3 (l:U ar):J:=if hf l then 12+(al l 11 0).toNat else 0
theorem xZ (n:J) (h:n<4294967296):K ac (n:O)=wV (fj n):=by simp[wV];omega
theorem Dr (w:ab) (a:bd ad) (b:bg):(aO w (Y a b)).heap[w.heap.size]?=R (Y a b (0,0)):=dw w _
theorem aT {w:ab} {g:J} {a:bd ad} {b:bg} {f:J×J} (h:w.heap[g]?=R (Y a b f)) (i:J) (v:ad):(ah w (g,i) v).heap[g]?=R (Y (a.setIfInBounds i v) b f):=by simp[ah,wB,h]
theorem x0 (g a o r:J) (d:U ar) (v:ad) (l:U ar) (lo hi:J) (w:ab) (u:eF w g 5 d) (i:w.heap[a]?=R (Y #[(g,o,r,r)] 243 (0,0))) (x:g≠a) (F:Bytes w lo hi v l) (y:l<=r) (ae:o+r<=d):aR prog 158 #[(a,0),v] w λe w'=>e=aN (g,o,l.length,l.length)/\eF w' g 5 (c_ d o l)/\(∃j,(l<r->j=o+l.length)/\j<=d.length/\w'.heap[a]?=R (Y #[(g,j,r-l.length,r-l.length)] 243 (0,0)))/\an (min g a) w w'/\w'.heap.size=w/\∀k,k≠g->k≠a->w'.heap[k]?=w.heap[k]?:=by have H:=aA i;go_in;go_upto_region 2 with(refine C1 I (.tmp 9) (.tmp 10) 243 30 I 5 underlying243 i5 g o r r I d u lo hi v l I F y (by omega) ?_;intro c z m);have f:=(m.2.2 a (Ne.symm x)).trans i;have ai:=aA f;have aj:=bz f;have A:=bk z m f;have ak:(l:O)<=r:=by{omega};clear z m f u i H;have B:∀b,eF (ah c (a,0) b) g 5 (c_ d o l)/\(ah c (a,0) b).heap[a]?=R (Y #[b] 243 (0,0))/\an (min g a) w (ah c (a,0) b)/\(ah c (a,0) b).heap.size=w/\∀k,k≠g->k≠a->(ah c (a,0) b).heap[k]?=w.heap[k]?:=by{intro b;have⟨L,⟨M,P,Q⟩,S⟩:=A.o;have T:an (min g a) w (ah c (a,0) b):=aS (M.mono (Nat.min_le_left _ _)) a 0 _ (Nat.min_le_right _ _);have C:∀k,k≠a->(ah c (a,0) b).heap[k]?=c.heap[k]?:=λk V=>by{simp[ah,wB,Ne.symm V]};refine⟨(C g x).trans L,by rw[aT S];rfl,T,by rw[bB];exact P,λk W Z=>(C k Z).trans (Q k W)⟩};have D:=ag B;clear B A;rcases wM y with E|E;{subst E;go_wp2;go_ret;obtain⟨n,p,q,s,t⟩:=D.o _;exact⟨I,n,⟨o,λh=>absurd h (mw _),by omega,by simpa using p⟩,q,s,t⟩};have al:¬r=l:=by{omega};go_wp2;go_ret;obtain⟨n,p,q,s,t⟩:=D.o _;exact⟨I,n,⟨o+l.length,λ_=>rfl,by omega,p⟩,q,s,t⟩
noncomputable def nV (a:ab->Prop) (w0 W:ab):ab:=by classical exact if a W then W else w0
theorem bT {a:ab->Prop} {w0:ab} (h:a w0) (W:ab):a (nV a w0 W):=by unfold nV;split;{assumption};exact h
theorem Ds {a:ab->Prop} {w0 W:ab} (h:a W):nV a w0 W=W:=by unfold nV;rw[av h]
def Kl (a:ab->Prop) (w0 w':ab):Prop:=∃b,w'=nV a w0 b
attribute [go_sem] Kl
theorem Kl.of {a:ab->Prop} {w0 w':ab} (h:a w'):Kl a w0 w':=⟨w',(Ds h).symm⟩
def hv (P:c9) (md:j5) (ops:bd bI) (Q:dT->bm->ab->Prop) (S:ab->Prop) (z:J):J->bd aP->bm->ab->Prop|0,b,a,w=>fZ md ops b=[]/\Q .normal a w|n+1,b,a,w=>(fZ md ops b=[]->Q .normal a w)/\∀i∈fZ md ops b,wpOp P ops Q i (λa' w'=>(i=z\/S w')/\hv P md ops Q S z n (b.setIfInBounds i af) a' w') a w
def rT (md:j5) (ops:bd bI) (z:J) (c:bd aP):aP:=(decide (c.size=ops.size)&&(fJ ops.size).all λd=>d==z||(fJ ops.size).any λa=>decide (d<a)&&((ops[a]?).map λe=>e.after.any λb=>oB md b&&b.on==d).getD am)&&(fJ ops.size).all λa=>!(c.getD a af)||((ops[a]?).map λe=>e.after.all λb=>!oB md b||c.getD b.on am).getD am
section
variable {P:c9} {ops:bd bI} {Q:dT->bm->ab->Prop} {md:j5} {S:ab->Prop} {z:J}
theorem uw:∀(n:J) (b:bd aP) (a:bm) (w:ab),hv P md ops Q S z n b a w->wpAny P md ops Q n b a w|0,_,_,_,h=>h|n+1,_,_,_,h=>⟨h.1,λi hi=>wpOp_mono (λa' w' c=>uw n _ a' w' c.2) (h.2 i hi)⟩
structure Down (md:j5) (ops:bd bI) (z:J) (a:bd aP):Prop where
 size:a.size=ops.size
 wait:∀j,j<ops.size->j≠z->∃k o e,j<k/\ops[k]?=R o/\e∈o.after/\oB md e=af/\e.on=j
 down:∀k o e,ops[k]?=R o->a.getD k af=af->e∈o.after->oB md e=af->a.getD e.on am=af
theorem Down.of {f:bd aP} (h:rT md ops z f=af):Down md ops z f:=by simp only[rT,f_,j7,mB,lT,gp,List.any_eq_true,gr]at h;obtain⟨⟨g,i⟩,j⟩:=h;refine⟨g,λk l m=>?_,λb _ c a n d e=>?_⟩;{rcases i k l with h|⟨b,a,o,hx⟩;{exact absurd h m};· simp only[pT a,j6,kx,BX,f_,gp]at hx;obtain⟨c,d,e,p⟩:=hx;exact⟨b,ops[b],c,o,by simp[a],d,e,p⟩};have q:=(a_.1 a).1;have:=j b q;simp only[n,wF,hL,false_or,a,j6,kx,BV]at this;have:=this c d;simpa[e]using this
theorem Down.nM {a:bd aP} (h:Down md ops z a) {i:J} (hi:i∈fZ md ops a):Down md ops z (a.setIfInBounds i af):=by refine⟨by simp[h.size],h.wait,λb k c d e f g=>?_⟩;rcases rm (i=b)with rfl|l;{have⟨_,_,j,m⟩:=lf.1 hi;rw[d]at j;cases j;exact getD_set_true (m c f g)};rw[ky af l]at e;exact getD_set_true (h.down b k c d e f g)
theorem Down.ax {a:bd aP} (h:Down md ops z a) (o:z∈fZ md ops a):∀j,a.getD j af=am->j<ops.size->j=z:=by have⟨_,_,f,p⟩:=lf.1 o;have q:∀b j,ops.size-j<=b->a.getD j af=am->j<ops.size->j=z:=by{intro b;induction b with|zero=>intro j r _ c;omega|succ b s=>intro j r t c;rcases rm (j=z)with rfl|u;{rfl};exfalso;have⟨d,v,g,_,e,i,k,l⟩:=h.wait j c u;have w:=(a_.1 e).1;have m:a.getD j am=am:=by{rw[oV a j am af (by rw[h.size];exact c)];exact t};cases n:a.getD d af with|true=>{have:=h.down d v g e n i k;rw[l,m]at this;cases this}|false=>have:=s d (by omega) n w;subst this;rw[e]at f;cases f;have:=p g i k;rw[l,m]at this;cases this};exactλj=>q _ j (aJ _)
theorem Dt {a:bd aP} {i j:J} (g:j∈fZ md ops a) (hi:i∈fZ md ops a):∀b,ops[j]?=R b->∀e∈b.after,oB md e=af->e.on≠i:=by intro b k e l m n;have⟨_,_,d,o⟩:=lf.1 g;rw[k]at d;cases d;have c:=o e l m;have f:=(lf.1 hi).1;rw[n]at c;rcases gT i a.size with h|h;{rw[oV a i af am h,c]at f;cases f};simp[ri,Nat.not_lt.2 h]at c
theorem JU {i:J} {l:bI} {v:ad} (hi:ops[i]?=l) (D:i≠z) (x:∀(j:J) (o:bI) p b,ops[j]?=o->o.op≠.select p b) (E:∀c a w,Q (.panic c) (a.put l.dst v) w->Q (.panic c) a w) (n:J):∀(d:bd aP) (a:bm) (w:ab),Down md ops z d->(∀j g,ops[j]?=R g->j≠i->d.getD j af=am->(∀e∈g.after,oB md e=af->e.on≠i)->l.apart ops g=af)->i∈fZ md ops d->YieldsIf P ops S l v a->S w->hv P md ops Q S z n (d.setIfInBounds i af) (a.put l.dst v) w->hv P md ops Q S z (n+1) d a w:=by induction n with|zero=>{intro d a w _ _ f s q r;refine⟨λh=>(by rw[h]at f;cases f),λj k=>?_⟩;rcases rm (j=i)with rfl|m;{exact s.wpOp hi q ⟨az q,r⟩};have:=ready_mono k m;rw[r.1]at this;cases this}|succ n F=>intro d a w y A f s q r;refine⟨λh=>(by rw[h]at f;cases f),λj k=>?_⟩;rcases rm (j=i)with rfl|m;{exact s.wpOp hi q ⟨az q,r⟩};obtain⟨B,g,t,-⟩:=lf.1 k;have H:j≠z:=by{rintro rfl;have⟨L,o,M,_⟩:=lf.1 f;exact D (y.ax k i L (a_.1 M).1)};refine wpOp_mono (λO T U=>?_) (wpOp_putIf t (A j g t m B (Dt k f g t)) (λp b=>x i l p b hi) (λp b=>x j g p b t) E s (r.2 j (ready_mono k m)));obtain⟨V,u|u,W⟩:=U;{exact absurd u H};refine⟨az u,F (d.setIfInBounds j af) O T (y.nM k) (λC Z ae ag ah ai=>?_) (ready_mono f (Ne.symm m)) V u ?_⟩;{refine A C Z ae ag ?_ ai;rcases rm (j=C)with rfl|aj;{exact B};rwa[ky af aj]at ah};rw[Array.setIfInBounds_comm _ _ m];exact W
theorem Du (o:wE ops=af) (p:∀c (d:aF Tmp) (v:ad) (a:bm) w,Q (.panic c) (a.put d v) w->Q (.panic c) a w) {f:J} {w:ab} (r:S w):∀(q:U J) (n:J) (b:bd aP) (a:bm),rT md ops z b=af->mR md ops q b=af->q.contains z=am->n=q+f->mA P ops S (λa'=>hv P md ops Q S z f (mS q b) a' w) (opsOf ops q) a->hv P md ops Q S z n b a w:=by suffices y:∀(q:U J) (n:J) (b:bd aP) (a:bm),Down md ops z b->mR md ops q b=af->q.contains z=am->n=q+f->mA P ops S (λa'=>hv P md ops Q S z f (mS q b) a' w) (opsOf ops q) a->hv P md ops Q S z n b a w fromλq n b a h=>y q n b a (Down.of h);intro q;induction q with|nil=>intro n b a _ _ _ k h;subst k;simpa[opsOf,mA,mS]using h|cons l q s=>intro n b a i t g k h;simp only[mR,f_]at t;simp only[List.contains_cons,Bool.or_eq_false_iff,ka,ne_eq]at g;have⟨⟨⟨A,u⟩,m⟩,x⟩:=t;cases e:ops[l]? with|none=>simp[e]at m|some B=>simp only[e,j6,kx]at m;have C:opsOf ops (l::q)=B::opsOf ops q:=by{rw[xO,e,xN]};rw[C]at h;obtain rfl:n=(q.length+f)+1:=by{simp at k;omega};have j:l∈fZ md ops b:=by{simpa using A};simp only[mA]at h;split at h;{rename_i hw;have⟨v,D,E⟩:=h;exact JU e (Ne.symm g.1) (Region.noSelect_spec o) (λc a w=>p c _ _ a w) _ b a w i (Region.free_spec e u) j (aD ⟨hw,λF H=>xM m (D F H)⟩) r (s _ _ _ (i.nM j) x g.2 I E)};rename_i hw;exact JU e (Ne.symm g.1) (Region.noSelect_spec o) (λc a w=>p c _ _ a w) _ b a w i (Region.free_spec e u) j (az ⟨by simpa using hw,I⟩) r (s _ _ _ (i.nM j) x g.2 I h)
def rU (P:c9) (md:j5) (ops:bd bI) (Q:dT->bm->ab->Prop) (S:ab->Prop) (z c:J) (d:bd aP) (i:J) (e:bm->ab->Prop):Prop:=∀b a,(i=z\/S a)->hv P md ops Q S z c (d.setIfInBounds i af) b a->e b a
theorem rU.out {b:J} {c:bd aP} {i:J} {d:bm->ab->Prop} (h:rU P md ops Q S z b c i d) {a:bm} {w:ab} (e:i=z\/S w) (f:hv P md ops Q S z b (c.setIfInBounds i af) a w):d a w:=h a w e f
def dW (P:c9) (md:j5) (ops:bd bI) (Q:dT->bm->ab->Prop) (S:ab->Prop) (z d:J) (e:bd aP) (a:bm) (w:ab) (f:U J):Prop:=∀b∈f,wpOp P ops Q b (λg c=>(b=z\/S c)/\hv P md ops Q S z d (e.setIfInBounds b af) g c) a w
theorem dW.nil {b:J} {c:bd aP} {a:bm} {w:ab}:dW P md ops Q S z b c a w []:=λ_ h=>by cases h
theorem dW.cons {c:J} {d:bd aP} {a:bm} {w:ab} {i:J} {f:U J} (o:bI) (g:ops[i]?=o) (h:∀b:bm->ab->Prop,rU P md ops Q S z c d i b->if ld o (lS ops a.tmps)=af then hX P o a w b Q else b (a.put o.dst aM) w) (j:dW P md ops Q S z c d a w f):dW P md ops Q S z c d a w (i::f):=λk e=>by rcases dU.1 e with rfl|e;{exact wpOp_step g (λb l=>h b (λa w m n=>l a w ⟨m,n⟩))};exact j k e
theorem ux {n d:J} {b:bd aP} {a:bm} {w:ab} (c:U J) (e:fZ md ops b=c) (f:c≠[]) (g:n=d+1) (h:dW P md ops Q S z d b a w c):hv P md ops Q S z n b a w:=by grind [dW,hv]
theorem bN (f:J) {w:ab} {n:J} {d:bd aP} {a:bm} (q:U J) (g:S w) (i:∀c e (v:ad) (a:bm) w,Q (.panic c) (a.put (R e) v) w=Q (.panic c) a w) (b:(wE ops&&(rT md ops z d&&(mR md ops q d&&(!q.contains z&&n==q.length+f))))=af) (h:mA P ops S (λa'=>hv P md ops Q S z f (mS q d) a' w) (opsOf ops q) a):hv P md ops Q S z n d a w:=by simp only[f_,tu,gp]at b;exact Du b.1 (λc j v a w h=>by cases j with|none=>exact h|some e=>exact i c e v a w▸h) g q n d a b.2.1 b.2.2.1 b.2.2.2.1 b.2.2.2.2 h
theorem ql {n:J} (e:J) {d:bd aP} {a:bm} {w:ab} (c:U J) (b:(fZ md ops d==c&&(!c.isEmpty&&n==e+1))=af) (h:dW P md ops Q S z e d a w c):hv P md ops Q S z n d a w:=by simp only[f_,tu,gp]at b;exact ux c b.1 (λf=>by rw[f]at b;simp at b) b.2.2 h
theorem de {e:J} {d:bd aP} {a:bm} {w:ab} (b:U J) (c:(fZ md ops d==b&&!b.isEmpty)=af) (h:dW P md ops Q S z e d a w b):hv P md ops Q S z (e+1) d a w:=by simp only[f_,tu,gp]at c;exact ux b c.1 (λf=>by rw[f]at c;simp at c) I h
theorem bn {n:J} (e i:J) {b:bd aP} {a:bm} {w:ab} {o:bI} (c:(fZ md ops b==[i]&&n==e+1)=af) (f:ops[i]?=o) (h:∀d:bm->ab->Prop,rU P md ops Q S z e b i d->if ld o (lS ops a.tmps)=af then hX P o a w d Q else d (a.put o.dst aM) w):hv P md ops Q S z n b a w:=by simp only[f_,gp]at c;exact ux [i] c.1 (by simp) c.2 (dW.cons o f h dW.nil)
theorem dj {b:bd aP} {a:bm} {w:ab} (c:fZ md ops b=[]) (h:Q .normal a w):∀n,hv P md ops Q S z n b a w|0=>⟨c,h⟩|_+1=>⟨λ_=>h,by rw[c];simp⟩
theorem dC {id:J} {a:bm} {w:ab} (z:J) (b:P.follows .mixedOrders=af) (c:S w.drew) (h:S w.drew->hv P .any ops Q S z ops.size (Array.replicate ops.size am) a w.drew):(tv id ops af).wp P Q a w:=wp_region_any b (uw _ _ _ _ (h c))
end
section
attribute [local go_sem] bF results94
structure kn (B:J) (w:ab) (a b g:J) (cur:bd ad) (d:aY):Prop where
 row:eF w g 5 (eG d).flatten
 bl:∀i,i<d.q.length->∃o,w.cell? (a,i)=R (G (R ⟨g,o,N⟩) (d.q.getD i []).length (d.q.getD i []).length)/\(0<(d.q.getD i []).length->o=dh (eG d) i)
 uy:w.heap[b]?=R (Y cur 163 (0,0))
 x2:cur.size=(d.u.length+1)*2
 wt:∀i,i<d.u.length->cur[i*2]?=R (K aa (al d.u i ⟨0,[]⟩).at_)/\∃o,cur[i*2+1]?=R (G (R ⟨g,o,N⟩) (al d.u i ⟨0,[]⟩).data.length (al d.u i ⟨0,[]⟩).data.length)/\(0<(al d.u i ⟨0,[]⟩).data.length->o=dh (eG d) (d.q.length+i))
 wf:∀i,i<d.u.length->(ei aa (al d.u i ⟨0,[]⟩).at_).wf=af
 lo:B<=g/\B<=a/\B<=b
 hi:g<w/\a<w/\b<w
 ne:g≠a/\g≠b/\a≠b
structure uz (B g a c:J) (D:U (U ar)) (k:J) (b:bg) (cur:bd ad) (w d wr:ab):Prop where
 row:eF wr g 5 (laid D k)
 box:∃o,(dh D k<D.flatten->o=dh D k)/\o+(D.flatten.length-dh D k)<=D.flatten/\wr.heap[a]?=R (Y #[(g,o,D.flatten.length-dh D k,D.flatten.length-dh D k)] 243 (0,0))
 cur:wr.heap[c]?=R (Y cur b (0,0))
 h4:gu g a c d wr
 i6:an B w wr
theorem rV {P:c9} (a e:bg) (z:ad) (d:bd ad) (size bytes:J) (g:P.underlying a=R (.slice e)) (j:(P.info? e).map (λi=>(i.zero,i.size,i.bytes))=R (R z,size,bytes)) (k:z.cells=d) (n c:J) (f:O) (l:f=c) (s:n<=c) (t:bytes*c<=281474976710656) (u:c<=100000000) (W:ab):(Instr.makeSlice a n f).run P W=.ok (W,0,n,c) (aO W (Y (mr d (c*size)) e)):=by have⟨b,m,o,p,q⟩:=gC j;have r:(b.bytes:O)*(c:O)<=281474976710656:=by{have h:((b.bytes*c:J):O)<=281474976710656:=by{rw[q];omega};rwa[Int.natCast_mul]at h};subst l;have:=run_make (P:=P) W a e b z g m o aa aa n c (by omega) (by omega) r (by omega);rw[this,p,k];simp
theorem fo (w:ab) (b c a:Obj):(aO (aO (aO w b) c) a).heap[w.heap.size]?=b/\(aO (aO (aO w b) c) a).heap[w.heap.size+1]?=c/\(aO (aO (aO w b) c) a).heap[w.heap.size+2]?=a:=by have h:=jR w b c;refine⟨?_,?_,?_⟩;{rw[hJ _ a w (by simp;omega)];exact h.1};{rw[hJ _ a (w+1) (by simp)];exact h.2};have:=dw (aO (aO w b) c) a;simpa using this
theorem o0 (w:ab) (a b c:Obj):an w w (aO (aO (aO w a) b) c).drew:=((((ay _ w).alloc () _).alloc (by simp) _).alloc (by simp;omega) _).drew
theorem uA (b u:ad) (d:aY) (w:ab) (h:cF w 0 w b u d) (el:d.q.length<=100000) (em:d.u.length<=100000) (c3:(eG d).flatten.length<=100000000):aR prog 94 #[aC #[b,u]] w λe w'=>∃m k g cur,e=aN (aC #[(m,0,d.q.length,d.q.length),(k,0,d.u.length,d.u.length+1)])/\kn w w' m k g cur d/\an w w w':=by have bY:=ag h;have aj:=((ay w w).alloc () (Y #[b,u] 29)).alloc (by simp) (Y #[G N 0 0,G N 0 0] 29);have bA:=h.step ((ay w w).alloc () (Y #[b,u] 29));have bA:=bA.step ((ay _ (w.alloc (Y #[b,u] 29))).alloc () (Y #[G N 0 0,G N 0 0] 29));have bZ:=jR w (Y #[b,u] 29) (Y #[G N 0 0,G N 0 0] 29);obtain⟨dy,dz,rfl,_,dA,-,-⟩:=h.1;obtain⟨dD,dF,rfl,_,dI,-,-⟩:=h.2;unfold aG at dA dI;clear h;obtain⟨aP,cf⟩:=ao ((w.alloc (Y #[G dy d.q.length dz,G dD d.u.length dF] 29)).alloc (Y #[G N 0 0,G N 0 0] 29));rw[cf]at aj bA bZ;go_in;go_upto_region 1 with(fail);have cg:=aA bZ.1;obtain⟨i,av⟩:=ao (eG d);have aV:=ag (show i.length=d.q.length+d.u.length by rw[<-av,oS]);have ch:=ag (show∀f,f<d.q.length->i.getD f []=d.q.getD f []fromλf ak=>by rw[<-av];exact qd d f ak);have ck:=ag (show∀f,f<d.u.length->i.getD (d.q.length+f) []=(d.u.getD f ⟨0,[]⟩).data fromλf ak=>by rw[<-av];exact qe d f ak);rw[av]at c3;have dJ:=ag av;have c4:=ag (show∀f,dh i f<=100000000 fromλf=>b9 (mM i f) c3);have E:=bk bZ bA aj;have dK:=ag cf;clear bZ bA aj av cf;go_wp2_with fail;go_loopw[3,17] (λa1 q wr=>∃f:J,f<=d.q.length/\q=K aa f/\a1=K aa (dh i f)/\wr=aP) (λ_ q _=>d.q.length-(bu q).toNat);(case atStart=>exact⟨0,ci _,I,by rw[t_];rfl,I⟩);obtain⟨f,ak,rfl,rfl,rfl⟩:=hrel;by_cases v:f<d.q.length;{obtain⟨bg,bh,b0,aW,-,F,b1,aZ,U⟩:=E.b.1.at_;injection aW with a2 _ a3;subst a2 a3;obtain⟨a1,a4,W⟩:=U f (d.q.getD f []) (bW _ _ _ v);obtain⟨Z,ae,rfl,-,a5⟩:=W.form I;unfold aG at a5 aZ;have c5:wr.cell? (bg,bh+f)=R (G Z (d.q.getD f []).length ae):=by{simpa[il]using a4};have o:dh i (f+1)=dh i f+(d.q.getD f []).length:=by{rw[nL i f (by have:=aV.o;omega),ch.o f v]};have bC:=c4.o (f+1);rw[o]at bC;have a6:=ag o;clear o a4 W U;generalize(d.q.getD f []).length=l at*;generalize dh i f=dL at*;go_wp2;go_roundw;(case rel=>exact⟨f+1,by omega,by go_num,by rw[a6.o];go_num,trivial⟩);simp[bu];omega};obtain rfl:f=d.q.length:=by{omega};clear ak v;obtain⟨b2,dM⟩:∃b2,b2=wr:=⟨_,I⟩;subst dM;go_wp2_with fail;go_loopw[3,29] (λa1 q bi=>∃f:J,f<=d.u.length/\q=K aa f/\a1=K aa (dh i (d.q.length+f))/\an b2 b2 bi) (λ_ q _=>d.u.length-(bu q).toNat);(case atStart=>exact⟨0,ci _,I,I,ay _ _⟩);obtain⟨f,ak,rfl,rfl,aj⟩:=hrel;by_cases v:f<d.u.length;{obtain⟨bg,bh,b0,aW,-,F,b1,aZ,U⟩:=(E.b.2.step aj).at_;injection aW with a2 _ a3;subst a2 a3;obtain⟨bD,cl,a1,bF,c6⟩:=U f (d.u.getD f ⟨0,[]⟩) (bW _ _ _ v);obtain⟨Z,ae,rfl,-,a5⟩:=c6.form I;unfold aG at a5 aZ;have o:dh i (d.q.length+(f+1))=dh i (d.q.length+f)+(d.u.getD f ⟨0,[]⟩).data.length:=by{rw[<-lU,nL i (d.q.length+f) (by have:=aV.o;omega),ck.o f v]};have bC:=c4.o (d.q.length+(f+1));rw[o]at bC;have a6:=aX o aj;clear o c6 U aj;obtain⟨l,H⟩:=ao (d.u.getD f ⟨0,[]⟩);rw[H]at bD cl bF bC a6;clear H;obtain⟨al,_⟩:=l;simp only at bC a6;simp[fg]at bD bF;generalize dh i (d.q.length+f)=dL at*;go_wp2;go_roundw;(case rel=>exact⟨f+1,by omega,by go_num,by rw[a6.a];go_num,a6.B.alloc a6.B.size _⟩);simp[bu];omega};obtain rfl:f=d.u.length:=by{omega};clear ak v;have c7:dh i (d.q.length+d.u.length)=i.flatten.length:=by{rw[<-aV.o,xF]};rw[c7];clear c7;have c8:=aA ((aj.block w (a_.1 E.a.1).1).trans E.a.1) 0;have c9:=aA ((aj.block w (a_.1 E.a.1).1).trans E.a.1) 1;simp at c8 c9;clear cg;generalize c_:i.flatten.length=aE at*;have b3:=ag aj;clear aj;go_upto_region 13 with(refine rz I (.tmp 39) (.tmp 39) 243 I 5 underlying243 i5 aE I I (by omega) ?_;intro a7 cm cn);have co:=dw a7 (Y #[(wr,0,aE,aE)] 243);have cq:=(ay a7 a7).alloc () (Y #[(wr,0,aE,aE)] 243);have cr:=e9 a7 (Y #[(wr,0,aE,aE)] 243);have cs:=cm.step cq;have dN:=b3.o.size;have c':=cz cn cn.size cq;have b4:=cz b3 b3.o.size c';have bG:=(b4.block w (a_.1 E.a.1).1).trans E.a.1;have a0:=(b4.block (w+1) (a_.1 E.a.2).1).trans E.a.2;have cv:=cz E.C E.C.size b4;have da:w.heap.size+1<wr:=by{have:=(a_.1 E.a.2).1;omega};have dc:wr.heap.size<a7:=cm.lt;clear c' b4 dN b3 cm cq cn c8 c9 E dK;obtain⟨bI,dd⟩:=ao (a7.alloc (Y #[(wr,0,aE,aE)] 243));rw[dd]at co cs bG a0 cv cr|-;clear dd;generalize a7.heap.size=x at*;generalize wr.heap.size=g at*;have dO:=rV (P:=prog) 26 30 (G N 0 0) #[G N 0 0] 1 24 underlying26 (by kernel_rfl) I d.q.length d.q.length d.q.length I () (by omega) (by omega);have dP:=rV (P:=prog) 27 163 (aC #[K aa 0,G N 0 0]) #[K aa 0,G N 0 0] 2 32 underlying27 (by kernel_rfl) (by rfl) d.u.length (d.u.length+1) ((d.u.length:O)+1) (by omega) (by omega) (by omega) (by omega);have cg:=aA bG;have dQ:=(a_.1 bG).1;have b5:=gI a0 cv cr da dc cs co bG;have de:=ag c_;clear a0 cv cr da dc cs co bG c_;go_cut[9] (λdR bi=>∃t m k:J,dR=bc (R ⟨t,0,N⟩)/\bi.heap[t]?=R (Y #[(m,0,d.q.length,d.q.length),(k,0,d.u.length,d.u.length+1)] 29 (0,0))/\bi.heap[m]?=R (Y (mr #[G N 0 0] d.q.length) 30 (0,0))/\bi.heap[k]?=R (Y (mr #[K aa 0,G N 0 0] ((d.u.length+1)*2)) 163 (0,0))/\(t≠m/\t≠k/\m≠k)/\(bI<=t/\bI<=m/\bI<=k)/\an bI bI bi);(case first=>go_region;all_goals go_wp2;go_meet;clear b5 bY;first|exact⟨_,_,_,rfl,(fo _ _ _ _).1,(fo _ _ _ _).2.1,(fo _ _ _ _).2.2,⟨by omega,by omega,by omega⟩,⟨by omega,by omega,by omega⟩,o0 _ _ _ _⟩|exact⟨_,_,_,rfl,(fo _ _ _ _).1,(fo _ _ _ _).2.2,(fo _ _ _ _).2.1,⟨by omega,by omega,by omega⟩,⟨by omega,by omega,by omega⟩,o0 _ _ _ _⟩|exact⟨_,_,_,rfl,(fo _ _ _ _).2.1,(fo _ _ _ _).1,(fo _ _ _ _).2.2,⟨by omega,by omega,by omega⟩,⟨by omega,by omega,by omega⟩,o0 _ _ _ _⟩|exact⟨_,_,_,rfl,(fo _ _ _ _).2.1,(fo _ _ _ _).2.2,(fo _ _ _ _).1,⟨by omega,by omega,by omega⟩,⟨by omega,by omega,by omega⟩,o0 _ _ _ _⟩|exact⟨_,_,_,rfl,(fo _ _ _ _).2.2,(fo _ _ _ _).1,(fo _ _ _ _).2.1,⟨by omega,by omega,by omega⟩,⟨by omega,by omega,by omega⟩,o0 _ _ _ _⟩|exact⟨_,_,_,rfl,(fo _ _ _ _).2.2,(fo _ _ _ _).2.1,(fo _ _ _ _).1,⟨by omega,by omega,by omega⟩,⟨by omega,by omega,by omega⟩,o0 _ _ _ _⟩);case rest=>obtain⟨t,m,k,rfl,L,a8,b6,dT,dU,r⟩:=hcut;obtain⟨dV,dY⟩:=mL r;subst dY;obtain⟨bl,bm,dZ,d0,d1,bo,a9,a'⟩:=b5.o;have df:=(a_.1 L).1;have dg:=(a_.1 a8).1;have di:=(a_.1 b6).1;have bt:(t≠g/\t≠x/\t≠m/\m≠g/\m≠x/\t≠k)/\(k≠g/\k≠x/\k≠m)/\w+1<g/\w+1<x/\w+1<m/\w+1<k/\w+1<t:=by{omega};replace bl:=(r.block (w+1) (a_.1 bl).1).trans bl;replace a':=(r.block w (a_.1 a').1).trans a';replace bo:=bo.step r;replace a9:=(r.block x (a_.1 a9).1).trans a9;replace bm:=jO bm r;have cw:=aA a';have ba:=nG L a8 b6 bt bo a9 bm bl a';clear L a8 b6 dT dU r bl bm dZ bo a9 a' dO dP cg dQ d0 d1;have p:=ag bt.1;have bv:=bk df dg di;have B:=ag bt.2.2;have aw:=ag bt.2.1;clear bt df dg di;go_wp2_with fail;go_loopw[57] (λq wr=>∃f:J,f<=d.q.length/\q=K aa f/\∃cur,uz w g x m i f 30 cur w dV wr/\cur.size=d.q.length/\∀s,s<f->∃n,cur[s]?=R (G (R ⟨g,n,N⟩) (d.q.getD s []).length (d.q.getD s []).length)/\(0<(d.q.getD s []).length->n=dh i s)) (λq _=>d.q.length-(bu q).toNat);(case atStart=>obtain⟨L,a8,b6,bt,bo,a9,bm,bl,a'⟩:=ba.o;refine⟨0,ci _,I,_,⟨by rw[C2,de.o];exact bo,⟨0,λ_=>(t_ i).symm,by omega,?_⟩,a8,gu.refl _ _ _ _,bm⟩,size_madeCells _ _,λs ap=>absurd ap (j' _)⟩;rw[t_,de.o];exact a9);case round=>obtain⟨f,ak,rfl,cur,j,z,A⟩:=hrel;by_cases v:f<d.q.length;{obtain⟨bg,bh,b0,aW,-,F,b1,aZ,U⟩:=(bY.a.below j.i6 ()).at_;injection aW with a2 _ a3;subst a2 a3;obtain⟨a1,a4,W⟩:=U f (d.q.getD f []) (bW _ _ _ v);obtain⟨Z,ae,rfl,-,a5⟩:=W.form I;unfold aG at a5 aZ;have c5:wr.cell? (bg,bh+f)=R (G Z (d.q.getD f []).length ae):=by{simpa[il]using a4};have cx:f<i.length:=by{have:=aV.o;omega};have o:dh i (f+1)=dh i f+(d.q.getD f []).length:=by{rw[nL i f cx,ch.o f v]};have b7:=mM i (f+1);have ah:=xG i f;rw[ch.o f v]at ah;obtain⟨n,C,b8,cy⟩:=j.box;have dk:f<cur.size:=by{omega};have bw:cur[f]?=cur[f]:=by{simp[dk]};have L:=(j.h4.2 t bv.a p.a p.b p.c).trans ba.a;obtain⟨M,ai⟩:∃M:ab->Prop,∀aP,M aP↔aP.heap[t]?=R (Y #[(m,0,d.q.length,d.q.length),(k,0,d.u.length,d.u.length+1)] 29 (0,0)):=⟨_,λ_=>Iff.rfl⟩;have ax:M wr.drew:=(ai _).2 L;have cC:=λbb=>aA ((ai _).1 (bT ax bb)) 0;simp at cC;have bd:=And.intro True.intro (And.intro W (And.intro (show(d.q.getD f []).length<=i.flatten.length-dh i f by omega) (And.intro o ah)));obtain⟨l,H⟩:=ao (d.q.getD f []);rw[H]at c5 bd;have cD:=ag H;have be:=ag bd;have y:=ag j;have bJ:=bk z A C;generalize cur[f]=d2 at*;clear bd H j z A a4 W U L b7 ah o dk C;go_wp2_with fail;refine dC (S:=Kl M wr.drew) 6 (by kernel_rfl) (Kl.of ax) (λar=>?_);refine bN 3 [0,1,2,3] ar (by intros;rfl) (by kernel_rfl) ?_;simp only[bK];(repeat(first|go_big_quiet_step (fail)|quiet_step (fail)));refine bH (bn 2 4 (by kernel_rfl) I λaF Q=>?_);go_simp;refine(x0 g x n (i.flatten.length-dh i (f)) (laid i (f)) _ l 0 w wr.drew y.o.row cy (rn b5.e) be.b be.c (by rw[rG];exact b8)).mono ?_;rintro e F ⟨rfl,aI,bM,aK,aO,T⟩;have r:M F:=(ai _).2 ((T t p.a p.b).trans ((ai _).1 ax));have D:=(T m p.d p.e).trans y.o.cur;have cE:=cp aI bM aK aO T D;have d3:=(aA D f).trans bw;have d4:=bz D f;clear aI bM aK aO T D bw;have ar:Kl M wr.drew _:=Kl.of r;refine Q.out (az ar) ?_;clear Q aF;refine bN 1 [5] ar (by intros;rfl) (by kernel_rfl) ?_;simp only[bK];(repeat(first|go_big_quiet_step (fail)|quiet_step (fail)));refine bH (bn 0 6 (by kernel_rfl) I λaF Q=>?_);go_simp;refine Q.out (aD I) ?_;clear Q aF;refine dj (by kernel_rfl) ?_ _;go_wp2;go_roundw;(case measure=>simp[bu];omega);obtain⟨aI,⟨cH,bO,cI,cK⟩,aK,aO,T,D⟩:=cE.o;obtain⟨-,W,dl,o,ah⟩:=be.o;have H:=cD.o;obtain⟨z,A,C⟩:=bJ.o;have cL:=aT D f (g,n,l.length,l.length);have cN:=(y.o.h4.trans (gu.xI aO T)).trans (gu.nM (a:=g) (b:=x) (c:=m) F f (g,n,l.length,l.length));have bQ:=@aH F m f (g,n,l.length,l.length);have cO:=(cz y.o.i6 y.o.i6.size (ay _ wr).drew).trans (aK.mono (by have:=B.o;omega));refine⟨f+1,by omega,by go_num,cur.setIfInBounds f (g,n,l.length,l.length),⟨?_,⟨cH,?_,?_,?_⟩,cL,cN,aS cO m f _ (by have:=B.o;show w<=m;omega)⟩,by rw[oF];exact z,?_⟩;{rw[<-ah n (by have:=aV.o;omega) C];exact(bQ g (Ne.symm p.d)).trans aI};{intro cP;rw[o]at cP|-;rw[bO (by omega),C (by omega)]};{rw[rG]at cI;rw[o];rcases gT l.length (i.flatten.length-dh i f)with h|h;{have d5:=bO h;have d6:=C (by omega);have:=mM i (f+1);omega};omega};{rw[o,<-Nat.sub_sub];exact(bQ x (Ne.symm p.e)).trans cK};intro s ap;rcases nv.1 ap with ap|rfl;{obtain⟨cQ,bR,bS⟩:=A s ap;refine⟨cQ,?_,bS⟩;rw[lV (by omega)];exact bR};rw[H];refine⟨n,by rw[oG (by omega)],λdm=>C (by omega)⟩};obtain rfl:f=d.q.length:=by{omega};clear ak v;obtain⟨b_,d7⟩:∃b_,b_=wr:=⟨_,I⟩;subst d7;have cS:=(j.h4.2 t bv.a p.a p.b p.c).trans ba.a;have b':=(j.h4.2 k bv.C aw.a aw.b aw.C).trans ba.c;have cT:=(a_.1 ba.h).1;have ca:=(j.h4.2 w (by omega) (by have:=B.o;omega) (by have:=B.o;omega) (by have:=B.o;omega)).trans ba.I;have cU:=(j.h4.2 (w+1) cT (by have:=B.o;omega) (by have:=B.o;omega) (by have:=B.o;omega)).trans ba.h;have cb:=br (cB bv.a j.h4.1) (cB bv.b j.h4.1) (cB bv.C j.h4.1) (cB cT j.h4.1);clear cw cT;have cw:=aA ca;have bU:=dG cS b' ca cU j z A;clear cS b' ca cU j z A;go_wp2_with fail;go_loopw[72] (λq wr=>∃f:J,f<=d.u.length/\q=K aa f/\∃aB,uz w g x k i (d.q.length+f) 163 aB w b_ wr/\aB.size=(d.u.length+1)*2/\∀s,s<f->aB[s*2]?=R (K aa (d.u.getD s ⟨0,[]⟩).at_)/\∃n,aB[s*2+1]?=R (G (R ⟨g,n,N⟩) (d.u.getD s ⟨0,[]⟩).data.length (d.u.getD s ⟨0,[]⟩).data.length)/\(0<(d.u.getD s ⟨0,[]⟩).data.length->n=dh i (d.q.length+s))) (λq _=>d.u.length-(bu q).toNat);(case atStart=>obtain⟨cS,b',ca,cU,j,z,A⟩:=bU.o;exact⟨0,ci _,I,_,⟨j.row,j.box,b',gu.refl _ _ _ _,j.i6⟩,size_madeCells _ _,λs ap=>absurd ap (j' _)⟩);case round=>obtain⟨f,ak,rfl,aB,j,z,A⟩:=hrel;by_cases v:f<d.u.length;{obtain⟨bg,bh,b0,aW,-,F,b1,aZ,U⟩:=(bY.B.below j.i6 ()).at_;injection aW with a2 _ a3;subst a2 a3;obtain⟨bD,cl,a1,bF,W⟩:=U f (d.u.getD f ⟨0,[]⟩) (bW _ _ _ v);obtain⟨Z,ae,rfl,-,a5⟩:=W.form I;unfold aG at a5 aZ;have cx:d.q.length+f<i.length:=by{have:=aV.o;omega};have o:dh i (d.q.length+(f+1))=dh i (d.q.length+f)+(d.u.getD f ⟨0,[]⟩).data.length:=by{rw[<-lU,nL i _ cx,ck.o f v]};have b7:=mM i (d.q.length+(f+1));have ah:=xG i (d.q.length+f);rw[ck.o f v]at ah;have L:=(j.h4.2 t cb.a p.a p.b p.F).trans bU.a;have bd:=And.intro True.intro (And.intro (W.below (ay _ _) (aJ _)) (And.intro (show(d.u.getD f ⟨0,[]⟩).data.length<=i.flatten.length-dh i (d.q.length+f) by omega) (And.intro o ah)));have dn:=And.intro z A;obtain⟨l,H⟩:=ao (d.u.getD f ⟨0,[]⟩);rw[H]at bD cl bF bd o;have cD:=ag H;obtain⟨al,l⟩:=l;simp[fg]at bD bF;clear W U ah H z A;have be:=ag bd;have bJ:=ag dn;have y:=ag j;have cW:=bk L b7 o;clear bd dn j L b7 o;go_upto_region 22 with(fail);have cY:=dw wr (Y #[al,G Z l.length ae] 163);have r:=(ay wr wr).alloc () (Y #[al,G Z l.length ae] 163);have cd:uz w g x k i (d.q.length+f) 163 aB w b_ (wr.alloc (Y #[al,G Z l.length ae] 163)):=by{obtain⟨bV,⟨n,dp,dq,ce⟩,cZ,dr,c0⟩:=y.o;exact⟨bV.step r,⟨n,dp,dq,(r.block x (a_.1 ce).1).trans ce⟩,(r.block k (a_.1 cZ).1).trans cZ,dr.trans (gu.C4 r),cz c0 c0.size r⟩};have L:=(r.block t (a_.1 cW.a).1).trans cW.a;have ds:wr≠g/\wr≠x:=by{obtain⟨bV,⟨n,dp,dq,ce⟩,cZ,dr,c0⟩:=y.o;have:=bV.lt;have:=(a_.1 ce).1;omega};have dt:=ag ds;have c1:Bytes (wr.alloc (Y #[al,G Z l.length ae] 163)) 0 w (G Z l.length ae) l:=be.b.below r y.o.i6.size;obtain⟨bx,du⟩:=ao (wr.alloc (Y #[al,G Z l.length ae] 163));rw[du]at cY cd L c1|-;have d8:=ag c1;clear r du ds c1;generalize wr.heap.size=dv at*;have y:=ag cd;obtain⟨n,C,b8,cy⟩:=cd.box;obtain⟨d2,_,bw⟩:∃u d9,aB[f*2]?=R u/\aB[f*2+1]?=R d9:=⟨_,_,pT (by have:=bJ.a;omega),pT (by have:=bJ.a;omega)⟩;obtain⟨M,ai⟩:∃M:ab->Prop,∀aP,M aP↔aP.heap[t]?=R (Y #[(m,0,d.q.length,d.q.length),(k,0,d.u.length,d.u.length+1)] 29 (0,0))/\aP.heap[dv]?=R (Y #[al,G Z l.length ae] 163 (0,0)):=⟨_,λ_=>Iff.rfl⟩;have ax:M bx.drew:=(ai _).2 ⟨L,cY⟩;have cC:=λbb=>aA ((ai _).1 (bT ax bb)).1 1;have d_:=λbb=>aA ((ai _).1 (bT ax bb)).2 0;have d':=λbb=>aA ((ai _).1 (bT ax bb)).2 1;simp at cC d_ d';have ea:=aX C b8;clear cd L cY C;refine dC (S:=Kl M bx.drew) 10 (by kernel_rfl) (Kl.of ax) (λar=>?_);refine bN 4 [0,1,2,3,4,5,6] ar (by intros;rfl) (by kernel_rfl) ?_;simp only[bK];(repeat(first|go_big_quiet_step (fail)|quiet_step (fail)));refine bH (bn 3 7 (by kernel_rfl) I λaF Q=>?_);go_simp;refine(x0 g x n (i.flatten.length-dh i (d.q.length+f)) (laid i (d.q.length+f)) _ l 0 w bx.drew y.o.row cy (rn b5.e) d8 be.c (by rw[rG];exact b8)).mono ?_;rintro e F ⟨rfl,aI,bM,aK,aO,T⟩;have r:M F:=(ai _).2 ⟨(T t p.a p.b).trans ((ai _).1 ax).1,(T dv dt.a dt.B).trans ((ai _).1 ax).2⟩;have D:=(T k aw.a aw.b).trans y.o.cur;have cE:=cp aI bM aK aO T D;have d3:=(aA D (f*2)).trans bw.1;have d4:=bz D (f*2);have en:=(aA D (f*2+1)).trans bw.2;have ep:=bz D (f*2+1);clear aI bM aK aO T D bw;have ar:Kl M bx.drew _:=Kl.of r;refine Q.out (az ar) ?_;clear Q aF;refine bn 2 8 (by kernel_rfl) I λaF Q=>?_;go_simp;have ar:Kl M bx.drew _:=Kl.of r;refine Q.out (az ar) ?_;clear Q aF;refine bN 1 [9] ar (by intros;rfl) (by kernel_rfl) ?_;simp only[bK];(repeat(first|go_big_quiet_step (fail)|quiet_step (fail)));refine bH (bn 0 10 (by kernel_rfl) I λaF Q=>?_);go_simp;refine Q.out (aD I) ?_;clear Q aF;refine dj (by kernel_rfl) ?_ _;go_wp2;go_roundw;(case measure=>simp[bu];omega);obtain⟨aI,⟨cH,bO,cI,cK⟩,aK,aO,T,D⟩:=cE.o;obtain⟨-,W,dl,o,ah⟩:=be.o;have H:=cD.o;obtain⟨z,A⟩:=bJ.o;obtain⟨C,-⟩:=ea.o;simp only at dl o ah;have eb:=aT D (f*2) al;have cL:=aT eb (f*2+1) (g,n,l.length,l.length);have cN:=((y.o.h4.trans (gu.xI aO T)).trans (gu.nM (a:=g) (b:=x) (c:=k) F (f*2) al)).trans (gu.nM (a:=g) (b:=x) (c:=k) _ (f*2+1) (g,n,l.length,l.length));have bQ:∀V,V≠k->((F.setCell (k,f*2) al).setCell (k,f*2+1) (g,n,l.length,l.length)).heap[V]?=F.heap[V]?:=λV hx=>(aH _ k _ _ V hx).trans (aH F k _ _ V hx);have cO:=(cz y.o.i6 y.o.i6.size (ay _ bx).drew).trans (aK.mono (by have:=B.o;omega));refine⟨f+1,by omega,by go_num,(aB.setIfInBounds (f*2) al).setIfInBounds (f*2+1) (g,n,l.length,l.length),⟨?_,⟨cH,?_,?_,?_⟩,cL,cN,aS (aS cO k (f*2) _ (by have:=B.o;show w<=k;omega)) k (f*2+1) _ (by have:=B.o;show w<=k;omega)⟩,by rw[oF,oF];exact z,?_⟩;{have e:=ah n (by have:=aV.o;omega) C;rw[lU]at e;rw[<-e];exact(bQ g (Ne.symm aw.a)).trans aI};{intro cP;rw[o]at cP|-;rw[bO (by omega),C (by omega)]};{rw[rG]at cI;have ec:=cW.b;rw[o]at ec|-;rcases gT l.length (i.flatten.length-dh i (d.q.length+f))with h|h;{have d5:=bO h;have d6:=C (by omega);omega};omega};{rw[o,<-Nat.sub_sub];exact(bQ x (Ne.symm aw.b)).trans cK};intro s ap;rcases nv.1 ap with ap|rfl;{obtain⟨ed,cQ,bR,bS⟩:=A s ap;refine⟨?_,cQ,?_,bS⟩;{rw[lV (by omega),lV (by omega)];exact ed};rw[lV (by omega),lV (by omega)];exact bR};rw[H];refine⟨by rw[lV (by omega),oG (by omega)],n,by rw[oG (by rw[oF];omega)],λdm=>C (by simp only at dm;omega)⟩};obtain rfl:f=d.u.length:=by{omega};clear ak v;have a0:=(j.h4.2 (w+1) cb.D (by have:=B.o;omega) (by have:=B.o;omega) (by have:=B.o;omega)).trans bU.d;have dx:=(j.h4.2 t cb.a p.a p.b p.F).trans bU.a;have ee:=aA a0 0;have bV:=aA a0 1;have er:=bz a0;have et:=aA dx;simp at ee bV;have y:=bk j z A;clear j z A a0 dx cw;go_wp2;refine aU (by go_simp;rfl) I ?_;obtain⟨j,z,A⟩:=y.o;obtain⟨-,-,-,-,eg,_,eh⟩:=bU.o;have c2:∀V,V≠w.heap.size+1->((wr.setCell ⟨w+1,0,N⟩ (m,0,d.q.length,d.q.length)).setCell ⟨w+1,1,N⟩ (k,0,d.u.length,d.u.length+1)).heap[V]?=wr.heap[V]?:=λV hx=>(aH _ _ _ _ V hx).trans (aH wr _ _ _ V hx);have ej:((wr.setCell ⟨w+1,0,N⟩ (m,0,d.q.length,d.q.length)).setCell ⟨w+1,1,N⟩ (k,0,d.u.length,d.u.length+1)).heap.size=wr:=by{rw[bB,bB]};have av:=dJ.o;have eu:=B.o;have ek:=cb.o;have a8:=(j.h4.2 m ek.2.1 p.d p.e (Ne.symm aw.C)).trans eg.cur;refine⟨m,k,g,aB,I,⟨?_,λq bX=>?_,(c2 k (by omega)).trans j.cur,z,λq bX=>?_,λq bX=>?_,⟨by omega,by omega,by omega⟩,?_,⟨Ne.symm p.d,Ne.symm aw.a,Ne.symm aw.C⟩⟩,aS (aS j.i6 (w+1) 0 _) (w+1) 1 _⟩;{rw[av,<-C3 i,aV.o];exact(c2 g (by omega)).trans j.row};{obtain⟨n,bR,bS⟩:=eh q bX;rw[av];exact⟨n,by rw[cA (c2 m (by omega)),aA a8];exact bR,bS⟩};{rw[av];exact A q bX};{have a4:=bY.B;obtain⟨bg,bh,b0,aW,-,F,b1,aZ,U⟩:=a4.at_;exact(U q _ (bW _ _ _ bX)).2.1};rw[ej];exact⟨by have:=j.h4.1;have:=j.row.lt;omega,by have:=j.h4.1;omega,by have:=j.h4.1;omega⟩
end
theorem kn.bytes {B:J} {w:ab} {b c g:J} {cur:bd ad} {d:aY} (h:kn B w b c g cur d) (m:(eG d).flatten.length<=100000000) (j o:J) (a:j<(eG d)) (e:0<(al (eG d) j []).length->o=dh (eG d) j):Bytes w g (g+1) (G (R ⟨g,o,N⟩) ((eG d).getD j []).length ((eG d).getD j []).length) ((eG d).getD j [])/\ef w (G (R ⟨g,o,N⟩) ((eG d).getD j []).length ((eG d).getD j []).length):=by refine⟨?_,λ_ _ _ _ f i _=>by cases f;exact h.row.frozen _⟩;have k:(al (eG d) j [])<=aG:=by{have:=nL (eG d) j a;have:=mM (eG d) (j+1);unfold aG;omega};refine⟨_,_,I,aJ _,k,λl=>⟨g,o,I,aJ _,JR _,λi _ hx=>?_⟩,λh=>by cases h⟩;rw[h.row.cell,e l];rw[<-(xH (eG d) j a),fi]at hx;split at hx;{rw[mE]at hx;rw[hx];rfl};cases hx
theorem kn.Dv {B:J} {w:ab} {c f g:J} {cur:bd ad} {d:aY} (h:kn B w c f g cur d) (i:(eG d).flatten.length<=100000000) (m:d.q.length<=100000):Sl rF w B w (c,0,d.q.length,d.q.length) d.q:=by refine⟨_,_,I,aJ _,by unfold aG;omega,λ_=>⟨c,0,I,h.lo.2.1,h.hi.2.1,λa _ hx=>?_⟩,λh=>by cases h⟩;have b:a<d.q:=(dm.1 hx).1;rw[bW d.q [] a b]at hx;cases hx;have⟨j,k,l⟩:=h.bl a b;have e:=h.bytes i a j (by rw[oS];omega) (by rw[qd d a b];exact l);rw[qd d a b]at e;exact⟨_,by simpa[rF]using k,e.1.more h.lo.1 h.hi.1,e.2⟩
theorem kn.Dw {B:J} {w:ab} {b c g:J} {cur:bd ad} {d:aY} (h:kn B w b c g cur d) (e:(eG d).flatten.length<=100000000) (i:J) (hi:i<d.u):cur[i*2]?=R (K aa (al d.u i ⟨0,[]⟩).at_)/\∃v,cur[i*2+1]?=R v/\Bytes w g (g+1) v (al d.u i ⟨0,[]⟩).data/\ef w v:=by have⟨f,j,k,l⟩:=h.wt i hi;have a:=h.bytes e (d.q.length+i) j (by rw[oS];omega) (by rw[qe d i hi];exact l);rw[qe d i hi]at a;exact⟨f,_,k,a⟩
theorem kn.Z {B:J} {w:ab} {e b g:J} {cur:bd ad} {d:aY} (h:kn B w e b g cur d) (f:(eG d).flatten.length<=100000000) (i:d.q.length<=100000) (o:d.u.length<=100000):e3 w B w (e,0,d.q.length,d.q.length) (b,0,d.u.length,d.u.length+1) d:=by refine⟨h.Dv f i,_,_,I,gi _,by unfold aG;omega,λ_=>⟨b,0,I,h.lo.2.2,h.hi.2.2,λa _ hx=>?_⟩,λh=>by cases h⟩;have c:a<d.u:=(dm.1 hx).1;rw[bW d.u ⟨0,[]⟩ a c]at hx;cases hx;have⟨j,k,l,m,n⟩:=h.Dw f a c;refine⟨?_,h.wf a c,k,?_,m.more h.lo.1 h.hi.1,n⟩;{show aI w (b,0+a*2+0)=_;rw[aA h.uy,eb,dq];exact j};show aI w (b,0+a*2+1)=_;rw[aA h.uy,eb];exact l
theorem i7 {d:aY} (h:cq d=af):d.q.length=256/\d.u.length<=4096/\(∀a∈d.q,a.length=128)/\(∀a∈d.u,0<=a.at_/\a.at_<256/\a.data.length=128):=by unfold cq okW at h;simp only[f_,gp,gr,j7]at h;have⟨⟨⟨c,e⟩,f⟩,b⟩:=h;exact⟨c,e,f,λa hx=>⟨(b a hx).1.1,(b a hx).1.2,(b a hx).2⟩⟩
theorem Dx (a:U (U ar)) (n:J) (h:∀b∈a,b.length<=n):a.flatten.length<=a.length*n:=by induction a with|nil=>simp|cons c e d=>have f:=h c (dM ..);have g:=d (λb hx=>h b (en _ hx));rw[i0,bJ,cN,Nat.succ_mul];omega
theorem uB {d:aY} (g:d.q.length<=300) (i:d.u.length<=5000) (b:∀a∈d.q,a.length<=128) (c:∀a∈d.u,a.data.length<=128):(eG d).flatten.length<=100000000:=by have:=Dx (eG d) 128 (λa hx=>by rcases dV.1 hx with h|h;{exact b a h};obtain⟨e,f,rfl⟩:=iX.1 h;exact c e f);rw[oS]at this;omega
abbrev mz:=@cc.drew
abbrev gF:=@cc.of
abbrev lL:=@cF.more
abbrev hY:=@dW.cons
abbrev jG:=@dW.nil
abbrev aZ:=@Kl.of
abbrev gB:=@cJ.bw
abbrev lM:=@gJ.bw
abbrev lJ:=@Sl.at_
end Go.Proofs.YtglpnkjgnlcgeaaGreat
