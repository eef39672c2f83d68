/- The walk's rules as one set, and small words for it. No condition. -/
import Derived.Test.YtndabolfhhppkaaCodes
import Derived.Attr
namespace Go.Proofs.Ytndabolfhhppkaa.Am
open Go

theorem opd_t (fr : Fr) (s : Nat) : opd fr (.t s) = fr s := rfl
theorem opd_k (fr : Fr) (x : Vl) : opd fr (.k x) = .v x := rfl
theorem put_some (fr : Fr) (d s : Nat) (v : FV) : put fr (some d) v s = if s = d then v else fr s := rfl
theorem put_none (fr : Fr) (v : FV) : put fr none v = fr := rfl
theorem upd_at {α : Type} (f : Id → α) (i j : Id) (x : α) : upd f i x j = if j = i then x else f j := rfl
theorem gon_none (fr : Fr) : gon fr none = true := rfl
def gB (v : FV) (b : Bool) : Bool :=
  match v with
  | .v (.c (.val (.bool c))) => c == b
  | _ => false
theorem gon_some (fr : Fr) (s : Nat) (b : Bool) : gon fr (some (s, b)) = gB (fr s) b := rfl
theorem gB_val (c b : Bool) : gB (.v (.c (.val (.bool c)))) b = (c == b) := rfl
theorem gB_skip (b : Bool) : gB .skip b = false := rfl
def pk (v a b : FV) (μ : Mu) : Option (FV × Mu) :=
  match v with
  | .v (.c (.val (.bool t))) => some (if t = true then a else b, μ)
  | _ => none
theorem aop_pick (c a b : Opd) (i : Id) (fr : Fr) (μ : Mu) : aop (.pick c a b) i fr μ = pk (opd fr c) (opd fr a) (opd fr b) μ := rfl
theorem pk_val (t : Bool) (a b : FV) (μ : Mu) : pk (.v (.c (.val (.bool t)))) a b μ = some (if t = true then a else b, μ) := rfl
/-! ### The walk, with what follows as a list -/
inductive Kf where
  | seq (b : SCode)
  | block (id : Nat)
  | loop (c : SCode)
  | inv (J : Nat → St → Prop) (m : Nat)
def kk (F : Nat → Option SFun) : List Kf → (Out → Prop) → Out → Prop
  | [], K => K
  | .seq b :: st, K => Then (kk F st K) fun s => Wp F (.code b s) (kk F st K)
  | .block id :: st, K => fun o => kk F st K (o.blk id)
  | .loop c :: st, K => Then (kk F st K) fun s => Wp F (.code (.loop c) s) (kk F st K)
  | .inv J m :: st, K => Then (kk F st K) fun s => ∃ m', m' < m ∧ J m' s
def Run (F : Nat → Option SFun) (c : SCode) (s : St) (st : List Kf) (K : Out → Prop) : Prop := Wp F (.code c s) (kk F st K)
def Ret (F : Nat → Option SFun) (o : Out) (st : List Kf) (K : Out → Prop) : Prop := kk F st K o
def RunO (F : Nat → Option SFun) (l : List SOp) (s : St) (st : List Kf) (K : Out → Prop) : Prop := Wp F (.ops l s) (Then (fun _ => False) fun s' => kk F st K (.norm s'.tick))
/-- What an operation gives, and what follows it. -/
def Step (F : Nat → Option SFun) (x : Option (FV × Mu)) (d : Option Nat) (r : List SOp) (fr : Fr) (st : List Kf) (K : Out → Prop) : Prop :=
  Some_ x fun q => RunO F r ⟨put fr d q.1, q.2⟩ st K
def CallS (F : Nat → Option SFun) (x : Option (Nat × List FV)) (y : Option (List FV)) (d : Option Nat) (ids : List Id) (r : List SOp) (fr : Fr) (μ : Mu) (st : List Kf) (K : Out → Prop) : Prop :=
  Some_ x fun c => Some_ y fun args => FC F c.1 (args ++ c.2) fun vs => RunO F r (landed ⟨fr, μ⟩ d ids vs) st K
def ICallS (F : Nat → Option SFun) (x : Option (Nat × List FV)) (args : List FV) (μ : Mu) (d : Option Nat) (r : List SOp) (fr : Fr) (st : List Kf) (K : Out → Prop) : Prop :=
  Some_ x fun c => IC F c.1 (args ++ c.2) μ fun vs μ' => RunO F r ⟨put fr d (fvOf vs), μ'⟩ st K
def FinR (own : Bool) (res : List SRes) (K : List Vl → Prop) : Out → Prop
  | .norm s => Some_ (retOf own res s) K
  | .ret s => Some_ (retOf own res s) K
  | _ => False
section
variable {F : Nat → Option SFun} {K : Out → Prop} {fr : Fr} {μ : Mu} {d : Option Nat} {g : Option (Nat × Bool)} {r : List SOp} {s : St} {st : List Kf}
theorem run_skip : Run F .skip s st K ↔ Ret F (.norm s) st K := wp_skip
theorem run_exit (n : Nat) : Run F (.exit n) s st K ↔ Ret F (.exit n s) st K := wp_exit
theorem run_ret : Run F .ret s st K ↔ Ret F (.ret s) st K := wp_ret
theorem run_seq (a b : SCode) : Run F (.seq a b) s st K ↔ Run F a s (.seq b :: st) K := wp_seq
theorem run_block (id : Nat) (c : SCode) : Run F (.block id c) s st K ↔ Run F c s (.block id :: st) K := wp_block
theorem run_ops (l : List SOp) : Run F (.ops l) s st K ↔ RunO F l s st K := wp_ops
theorem run_cond (c : Opd) (x y : SCode) : Run F (.cond c x y) ⟨fr, μ⟩ st K ↔ Test (opd fr c) (Run F x ⟨fr, μ⟩ st K) (Run F y ⟨fr, μ⟩ st K) := wp_cond'
theorem runO_nil : RunO F [] ⟨fr, μ⟩ st K ↔ Ret F (.norm ⟨fr, { μ with t := μ.t + 1 }⟩) st K := wp_nil
theorem ret_seq (b : SCode) : Ret F (.norm s) (.seq b :: st) K ↔ Run F b s st K := Iff.rfl
theorem ret_seq_x (b : SCode) (n : Nat) : Ret F (.exit n s) (.seq b :: st) K ↔ Ret F (.exit n s) st K := Iff.rfl
theorem ret_seq_r (b : SCode) : Ret F (.ret s) (.seq b :: st) K ↔ Ret F (.ret s) st K := Iff.rfl
theorem ret_block (id : Nat) : Ret F (.norm s) (.block id :: st) K ↔ Ret F (.norm s) st K := Iff.rfl
theorem ret_block_x (id n : Nat) : Ret F (.exit n s) (.block id :: st) K ↔ Ret F (if n = id then .norm s else .exit n s) st K := Iff.rfl
theorem ret_block_r (id : Nat) : Ret F (.ret s) (.block id :: st) K ↔ Ret F (.ret s) st K := Iff.rfl
theorem ret_loop (c : SCode) : Ret F (.norm s) (.loop c :: st) K ↔ Run F (.loop c) s st K := Iff.rfl
theorem ret_inv (J : Nat → St → Prop) (m : Nat) : Ret F (.norm s) (.inv J m :: st) K ↔ ∃ m', m' < m ∧ J m' s := Iff.rfl
theorem ret_inv_x (J : Nat → St → Prop) (m n : Nat) : Ret F (.exit n s) (.inv J m :: st) K ↔ Ret F (.exit n s) st K := Iff.rfl
theorem ret_inv_r (J : Nat → St → Prop) (m : Nat) : Ret F (.ret s) (.inv J m :: st) K ↔ Ret F (.ret s) st K := Iff.rfl
theorem ret_fin_n (own : Bool) (res : List SRes) (Q : List Vl → Prop) : Ret F (.norm s) [] (FinR own res Q) ↔ Some_ (retOf own res s) Q := Iff.rfl
theorem ret_fin_r (own : Bool) (res : List SRes) (Q : List Vl → Prop) : Ret F (.ret s) [] (FinR own res Q) ↔ Some_ (retOf own res s) Q := Iff.rfl
theorem step_some (v : FV) (μ' : Mu) : Step F (some (v, μ')) d r fr st K ↔ RunO F r ⟨put fr d v, μ'⟩ st K := some_some _
theorem step_none : Step F none d r fr st K ↔ False := some_none
theorem step_if (c : Prop) [Decidable c] (x : Option (FV × Mu)) : Step F (if c then x else none) d r fr st K ↔ c ∧ Step F x d r fr st K := some_if c x
theorem callS (g' : Nat) (caps args : List FV) (ids : List Id) : CallS F (some (g', caps)) (some args) d ids r fr μ st K ↔ FC F g' (args ++ caps) fun vs => RunO F r (landed ⟨fr, μ⟩ d ids vs) st K := by
  unfold CallS; rw [some_some, some_some]
theorem run_call (f : Opd) (us : List (Opd × List Sh)) : RunO F (⟨d, .call f us, g⟩ :: r) ⟨fr, μ⟩ st K ↔
    if gon fr g = true then CallS F (callee ⟨fr, μ⟩ f) (trav (fun a => frzA μ a.2 (opd fr a.1)) us) d (fzIds ⟨fr, μ⟩ f us) r fr μ st K else RunO F r ⟨put fr d .skip, μ⟩ st K := wp_call
theorem icallS (g' : Nat) (caps args : List FV) : ICallS F (some (g', caps)) args μ d r fr st K ↔ IC F g' (args ++ caps) μ fun vs μ' => RunO F r ⟨put fr d (fvOf vs), μ'⟩ st K := some_some _
theorem run_icall (f : Opd) (us : List Opd) : RunO F (⟨d, .icall f us, g⟩ :: r) ⟨fr, μ⟩ st K ↔
    if gon fr g = true then ICallS F (icallee ⟨fr, μ⟩ f) (us.map (opd fr)) μ.tick d r fr st K else RunO F r ⟨put fr d .skip, μ⟩ st K := wp_icall
theorem run_op {op : AOp} (h : op.isCall = false) : RunO F (⟨d, op, g⟩ :: r) ⟨fr, μ⟩ st K ↔ if gon fr g = true then Step F (aop op (μ.t, d.getD 0) fr μ) d r fr st K else RunO F r ⟨put fr d .skip, μ⟩ st K := wp_op h
theorem run_mv (x : Opd) : RunO F (⟨d, .mv x, g⟩ :: r) ⟨fr, μ⟩ st K ↔ if gon fr g = true then Step F (aop (.mv x) (μ.t, d.getD 0) fr μ) d r fr st K else RunO F r ⟨put fr d .skip, μ⟩ st K := run_op rfl
theorem run_pick (c a b : Opd) : RunO F (⟨d, .pick c a b, g⟩ :: r) ⟨fr, μ⟩ st K ↔ if gon fr g = true then Step F (aop (.pick c a b) (μ.t, d.getD 0) fr μ) d r fr st K else RunO F r ⟨put fr d .skip, μ⟩ st K := run_op rfl
theorem run_box (x : Opd) : RunO F (⟨d, .box x, g⟩ :: r) ⟨fr, μ⟩ st K ↔ if gon fr g = true then Step F (aop (.box x) (μ.t, d.getD 0) fr μ) d r fr st K else RunO F r ⟨put fr d .skip, μ⟩ st K := run_op rfl
theorem run_alloc (z : List Cell) : RunO F (⟨d, .alloc z, g⟩ :: r) ⟨fr, μ⟩ st K ↔ if gon fr g = true then Step F (aop (.alloc z) (μ.t, d.getD 0) fr μ) d r fr st K else RunO F r ⟨put fr d .skip, μ⟩ st K := run_op rfl
theorem run_load (ag : Bool) (sz : Nat) (a : Opd) : RunO F (⟨d, .load ag sz a, g⟩ :: r) ⟨fr, μ⟩ st K ↔ if gon fr g = true then Step F (aop (.load ag sz a) (μ.t, d.getD 0) fr μ) d r fr st K else RunO F r ⟨put fr d .skip, μ⟩ st K := run_op rfl
theorem run_store (sh : List Sh) (sz : Nat) (a x : Opd) : RunO F (⟨d, .store sh sz a x, g⟩ :: r) ⟨fr, μ⟩ st K ↔ if gon fr g = true then Step F (aop (.store sh sz a x) (μ.t, d.getD 0) fr μ) d r fr st K else RunO F r ⟨put fr d .skip, μ⟩ st K := run_op rfl
theorem run_bin (op : BinOp) (x y : Opd) : RunO F (⟨d, .bin op x y, g⟩ :: r) ⟨fr, μ⟩ st K ↔ if gon fr g = true then Step F (aop (.bin op x y) (μ.t, d.getD 0) fr μ) d r fr st K else RunO F r ⟨put fr d .skip, μ⟩ st K := run_op rfl
theorem run_eqa (n : Bool) (m : List Bool) (x y : Opd) : RunO F (⟨d, .eqa n m x y, g⟩ :: r) ⟨fr, μ⟩ st K ↔ if gon fr g = true then Step F (aop (.eqa n m x y) (μ.t, d.getD 0) fr μ) d r fr st K else RunO F r ⟨put fr d .skip, μ⟩ st K := run_op rfl
theorem run_eqb (n : Bool) (x y : Opd) : RunO F (⟨d, .eqb n x y, g⟩ :: r) ⟨fr, μ⟩ st K ↔ if gon fr g = true then Step F (aop (.eqb n x y) (μ.t, d.getD 0) fr μ) d r fr st K else RunO F r ⟨put fr d .skip, μ⟩ st K := run_op rfl
theorem run_un (op : UnOp) (x : Opd) : RunO F (⟨d, .un op x, g⟩ :: r) ⟨fr, μ⟩ st K ↔ if gon fr g = true then Step F (aop (.un op x) (μ.t, d.getD 0) fr μ) d r fr st K else RunO F r ⟨put fr d .skip, μ⟩ st K := run_op rfl
theorem run_conv (k : IntKind) (x : Opd) : RunO F (⟨d, .conv k x, g⟩ :: r) ⟨fr, μ⟩ st K ↔ if gon fr g = true then Step F (aop (.conv k x) (μ.t, d.getD 0) fr μ) d r fr st K else RunO F r ⟨put fr d .skip, μ⟩ st K := run_op rfl
theorem run_mkfn (h : Nat) (caps : List Opd) : RunO F (⟨d, .mkfn h caps, g⟩ :: r) ⟨fr, μ⟩ st K ↔ if gon fr g = true then Step F (aop (.mkfn h caps) (μ.t, d.getD 0) fr μ) d r fr st K else RunO F r ⟨put fr d .skip, μ⟩ st K := run_op rfl
theorem run_build (z : List Cell) (ps : List (Nat × Nat × Opd)) : RunO F (⟨d, .build z ps, g⟩ :: r) ⟨fr, μ⟩ st K ↔ if gon fr g = true then Step F (aop (.build z ps) (μ.t, d.getD 0) fr μ) d r fr st K else RunO F r ⟨put fr d .skip, μ⟩ st K := run_op rfl
theorem run_bsl (e sz : Nat) (sh : List Sh) (z : List (List Cell)) (ps : List (Nat × Opd)) : RunO F (⟨d, .bsl e sz sh z ps, g⟩ :: r) ⟨fr, μ⟩ st K ↔ if gon fr g = true then Step F (aop (.bsl e sz sh z ps) (μ.t, d.getD 0) fr μ) d r fr st K else RunO F r ⟨put fr d .skip, μ⟩ st K := run_op rfl
theorem run_mks (e sz : Nat) (z : List Cell) (n : Opd) : RunO F (⟨d, .mks e sz z n, g⟩ :: r) ⟨fr, μ⟩ st K ↔ if gon fr g = true then Step F (aop (.mks e sz z n) (μ.t, d.getD 0) fr μ) d r fr st K else RunO F r ⟨put fr d .skip, μ⟩ st K := run_op rfl
theorem run_slc (sz : Nat) (x : Opd) (lo hi mx : Option Opd) : RunO F (⟨d, .slc sz x lo hi mx, g⟩ :: r) ⟨fr, μ⟩ st K ↔ if gon fr g = true then Step F (aop (.slc sz x lo hi mx) (μ.t, d.getD 0) fr μ) d r fr st K else RunO F r ⟨put fr d .skip, μ⟩ st K := run_op rfl
theorem run_fad (x : Opd) (off : Nat) : RunO F (⟨d, .fad x off, g⟩ :: r) ⟨fr, μ⟩ st K ↔ if gon fr g = true then Step F (aop (.fad x off) (μ.t, d.getD 0) fr μ) d r fr st K else RunO F r ⟨put fr d .skip, μ⟩ st K := run_op rfl
theorem run_fld (ag : Bool) (off sz : Nat) (x : Opd) : RunO F (⟨d, .fld ag off sz x, g⟩ :: r) ⟨fr, μ⟩ st K ↔ if gon fr g = true then Step F (aop (.fld ag off sz x) (μ.t, d.getD 0) fr μ) d r fr st K else RunO F r ⟨put fr d .skip, μ⟩ st K := run_op rfl
theorem run_iad (sz : Nat) (x i : Opd) : RunO F (⟨d, .iad sz x i, g⟩ :: r) ⟨fr, μ⟩ st K ↔ if gon fr g = true then Step F (aop (.iad sz x i) (μ.t, d.getD 0) fr μ) d r fr st K else RunO F r ⟨put fr d .skip, μ⟩ st K := run_op rfl
theorem run_idx (ag : Bool) (sz n : Nat) (x i : Opd) : RunO F (⟨d, .idx ag sz n x i, g⟩ :: r) ⟨fr, μ⟩ st K ↔ if gon fr g = true then Step F (aop (.idx ag sz n x i) (μ.t, d.getD 0) fr μ) d r fr st K else RunO F r ⟨put fr d .skip, μ⟩ st K := run_op rfl
theorem run_ext (x : Opd) (k : Nat) : RunO F (⟨d, .ext x k, g⟩ :: r) ⟨fr, μ⟩ st K ↔ if gon fr g = true then Step F (aop (.ext x k) (μ.t, d.getD 0) fr μ) d r fr st K else RunO F r ⟨put fr d .skip, μ⟩ st K := run_op rfl
theorem run_len (sz : Nat) (x : Opd) : RunO F (⟨d, .len sz x, g⟩ :: r) ⟨fr, μ⟩ st K ↔ if gon fr g = true then Step F (aop (.len sz x) (μ.t, d.getD 0) fr μ) d r fr st K else RunO F r ⟨put fr d .skip, μ⟩ st K := run_op rfl
theorem run_app (e sz : Nat) (a x : Opd) : RunO F (⟨d, .app e sz a x, g⟩ :: r) ⟨fr, μ⟩ st K ↔ if gon fr g = true then Step F (aop (.app e sz a x) (μ.t, d.getD 0) fr μ) d r fr st K else RunO F r ⟨put fr d .skip, μ⟩ st K := run_op rfl
theorem run_mnx (mx : Bool) (x y : Opd) : RunO F (⟨d, .mnx mx x y, g⟩ :: r) ⟨fr, μ⟩ st K ↔ if gon fr g = true then Step F (aop (.mnx mx x y) (μ.t, d.getD 0) fr μ) d r fr st K else RunO F r ⟨put fr d .skip, μ⟩ st K := run_op rfl
theorem run_tl (sz : Nat) (x lo : Opd) : RunO F (⟨d, .tl sz x lo, g⟩ :: r) ⟨fr, μ⟩ st K ↔ if gon fr g = true then Step F (aop (.tl sz x lo) (μ.t, d.getD 0) fr μ) d r fr st K else RunO F r ⟨put fr d .skip, μ⟩ st K := run_op rfl
theorem run_clr (z : List Cell) (sz : Nat) (x : Opd) : RunO F (⟨d, .clr z sz x, g⟩ :: r) ⟨fr, μ⟩ st K ↔ if gon fr g = true then Step F (aop (.clr z sz x) (μ.t, d.getD 0) fr μ) d r fr st K else RunO F r ⟨put fr d .skip, μ⟩ st K := run_op rfl
theorem run_ldo (lq : Option Nat) (ag : Bool) (sz : Nat) (a : Opd) : RunO F (⟨d, .ldo lq ag sz a, g⟩ :: r) ⟨fr, μ⟩ st K ↔ if gon fr g = true then Step F (aop (.ldo lq ag sz a) (μ.t, d.getD 0) fr μ) d r fr st K else RunO F r ⟨put fr d .skip, μ⟩ st K := run_op rfl
theorem run_stn (so : Bool) (b sz : Nat) (x : Opd) : RunO F (⟨d, .stn so b sz x, g⟩ :: r) ⟨fr, μ⟩ st K ↔ if gon fr g = true then Step F (aop (.stn so b sz x) (μ.t, d.getD 0) fr μ) d r fr st K else RunO F r ⟨put fr d .skip, μ⟩ st K := run_op rfl
theorem run_iap (sz n : Nat) (x i : Opd) : RunO F (⟨d, .iap sz n x i, g⟩ :: r) ⟨fr, μ⟩ st K ↔ if gon fr g = true then Step F (aop (.iap sz n x i) (μ.t, d.getD 0) fr μ) d r fr st K else RunO F r ⟨put fr d .skip, μ⟩ st K := run_op rfl
theorem run_mkm : RunO F (⟨d, .mkm, g⟩ :: r) ⟨fr, μ⟩ st K ↔ if gon fr g = true then Step F (aop (.mkm) (μ.t, d.getD 0) fr μ) d r fr st K else RunO F r ⟨put fr d .skip, μ⟩ st K := run_op rfl
theorem run_mset (m k x : Opd) : RunO F (⟨d, .mset m k x, g⟩ :: r) ⟨fr, μ⟩ st K ↔ if gon fr g = true then Step F (aop (.mset m k x) (μ.t, d.getD 0) fr μ) d r fr st K else RunO F r ⟨put fr d .skip, μ⟩ st K := run_op rfl
theorem run_mget (ok : Bool) (z : Vl) (m k : Opd) : RunO F (⟨d, .mget ok z m k, g⟩ :: r) ⟨fr, μ⟩ st K ↔ if gon fr g = true then Step F (aop (.mget ok z m k) (μ.t, d.getD 0) fr μ) d r fr st K else RunO F r ⟨put fr d .skip, μ⟩ st K := run_op rfl
theorem run_mlen (m : Opd) : RunO F (⟨d, .mlen m, g⟩ :: r) ⟨fr, μ⟩ st K ↔ if gon fr g = true then Step F (aop (.mlen m) (μ.t, d.getD 0) fr μ) d r fr st K else RunO F r ⟨put fr d .skip, μ⟩ st K := run_op rfl
theorem run_mdel (m k : Opd) : RunO F (⟨d, .mdel m k, g⟩ :: r) ⟨fr, μ⟩ st K ↔ if gon fr g = true then Step F (aop (.mdel m k) (μ.t, d.getD 0) fr μ) d r fr st K else RunO F r ⟨put fr d .skip, μ⟩ st K := run_op rfl
theorem run_loop {c : SCode} (J : Nat → St → Prop) (n : Nat) (h0 : J n s) (hr : ∀ J' : Nat → St → Prop, (∀ m s, J m s → J' m s) → ∀ m s, J m s → Run F c s (.inv J' m :: st) K) : Run F (.loop c) s st K :=
  wp_loop_inv J h0 fun m s h => wp_mono (hr J (fun _ _ h => h) m s h) fun o k => by cases o <;> exact k
theorem fc_run {h : Nat} {c : SCode} {res : List SRes} {own : Bool} (hF : F h = some ⟨c, res, own⟩) (hn : c.isClone = false := by rfl) {args : List FV} {Q : List Vl → Prop} : FC F h args Q ↔ Run F c ⟨fun k => (nth args k).getD .skip, ⟨fun _ => none, fun _ => none, fun _ => false, fun _ => false, 0, fun _ => none⟩⟩ [] (FinR own res Q) := by
  rw [fc_enter hF hn]
  constructor
  · intro h; exact wp_mono h fun o k => by cases o <;> exact k
  · intro h; exact wp_mono h fun o k => by cases o <;> exact k
end
section
variable {α β : Type}
theorem map_if (c : Prop) [Decidable c] (x : Option α) (f : α → β) : (if c then x else none).map f = if c then x.map f else none := by split <;> rfl
theorem bind_if (c : Prop) [Decidable c] (x : Option α) (f : α → Option β) : (if c then x else none).bind f = if c then x.bind f else none := by split <;> rfl
theorem map_s (a : α) (f : α → β) : (some a).map f = some (f a) := rfl
theorem bind_s (a : α) (f : α → Option β) : (some a).bind f = f a := rfl
theorem map_n (f : α → β) : (none : Option α).map f = none := rfl
theorem bind_n (f : α → Option β) : (none : Option α).bind f = none := rfl
theorem if_map (c : Prop) [Decidable c] (x y : Option α) (f : α → β) : (if c then x else y).map f = if c then x.map f else y.map f := by split <;> rfl
end
theorem gB_t (c : Bool) : gB (.v (.c (.val (.bool c)))) true = c := by cases c <;> rfl
theorem gB_f (c : Bool) : gB (.v (.c (.val (.bool c)))) false = !c := by cases c <;> rfl
theorem some_congr {α : Type} {x y : Option α} {K : α → Prop} (h : x = y) : Some_ x K = Some_ y K := by rw [h]
theorem test_congr {v v' : FV} {x y : Prop} (h : v = v') : Test v x y = Test v' x y := by rw [h]
theorem trav_nil {α β : Type} (f : α → Option β) : trav f [] = some [] := rfl
def tcons {β : Type} (x : Option β) (y : Option (List β)) : Option (List β) :=
  match x, y with
  | some b, some q => some (b :: q)
  | _, _ => none
theorem trav_cons {α β : Type} (f : α → Option β) (a : α) (r : List α) : trav f (a :: r) = tcons (f a) (trav f r) := rfl
theorem tcons_some {β : Type} (b : β) (q : List β) : tcons (some b) (some q) = some (b :: q) := rfl
section
variable (fr : Fr) (μ : Mu) (d : Option Nat) (ids : List Id)
theorem landed_nil : landed ⟨fr, μ⟩ d ids [] = ⟨put fr d .skip, unsto μ ids⟩ := by cases d <;> rfl
theorem landed_val (x : Value) : landed ⟨fr, μ⟩ d ids [.c (.val x)] = ⟨put fr d (.v (.c (.val x))), unsto μ ids⟩ := by cases d <;> rfl
theorem landed_ro (z : Nat) (xs : List (List Cell)) : landed ⟨fr, μ⟩ d ids [.c (.ro z xs)] = ⟨put fr d (.v (.c (.ro z xs))), unsto μ ids⟩ := by cases d <;> rfl
theorem landed_fresh (k e z : Nat) (xs : List (List Cell)) : landed ⟨fr, μ⟩ (some k) ids [.c (.fresh e z xs)] = ⟨put fr (some k) (.v (.c (.own (μ.t, k)))), mkRow (unsto μ ids) (μ.t, k) ⟨e, z, xs⟩ true []⟩ := rfl
theorem landed_agg (cs : List Cell) : landed ⟨fr, μ⟩ d ids [.agg cs] = ⟨put fr d (.v (.agg cs)), unsto μ ids⟩ := by cases d <;> rfl
theorem landed_two (x y : Vl) (r : List Vl) : landed ⟨fr, μ⟩ d ids (x :: y :: r) = ⟨put fr d (.tup (x :: y :: r)), unsto μ ids⟩ := by
  cases d <;> cases x with
  | c x => cases x <;> rfl
  | agg cs => rfl
end
theorem unsto_mk (b : Id → Option (List Cell)) (a : Id → Option Arr) (p q : Id → Bool) (t : Nat) (n : Id → Option (List (Int × Vl))) (l : List Id) : unsto ⟨b, a, p, q, t, n⟩ l = ⟨b, a, p, fun j => q j && !l.contains j, t, n⟩ := rfl
theorem mkRow_mk (b : Id → Option (List Cell)) (a : Id → Option Arr) (p q : Id → Bool) (t : Nat) (n : Id → Option (List (Int × Vl))) (i : Id) (x : Arr) (s : Bool) (l : List Id) :
    mkRow ⟨b, a, p, q, t, n⟩ i x s l = ⟨b, upd a i (some x), fun j => if j = i then true else p j && !l.contains j, fun j => if j = i then s else q j && !l.contains j, t, n⟩ := rfl
theorem tick_mk (b : Id → Option (List Cell)) (a : Id → Option Arr) (p q : Id → Bool) (t : Nat) (n : Id → Option (List (Int × Vl))) : Mu.tick ⟨b, a, p, q, t, n⟩ = ⟨b, a, p, q, t + 1, n⟩ := rfl
theorem unsto_box (μ : Mu) (l : List Id) : (unsto μ l).box = μ.box := rfl
theorem unsto_arr (μ : Mu) (l : List Id) : (unsto μ l).arr = μ.arr := rfl
theorem unsto_app (μ : Mu) (l : List Id) : (unsto μ l).app = μ.app := rfl
theorem unsto_sto (μ : Mu) (l : List Id) : (unsto μ l).sto = fun j => μ.sto j && !l.contains j := rfl
theorem unsto_mp (μ : Mu) (l : List Id) : (unsto μ l).mp = μ.mp := rfl
theorem unsto_t (μ : Mu) (l : List Id) : (unsto μ l).t = μ.t := rfl
attribute [congr] test_congr some_congr
attribute [simp] unsto_mk mkRow_mk tick_mk unsto_box unsto_arr unsto_app unsto_sto unsto_t unsto_mp
attribute [simp] run_skip run_exit run_ret run_seq run_block run_ops run_cond runO_nil ret_seq ret_seq_x ret_seq_r ret_block ret_block_x ret_block_r ret_loop ret_inv ret_inv_x ret_inv_r ret_fin_n ret_fin_r step_some step_none step_if callS run_call icallS run_icall run_mv run_pick run_box run_alloc run_load run_store run_bin run_eqa run_eqb run_un run_conv run_mkfn run_build run_bsl run_mks run_slc run_fad run_fld run_iad run_idx run_ext run_len run_app run_mnx run_tl run_clr run_ldo run_stn run_iap run_mkm run_mset run_mget run_mlen run_mdel
  test_val some_some some_none some_map some_bind some_if map_if bind_if map_s bind_s map_n bind_n gB_t gB_f gB_skip gon_none gon_some opd_t opd_k put_some put_none upd_at aop_pick pk_val trav_nil trav_cons tcons_some landed_nil landed_val landed_ro landed_fresh landed_agg landed_two
  aop binV unV ld nth sub setAt cells retOf ret1 retO datC datL elemsC ownC frzA frz fids fidsA fzIds callee icallee iret1 bld bldS elems ownOf baseOf capOf bnd nat? fvOf eqCells mhit
end Go.Proofs.Ytndabolfhhppkaa.Am
