/- The check of one operation against one instruction, and that all but calls are carried out alike. Conditions: none. -/
import Derived.Test.YtpkimnaenlbbjaaGreatM11
namespace Go.Proofs.YtpkimnaenlbbjaaGreat.AM
open Go

/-- Is an operation the instruction? -/
def opk (P : Program) (ntm ntot : Nat) : Op → AOp → Bool
  | .move x, .mv y => opdc ntm x y
  | .assign x, .mv y => opdc ntm x y
  | .pick c a b, .pick c' a' b' => opdc ntm c c' && opdc ntm a a' && opdc ntm b b'
  | .alloc t, .alloc cs => zeroc P t cs
  | .alloc t, .allocS sl cs => zeroc P t cs && Nat.ble ntm sl && Nat.blt sl ntot
  | .box _ x, .box y _ => opdc ntm x y
  | .box _ x, .boxS sl y _ => opdc ntm x y && Nat.ble ntm sl && Nat.blt sl ntot
  | .build t ps, .build z qs => buildc P ntm t ps.toList z qs
  | .buildSlice t n ps, .bslice sz m z qs => bslicec P ntm t n ps.toList sz m z qs
  | .alloc t, .allocD sl cs => zeroc P t cs && Nat.ble ntm sl && Nat.blt sl ntot
  | .buildSlice t n ps, .bslS sl sz m z qs => bslicec P ntm t n ps.toList sz m z qs && Nat.ble ntm sl && Nat.blt sl ntot
  | .buildSlice t n ps, .bslD sl sz m z qs => bslicec P ntm t n ps.toList sz m z qs && Nat.ble ntm sl && Nat.blt sl ntot
  | .load t x, .ld n y => ldc P t n && opdc ntm x y
  | .store t x v, .st n y v' => szc P t n && opdc ntm x y && opdc ntm v v'
  | .nilCheck x, .nilck y => opdc ntm x y
  | .binOp op t x y _, .bin ek op' x' y' => decide (op = op') && binc P t ek x y && opdc ntm x x' && opdc ntm y y'
  | .unOp op _ x, .un op' y => decide (op = op') && opdc ntm x y
  | .convert sr ds x, .conv k y => (match P.underlying ds with | some (.int l) => decide (k = l) | _ => false) && (match P.underlying sr with | some (.int _) => true | _ => false) && opdc ntm x y
  | .makeFunc (.func f) fi ca, .mkfn g fi' ca' => Nat.beq f g && opdcs ntm fi.toList fi' && opdcs ntm ca.toList ca'
  | .makeSlice t l c, .mkslice sz z by_ l' c' => mkslicec P t sz z by_ && opdc ntm l l' && opdc ntm c c'
  | .slice t x lo hi mx, .slc sz y lo' hi' mx' => (elemc P t sz).isSome && opdc ntm x y && opdco ntm lo lo' && opdco ntm hi hi' && opdco ntm mx mx' && (mx.isNone || hi.isSome)
  | .fieldAddr t x f, .fad off y => (match P.underlying t with | some (.struct fs) => (match fs[f]? with | some fd => Nat.beq fd.offset off && (match P.info? fd.type with | some i => Nat.blt 0 i.size | none => false) | none => false) | _ => false) && opdc ntm x y
  | .field t x f, .fld off n y => (match P.underlying t with | some (.struct fs) => (match fs[f]? with | some fd => Nat.beq fd.offset off && ldc P fd.type n | none => false) | _ => false) && opdc ntm x y
  | .indexAddr t x i, .ias sz y j => (elemc P t sz).isSome && opdc ntm x y && opdc ntm i j
  | .indexAddr t x i, .iaa len sz y j => (match P.underlying t with | some (.array n el) => Nat.beq n len && szc P el sz | _ => false) && opdc ntm x y && opdc ntm i j
  | .index t x i, .ixs y j => (match P.underlying t with | some .string => true | _ => false) && opdc ntm x y && opdc ntm i j
  | .extract x i, .ext y j => Nat.beq i j && opdc ntm x y
  | .call { callee := .value (.func f), args, argTypes := _ }, .call g as => Nat.beq f g && opdcs ntm args.toList as
  | .call { callee := .value (.tmp t), args, argTypes := _ }, .callv y as => opdc ntm (.tmp t) y && opdcs ntm args.toList as
  | .call { callee := .builtin .len, args, argTypes }, .len y => (match argTypes.toList, args.toList with | [t], [x] => (match P.underlying t with | some (.slice _) => true | _ => false) && opdc ntm x y | _, _ => false)
  | .call { callee := .builtin .len, args, argTypes }, .lens y => (match argTypes.toList, args.toList with | [t], [x] => (match P.underlying t with | some .string => true | _ => false) && opdc ntm x y | _, _ => false)
  | .call { callee := .builtin .append, args, argTypes }, .app sz by_ y z => (match argTypes.toList, args.toList with | [t, u], [x, x2] => appc P t u sz by_ && opdc ntm x y && opdc ntm x2 z | _, _ => false)
  | .call { callee := .builtin .clear, args, argTypes }, .clear z y => (match argTypes.toList, args.toList with | [t], [x] => clearc P t z && opdc ntm x y | _, _ => false)
  | .call { callee := .builtin .max, args, argTypes := _ }, .max2 y z => (match args.toList with | [x, x2] => opdc ntm x y && opdc ntm x2 z | _ => false)
  | .call { callee := .builtin .min, args, argTypes := _ }, .min2 y z => (match args.toList with | [x, x2] => opdc ntm x y && opdc ntm x2 z | _ => false)
  | _, _ => false

section
variable {P : Program} {B0 : Nat} {O : Nat → Prop} {n0 ntm : Nat} {r : PM} {FP : Nat → List Nat} {dl : Nat → Option Nat} {e : Env} {h : Hp} {w : World} {s : KS} {a : Act}

theorem orF_run {α β : Type} {o : Option α} {k : α → Acc β} {s : KS} {out : β × KS} (hr : (Acc.orF o k).run s = some out) : ∃ v, o = some v ∧ (k v).run s = some out := by
  cases o with
  | none => cases hr
  | some v => exact ⟨v, rfl, hr⟩

theorem keep_fst_alloc (F : Fst B0 O n0 ntm r FP dl e h w s a) (o : Obj) : Keep O n0 w (w.alloc o) := keep_alloc F.st.low

theorem alloc_val {v : Value} {e' : TypeId} : (newVar e' v).run P w = .ok ⟨w.heap.size, 0, none⟩ (w.alloc (.cells v.cells e')) := by
  simp [newVar, newRow]

/-- A variable in the heap. -/
theorem Fst.newVar (F : Fst B0 O n0 ntm r FP dl e h w s a) (t : TypeId) {cs : List AV} {cs' : Array Value} {sz : Nat} (hcs : VRs r cs cs'.toList) (hall : cs.all AV.cell = true) (hsz : cs.length = sz) :
    ∃ r' FP', r.le r' ∧ VR r' (.p h.next 0 0) (.pointer (some ⟨w.heap.size, 0, none⟩)) ∧ Fst B0 O n0 ntm r' FP' dl e (h.new (.c sz [cs] false)) (w.alloc (.cells cs' t)) s a := by
  have F' := F.newRows (rows := [cs]) (sz := sz) (c := cs') t [] (by simp [hsz]) (by
    intro row hr v hv
    simp at hr; subst hr
    exact List.all_eq_true.1 hall v hv) (by simpa using hcs)
  simp only [List.length_nil] at F'
  rw [show cs' ++ [].toArray = cs' from by simp] at F'
  exact ⟨_, _, PM.le_put F.st.none_next, ⟨⟨w.heap.size, 0, sz, cs'.size + 0⟩, by unfold PM.put; rw [if_pos rfl], by simp⟩, F'⟩

theorem made_slot {dl : Nat → Option Nat} {sl b : Nat} : ∀ j, dl j = none → some sl = some j ∨ (if j = sl then some b else dl j) = none := by
  intro j hj
  by_cases h : j = sl
  · exact .inl (by rw [h])
  · exact .inr (by rw [if_neg h]; exact hj)

theorem made_slot2 {dl : Nat → Option Nat} {sl b : Nat} : ∀ j, dl j = none → some sl = some j ∨ (if j = sl then some b else if j = sl then none else dl j) = none := by
  intro j hj
  by_cases h : j = sl
  · exact .inl (by rw [h])
  · exact .inr (by rw [if_neg h, if_neg h]; exact hj)

theorem op_sim {o : Oper} {ao : AOp} {ntot : Nat} (hk : opk P ntm ntot o.op ao = true) {call : Call} {k : AV → Env → Hp → Acc R} {out : R × KS} (F : Fst B0 O n0 ntm r FP dl e h w s a)
    (hr : (aop call ao e h k).run s = some out) (hnc : (∀ f as, ao ≠ .call f as) ∧ (∀ f as, ao ≠ .callv f as)) (hD : ∀ sl, ao.slotD = some sl → dl sl = none) : Done P B0 O n0 ntm r w s a o k out dl ao.slot1 := by
  obtain ⟨dst, op, ty, pos, after, guard⟩ := o
  dsimp only at hk
  unfold opk at hk
  split at hk
  case h_1 => -- move
    exact Done.pure F rfl (opd_EV F hk) hr
  case h_2 => exact Done.pure F rfl (opd_EV F hk) hr
  case h_3 c p q c' p' q' =>
    simp only [Bool.and_eq_true] at hk
    obtain ⟨⟨h1, h2⟩, h3⟩ := hk
    have hc := opd_EV F h1
    simp only [aop] at hr
    split at hr
    · rename_i hb
      rw [hb] at hc
      simp only [EV, VR] at hc
      refine Done.pure (v' := a.eval p) F ?_ (opd_EV F h2) hr
      simp [execOp, hc, asBool]
    · rename_i hb
      rw [hb] at hc
      simp only [EV, VR] at hc
      refine Done.pure (v' := a.eval q) F ?_ (opd_EV F h3) hr
      simp [execOp, hc, asBool]
    · cases hr
  case h_4 t cs =>
    obtain ⟨i, z, hi, hz1, hz2, hz3, hz4⟩ := zeroc_run (w := w) hk
    simp only [aop] at hr
    rw [if_pos hz3] at hr
    obtain ⟨r', FP', g1, g2, g3⟩ := F.newVar t (hz2 r) hz3 rfl
    refine ⟨.value (.pointer (some ⟨w.heap.size, 0, none⟩)), _, _, e, _, _, r', FP', dl, ?_, rfl, g3, EV.of_VR g2, g1, keep_fst_alloc F _, hr, fun _ hj => .inr hj⟩
    simp [execOp, Instr.alloc, hz4, alloc_val]
  case h_5 t sl cs =>
    simp only [Bool.and_eq_true, Nat.ble_eq, Nat.blt_eq] at hk
    obtain ⟨⟨hk, h1⟩, h2⟩ := hk
    obtain ⟨i, z, hi, hz1, hz2, hz3, hz4⟩ := zeroc_run (w := w) hk
    simp only [aop] at hr
    rw [if_pos hz3] at hr
    have F' := F.boxS h1 t (hz2 r) hz3
    refine ⟨.value (.pointer (some ⟨w.heap.size, 0, none⟩)), _, .q sl 0, _, _, _, r, FP, _, ?_, rfl, F', ⟨w.heap.size, by simp, rfl⟩, r.le_refl, keep_fst_alloc F _, hr, made_slot⟩
    simp [execOp, Instr.alloc, hz4, alloc_val]
  case h_6 t x y sz =>
    simp only [aop] at hr
    split at hr
    · rename_i hc
      simp only [Bool.and_eq_true, decide_eq_true_eq] at hc
      have hev := opd_EV F hk
      have hV : VR r (y.ev e) (a.eval x) := hev.VR_of (by
        have h3 := hc.2
        revert h3
        cases y.ev e <;> intro h3 <;> first | rfl | (simp [AV.cells, AV.cell] at h3))
      obtain ⟨r', FP', g1, g2, g3⟩ := F.newVar t (hV.cells hc.2) hc.2 hc.1
      refine ⟨.value (.pointer (some ⟨w.heap.size, 0, none⟩)), _, _, e, _, _, r', FP', dl, ?_, rfl, g3, EV.of_VR g2, g1, keep_fst_alloc F _, hr, fun _ hj => .inr hj⟩
      simp [execOp, Instr.box, alloc_val]
    · cases hr
  case h_7 t x sl y sz =>
    simp only [Bool.and_eq_true, Nat.ble_eq, Nat.blt_eq] at hk
    obtain ⟨⟨hk, h1⟩, h2⟩ := hk
    simp only [aop] at hr
    split at hr
    · rename_i hc
      simp only [Bool.and_eq_true, decide_eq_true_eq] at hc
      have hev := opd_EV F hk
      have hV : VR r (y.ev e) (a.eval x) := hev.VR_of (by
        have h3 := hc.2
        revert h3
        cases y.ev e <;> intro h3 <;> first | rfl | (simp [AV.cells, AV.cell] at h3))
      have F' := F.boxS h1 t (hV.cells hc.2) hc.2
      refine ⟨.value (.pointer (some ⟨w.heap.size, 0, none⟩)), _, .q sl 0, _, _, _, r, FP, _, ?_, rfl, F', ⟨w.heap.size, by simp, rfl⟩, r.le_refl, keep_fst_alloc F _, hr, made_slot⟩
      simp [execOp, Instr.box, alloc_val]
    · cases hr
  case h_8 t ps z qs =>
    simp only [aop] at hr
    obtain ⟨cs, h1, h2⟩ := orF_run hr
    obtain ⟨out', g1, g2⟩ := run_build F hk h1
    refine Done.pure (v' := .agg out') F ?_ (EV.of_VR g2) h2
    simp only [execOp, Sem.run_bind, g1, Result.andThen_ok, Sem.run_pure]
  case h_9 t n ps sz m z qs =>
    simp only [aop] at hr
    obtain ⟨cs, h1, h2⟩ := orF_run hr
    obtain ⟨v', w', r', FP', g1, g2, g3, g4, g5⟩ := run_bslice F hk h1
    refine ⟨.value v', v', _, e, _, w', r', FP', dl, ?_, rfl, g5, EV.of_VR g2, g3, g4, h2, fun _ hj => .inr hj⟩
    simp only [execOp, Sem.run_bind, g1, Result.andThen_ok, Sem.run_pure]
  case h_10 t sl cs =>
    simp only [Bool.and_eq_true, Nat.ble_eq, Nat.blt_eq] at hk
    obtain ⟨⟨hk, h1⟩, h2⟩ := hk
    obtain ⟨i, z, hi, hz1, hz2, hz3, hz4⟩ := zeroc_run (w := w) hk
    simp only [aop] at hr
    rw [if_pos hz3] at hr
    have F' := F.boxD h1 (hD sl rfl) t (hz2 r) hz3
    refine ⟨.value (.pointer (some ⟨w.heap.size, 0, none⟩)), _, .q sl 0, _, _, _, r, FP, _, ?_, rfl, F', ⟨w.heap.size, by simp, rfl⟩, r.le_refl, keep_fst_alloc F _, hr, made_slot⟩
    simp [execOp, Instr.alloc, hz4, alloc_val]
  case h_11 t n ps sl sz m z qs =>
    simp only [Bool.and_eq_true, Nat.ble_eq, Nat.blt_eq] at hk
    obtain ⟨⟨hk, h1⟩, h2⟩ := hk
    simp only [aop] at hr
    obtain ⟨cs, g1, g2⟩ := orF_run hr
    obtain ⟨rfl, out', el, k1, k2, k3⟩ := run_bslS F hk g1
    have F' := F.boxS h1 el k2 k3
    refine ⟨.value (.slice (some ⟨w.heap.size, 0, none⟩) n n), _, .qs sz sl n, _, _, _, r, FP, _, ?_, rfl, F', ⟨w.heap.size, by simp, rfl⟩, r.le_refl, keep_fst_alloc F _, g2, made_slot⟩
    simp only [execOp, Sem.run_bind, k1, Result.andThen_ok, Sem.run_pure]
  case h_12 t n ps sl sz m z qs =>
    simp only [Bool.and_eq_true, Nat.ble_eq, Nat.blt_eq] at hk
    obtain ⟨⟨hk, h1⟩, h2⟩ := hk
    simp only [aop] at hr
    obtain ⟨cs, g1, g2⟩ := orF_run hr
    obtain ⟨rfl, out', el, k1, k2, k3⟩ := run_bslS F hk g1
    have F' := F.boxD h1 (hD sl rfl) el k2 k3
    refine ⟨.value (.slice (some ⟨w.heap.size, 0, none⟩) n n), _, .qs sz sl n, _, _, _, r, FP, _, ?_, rfl, F', ⟨w.heap.size, by simp, rfl⟩, r.le_refl, keep_fst_alloc F _, g2, made_slot⟩
    simp only [execOp, Sem.run_bind, k1, Result.andThen_ok, Sem.run_pure]
  case h_13 t x n y =>
    rw [Bool.and_eq_true] at hk
    simp only [aop] at hr
    obtain ⟨v, h1, h2⟩ := orF_run hr
    split at h2
    · cases h2
    obtain ⟨v', g1, g2, _⟩ := run_loadVar F hk.1 (opd_EV F hk.2) h1
    refine Done.pure (v' := v') F ?_ (EV.of_VR g2) h2
    simp only [execOp, Sem.run_bind, g1, Result.andThen_ok, Sem.run_pure]
  case h_14 t x v n y v' =>
    simp only [Bool.and_eq_true] at hk
    obtain ⟨⟨h1, h2⟩, h3⟩ := hk
    have hx := opd_EV F h2
    have hv := opd_EV F h3
    simp only [aop] at hr
    split at hr
    · rename_i hn
      have fin : ∀ {e' : Env} {h' : Hp}, ((∃ id idx off, y.ev e = .p id idx off ∧ stH h id idx off (v'.ev e).cells = some h' ∧ e' = e) ∨ (∃ u off, y.ev e = .q u off ∧ stE e u off (v'.ev e).cells = some e' ∧ h' = h)) → (k .und e' h').run s = some out → Done P B0 O n0 ntm r w s a ⟨dst, .store t x v, ty, pos, after, guard⟩ k out dl none := by
        intro e' h' hst hr
        obtain ⟨w', g1, g2, g3⟩ := run_storeVar F h1 hx hv hn hst
        refine ⟨.skip, undef, .und, e', h', w', r, FP, dl, ?_, rfl, g2, rfl, r.le_refl, g3, hr, fun _ hj => .inr hj⟩
        simp only [execOp, Sem.run_bind, g1, Result.andThen_ok, Sem.run_pure]
      split at hr
      · rename_i id idx off hy
        obtain ⟨h', g1, g2⟩ := orF_run hr
        exact fin (.inl ⟨id, idx, off, hy, g1, rfl⟩) g2
      · rename_i u off hy
        obtain ⟨e', g1, g2⟩ := orF_run hr
        exact fin (.inr ⟨u, off, hy, g1, rfl⟩) g2
      · cases hr
    · cases hr
  case h_15 x y =>
    have hx := opd_EV F hk
    simp only [aop] at hr
    split at hr
    · rename_i id idx off hy
      rw [hy] at hx
      refine Done.pure (v' := a.eval x) F ?_ hx hr
      obtain ⟨pl, g1, g2⟩ := hx
      simp [execOp, g2]
    · rename_i u off hy
      rw [hy] at hx
      refine Done.pure (v' := a.eval x) F ?_ hx hr
      obtain ⟨b, g1, g2⟩ := hx
      simp [execOp, g2]
    · rename_i f fi ca hy
      rw [hy] at hx
      refine Done.pure (v' := a.eval x) F ?_ hx hr
      obtain ⟨fi', ca', g1, g2, g3⟩ := hx
      simp [execOp, g1]
    · cases hr
  case h_16 op t x y tt ek op' x' y' =>
    simp only [Bool.and_eq_true, decide_eq_true_eq] at hk
    obtain ⟨⟨⟨rfl, h2⟩, h3⟩, h4⟩ := hk
    simp only [aop] at hr
    obtain ⟨v, g1, g2⟩ := orF_run hr
    obtain ⟨v', k1, k2⟩ := run_bin (P := P) (w := w) h2 g1 (opd_EV F h3) (opd_EV F h4)
    refine Done.pure (v' := v') F ?_ (EV.of_VR k2) g2
    simp only [execOp, Sem.run_bind] at k1 ⊢
    rw [k1]; rfl
  case h_17 op t x op' y =>
    simp only [Bool.and_eq_true, decide_eq_true_eq] at hk
    obtain ⟨rfl, h2⟩ := hk
    simp only [aop] at hr
    obtain ⟨v, g1, g2⟩ := orF_run hr
    obtain ⟨v', k1, k2⟩ := run_un (P := P) (w := w) g1 (opd_EV F h2)
    refine Done.pure (v' := v') F ?_ (EV.of_VR k2) g2
    simp only [execOp, Sem.run_bind, k1, Result.andThen_ok, Sem.run_pure]
  case h_18 sr ds x kd y =>
    simp only [Bool.and_eq_true] at hk
    obtain ⟨⟨h1, h2⟩, h3⟩ := hk
    split at h1
    · rename_i l hu
      rw [decide_eq_true_eq] at h1
      subst h1
      split at h2
      · rename_i l2 hu2
        have hx := opd_EV F h3
        simp only [aop] at hr
        split at hr
        · rename_i kk n hy
          rw [hy] at hx
          simp only [EV, VR] at hx
          refine Done.pure (v' := .int kd (kd.wrap n)) F ?_ (EV.of_VR VR_int) hr
          simp only [execOp, hx, convert, Sem.run_bind, run_underlying' hu2, run_underlying' hu, Result.andThen_ok, Conv.intToInt, Sem.run_pure]
        · cases hr
      · cases h2
    · cases h1
  case h_19 f fi ca g fi' ca' =>
    simp only [Bool.and_eq_true, Nat.beq_eq] at hk
    obtain ⟨⟨rfl, h2⟩, h3⟩ := hk
    simp only [aop] at hr
    split at hr
    · rename_i hp
      simp only [Bool.and_eq_true] at hp
      have g1 := opds_EV F h2 hp.1
      have g2 := opds_EV F h3 hp.2
      refine Done.pure (v' := .func (.func f) (fi.map a.eval) (ca.map a.eval)) F rfl (EV.of_VR ?_) hr
      exact ⟨_, _, rfl, by simpa using g1, by simpa using g2⟩
    · cases hr
  case h_20 t l c sz z by_ l' c' =>
    simp only [Bool.and_eq_true] at hk
    obtain ⟨⟨h1, h2⟩, h3⟩ := hk
    have hl := opd_EV F h2
    have hc := opd_EV F h3
    simp only [aop] at hr
    split at hr
    · rename_i k1 n k2 m e1 e2
      split at hr
      · rename_i hcond
        simp only [Bool.and_eq_true, decide_eq_true_eq] at hcond
        obtain ⟨⟨⟨⟨⟨rfl, c2⟩, c3⟩, c4⟩, _⟩, _⟩ := hcond
        rw [e1] at hl; rw [e2] at hc
        simp only [EV, VR] at hl hc
        obtain ⟨v', w', r', FP', g1, g2, g3, g4, g5⟩ := run_mkslice (k := k1) (l := k2) F h1 c2 c3 c4
        refine ⟨.value v', v', _, e, _, w', r', FP', dl, ?_, rfl, g5, EV.of_VR g2, g3, g4, hr, fun _ hj => .inr hj⟩
        simp only [execOp, hl, hc, Sem.run_bind, g1, Result.andThen_ok, Sem.run_pure]
      · cases hr
    · cases hr
  case h_21 t x lo hi mx sz y lo' hi' mx' =>
    simp only [Bool.and_eq_true] at hk
    obtain ⟨⟨⟨⟨⟨h1, h2⟩, h3⟩, h4⟩, h5⟩, h6⟩ := hk
    obtain ⟨el, hel⟩ := Option.isSome_iff_exists.1 h1
    simp only [aop] at hr
    obtain ⟨v, g1, g2⟩ := orF_run hr
    have hmh : (mx'.map (Opd.ev e)).isSome = true → (hi'.map (Opd.ev e)).isSome = true := by
      intro hm
      have : mx.isSome = true := by
        unfold opdco at h5
        cases mx <;> cases mx' <;> simp_all
      have h7 : hi.isSome = true := by
        cases mx <;> simp_all
      unfold opdco at h4
      cases hi <;> cases hi' <;> simp_all
    obtain ⟨v', k1, k2⟩ := run_slc (P := P) (w := w) hel (opd_EV F h2) (opdo_OV F h3) (opdo_OV F h4) (opdo_OV F h5) hmh g1
    refine Done.pure (v' := v') F ?_ (EV.of_VR k2) g2
    simp only [execOp, Sem.run_bind, k1, Result.andThen_ok, Sem.run_pure]
  case h_22 t x f off y =>
    rw [Bool.and_eq_true] at hk
    obtain ⟨h1, h2⟩ := hk
    split at h1
    · rename_i fs hu
      split at h1
      · rename_i fd hfd
        rw [Bool.and_eq_true, Nat.beq_eq] at h1
        obtain ⟨rfl, h3⟩ := h1
        split at h3
        · rename_i i hi
          rw [Nat.blt_eq] at h3
          have hx := opd_EV F h2
          have hplace : ∀ b o, (Instr.fieldAt t (.pointer (some ⟨b, o, none⟩)) f).run P w = .ok (.pointer (some ⟨b, o + fd.offset, none⟩)) w := by
            intro b o
            simp only [Instr.fieldAt, Sem.run_bind, run_underlying' hu, Result.andThen_ok, hfd, Instr.sureAddr, Sem.run_pure, fieldPlace, run_sizeOf hi, Sem.run_ite]
            rw [if_neg (by omega)]
            simp only [Result.andThen_ok, addr_add]
          simp only [aop] at hr
          split at hr
          · rename_i id idx o hy
            rw [hy] at hx
            obtain ⟨pl, g1, g2⟩ := hx
            refine Done.pure (v := .p id idx (o + fd.offset)) (v' := .pointer (some ⟨pl.b, pl.base + idx * pl.sz + o + fd.offset, none⟩)) F ?_ ⟨pl, g1, by rw [Nat.add_assoc (pl.base + idx * pl.sz)]⟩ hr
            simp only [execOp, g2, Sem.run_bind, hplace, Result.andThen_ok, Sem.run_pure]
          · rename_i u o hy
            rw [hy] at hx
            obtain ⟨b, g1, g2⟩ := hx
            refine Done.pure (v := .q u (o + fd.offset)) (v' := .pointer (some ⟨b, o + fd.offset, none⟩)) F ?_ ⟨b, g1, rfl⟩ hr
            simp only [execOp, g2, Sem.run_bind, hplace, Result.andThen_ok, Sem.run_pure]
          · cases hr
        · cases h3
      · cases h1
    · cases h1
  case h_23 t x f off n y =>
    rw [Bool.and_eq_true] at hk
    obtain ⟨h1, h2⟩ := hk
    split at h1
    · rename_i fs hu
      split at h1
      · rename_i fd hfd
        rw [Bool.and_eq_true, Nat.beq_eq] at h1
        obtain ⟨rfl, h3⟩ := h1
        have hx := opd_EV F h2
        simp only [aop] at hr
        split at hr
        · rename_i cs hy
          rw [hy] at hx
          simp only [EV, VR] at hx
          obtain ⟨cs', g1, g2⟩ := hx
          have hl := g2.length
          simp at hl
          rcases isAgg_of (w := w) h3 with ⟨m, i, rfl, k1, k2, k3⟩ | ⟨rfl, k3⟩
          · dsimp only at hr
            split at hr
            · rename_i hm
              refine Done.pure (v := .ag ((cs.drop fd.offset).take m)) (v' := .agg (cs'.extract fd.offset (fd.offset + i.size))) F ?_ (EV.of_VR ⟨_, rfl, ?_⟩) hr
              · simp only [execOp, g1, Instr.field, Sem.run_bind, run_underlying' hu, Result.andThen_ok, hfd, asAgg, Sem.run_pure, part, k3, if_true, run_sizeOf k1]
              · have := (g2.drop fd.offset).take m
                rw [Array.toList_extract, k2]
                have e1 : (List.extract cs'.toList fd.offset (fd.offset + m)) = (cs'.toList.drop fd.offset).take m := by
                  simp [List.extract_eq_take_drop]
                rw [e1]; exact this
            · cases hr
          · dsimp only at hr
            obtain ⟨v, j1, j2⟩ := orF_run hr
            obtain ⟨v', j3, j4⟩ := g2.get _ _ j1
            refine Done.pure (v' := v') F ?_ (EV.of_VR j4) j2
            have j5 : cs'[fd.offset]? = some v' := by simpa using j3
            simp only [execOp, g1, Instr.field, Sem.run_bind, run_underlying' hu, Result.andThen_ok, hfd, asAgg, Sem.run_pure, part, k3, Bool.false_eq_true, if_false, j5]
        · cases hr
      · cases h1
    · cases h1
  case h_24 t x i sz y j =>
    simp only [Bool.and_eq_true] at hk
    obtain ⟨⟨h1, h2⟩, h3⟩ := hk
    obtain ⟨el, hel⟩ := Option.isSome_iff_exists.1 h1
    obtain ⟨hu, ii, hi1, hi2⟩ := elemc_of hel
    have hx := opd_EV F h2
    have hj := opd_EV F h3
    simp only [aop] at hr
    split at hr
    · rename_i sz' id idx len tight kk n e1 e2
      split at hr
      · rename_i hc
        obtain ⟨rfl, c1, c2⟩ := hc
        rw [e1] at hx; rw [e2] at hj
        simp only [EV, VR] at hx hj
        obtain ⟨b, off, cap, g1, g2, g3, g4⟩ := hx
        obtain ⟨pl, p1, p2, rfl, rfl, p5⟩ := g4 (by omega)
        refine Done.pure (v := .p id (idx + n.toNat) 0) (v' := .pointer (some ⟨pl.b, pl.base + idx * sz' + n.toNat * sz', none⟩)) F ?_ ⟨pl, p1, by rw [p2, Nat.add_mul, Nat.add_zero, Nat.add_assoc]⟩ hr
        simp only [execOp, g1, hj, Instr.indexAt, asIntOf, Sem.run_bind, Sem.run_pure, Result.andThen_ok, run_underlying' hu, Sem.run_ite]
        rw [if_pos ⟨c1, c2⟩]
        simp only [run_sizeOf hi1, Result.andThen_ok, hi2, addr_add, Sem.run_pure]
      · cases hr
    · cases hr
  case h_25 t x i len sz y j =>
    simp only [Bool.and_eq_true] at hk
    obtain ⟨⟨h1, h2⟩, h3⟩ := hk
    split at h1
    · rename_i nn el hu
      rw [Bool.and_eq_true, Nat.beq_eq] at h1
      obtain ⟨rfl, h1⟩ := h1
      obtain ⟨ii, hi1, hi2⟩ := szc_run h1
      have hx := opd_EV F h2
      have hj := opd_EV F h3
      simp only [aop] at hr
      split at hr
      · rename_i kk n e2
        rw [e2] at hj
        simp only [EV, VR] at hj
        split at hr
        · rename_i hc
          have hplace : ∀ b o, (Instr.indexAt t (.pointer (some ⟨b, o, none⟩)) (.int kk n)).run P w = .ok (.pointer (some ⟨b, o + n.toNat * sz, none⟩)) w := by
            intro b o
            simp only [Instr.indexAt, asIntOf, Sem.run_bind, Sem.run_pure, Result.andThen_ok, run_underlying' hu, Instr.sureAddr, Sem.run_ite]
            rw [if_pos hc]
            simp only [run_sizeOf hi1, Result.andThen_ok, hi2, addr_add, Sem.run_pure]
          split at hr
          · rename_i id idx o hy
            rw [hy] at hx
            obtain ⟨pl, g1, g2⟩ := hx
            refine Done.pure (v := .p id idx (o + n.toNat * sz)) (v' := .pointer (some ⟨pl.b, pl.base + idx * pl.sz + o + n.toNat * sz, none⟩)) F ?_ ⟨pl, g1, by rw [Nat.add_assoc (pl.base + idx * pl.sz)]⟩ hr
            simp only [execOp, g2, hj, Sem.run_bind, hplace, Result.andThen_ok, Sem.run_pure]
          · rename_i u o hy
            rw [hy] at hx
            obtain ⟨b, g1, g2⟩ := hx
            refine Done.pure (v := .q u (o + n.toNat * sz)) (v' := .pointer (some ⟨b, o + n.toNat * sz, none⟩)) F ?_ ⟨b, g1, rfl⟩ hr
            simp only [execOp, g2, hj, Sem.run_bind, hplace, Result.andThen_ok, Sem.run_pure]
          · cases hr
        · cases hr
      · cases hr
    · cases h1
  case h_26 t x i y j =>
    simp only [Bool.and_eq_true] at hk
    obtain ⟨⟨h1, h2⟩, h3⟩ := hk
    split at h1
    · rename_i hu
      have hx := opd_EV F h2
      have hj := opd_EV F h3
      simp only [aop] at hr
      split at hr
      · rename_i tt kk n e1 e2
        split at hr
        · rename_i hc
          rw [e1] at hx; rw [e2] at hj
          simp only [EV, VR] at hx hj
          refine Done.pure (v' := .int .u8 (tt.data.getD n.toNat 0).toNat) F ?_ (EV.of_VR VR_int) hr
          have hlt : n.toNat < tt.size := by omega
          have hg : tt[n.toNat]? = some (tt.data.getD n.toNat 0) := by
            rw [getElem?_pos tt n.toNat hlt]
            congr 1
            have : n.toNat < tt.data.size := hlt
            simp only [Array.getD, this, dif_pos]
            rfl
          simp only [execOp, hx, hj, Instr.index, asIntOf, Sem.run_bind, Sem.run_pure, Result.andThen_ok, run_underlying' hu]
          rw [if_pos hc.1, hg]
          simp
        · cases hr
      · cases hr
    · cases h1
  case h_27 x i y j =>
    rw [Bool.and_eq_true, Nat.beq_eq] at hk
    obtain ⟨rfl, h2⟩ := hk
    have hx := opd_EV F h2
    simp only [aop] at hr
    split at hr
    · rename_i vs hy
      rw [hy] at hx
      simp only [EV, VR] at hx
      obtain ⟨vs', g1, g2⟩ := hx
      obtain ⟨v, j1, j2⟩ := orF_run hr
      obtain ⟨v', j3, j4⟩ := g2.get _ _ j1
      refine Done.pure (v' := v') F ?_ (EV.of_VR j4) j2
      have j5 : vs'[i]? = some v' := by simpa using j3
      simp only [execOp, g1, Instr.extract, Sem.run_bind, j5]
      rfl
    · cases hr
  case h_28 => exact absurd rfl (hnc.1 _ _)
  case h_29 => exact absurd rfl (hnc.2 _ _)
  case h_30 args argTypes y =>
    split at hk
    · rename_i t x h1 h2
      have e1 : argTypes = #[t] := by rw [← Array.toList_inj]; exact h1
      have e2 : args = #[x] := by rw [← Array.toList_inj]; exact h2
      subst e1; subst e2
      rw [Bool.and_eq_true] at hk
      obtain ⟨g1, g2⟩ := hk
      have hx := opd_EV F g2
      simp only [aop] at hr
      obtain ⟨n, j1, j2⟩ := orF_run hr
      refine Done.pure (v' := .int .i64 n) F ?_ (EV.of_VR VR_int) j2
      unfold lenA at j1
      split at g1
      · rename_i el hu
        split at j1
        · rename_i hy
          cases j1
          rw [hy] at hx; simp only [EV, VR] at hx
          simp [execOp, resolve, invoke, builtin, Builtin.len_, run_underlying' hu, hx, goInt]
        · rename_i hy
          cases j1
          rw [hy] at hx; simp only [EV, VR] at hx
          obtain ⟨a1, hx⟩ := hx
          simp [execOp, resolve, invoke, builtin, Builtin.len_, run_underlying' hu, hx, goInt]
        · rename_i hy
          cases j1
          rw [hy] at hx; simp only [EV, VR] at hx
          obtain ⟨b, off, cap, hx, _⟩ := hx
          simp [execOp, resolve, invoke, builtin, Builtin.len_, run_underlying' hu, hx, goInt]
        · cases j1
      · cases g1
    · cases hk
  case h_31 args argTypes y =>
    split at hk
    · rename_i t x h1 h2
      have e1 : argTypes = #[t] := by rw [← Array.toList_inj]; exact h1
      have e2 : args = #[x] := by rw [← Array.toList_inj]; exact h2
      subst e1; subst e2
      rw [Bool.and_eq_true] at hk
      obtain ⟨g1, g2⟩ := hk
      have hx := opd_EV F g2
      simp only [aop] at hr
      obtain ⟨n, j1, j2⟩ := orF_run hr
      refine Done.pure (v' := .int .i64 n) F ?_ (EV.of_VR VR_int) j2
      unfold lenT at j1
      split at g1
      · rename_i hu
        split at j1
        · rename_i hy
          cases j1
          rw [hy] at hx; simp only [EV, VR] at hx
          simp [execOp, resolve, invoke, builtin, Builtin.len_, run_underlying' hu, hx, goInt]
        · cases j1
      · cases g1
    · cases hk
  case h_32 args argTypes sz by_ y z =>
    split at hk
    · rename_i t u x x2 h1 h2
      have e1 : argTypes = #[t, u] := by rw [← Array.toList_inj]; exact h1
      have e2 : args = #[x, x2] := by rw [← Array.toList_inj]; exact h2
      subst e1; subst e2
      simp only [Bool.and_eq_true] at hk
      obtain ⟨⟨g1, g2⟩, g3⟩ := hk
      simp only [aop] at hr
      split at hr
      · rename_i hb
        obtain ⟨rows, j0, hr⟩ := orF_run hr
        obtain ⟨⟨v, h'⟩, j1, j2⟩ := orF_run hr
        obtain ⟨v', w', r', FP', k1, k2, k3, k4, k5⟩ := run_app (ty := ty) F g1 hb (opd_EV F g2) (opd_EV F g3) j0 j1
        refine ⟨.value v', v', v, e, h', w', r', FP', dl, ?_, rfl, k5, EV.of_VR k2, k3, k4, j2, fun _ hj => .inr hj⟩
        simp only [execOp, resolve, Sem.run_bind, Sem.run_pure, Result.andThen_ok, invoke, builtin, List.map_toArray, List.map_cons, List.map_nil, k1]
      · cases hr
    · cases hk
  case h_34 args argTypes y z =>
    split at hk
    · rename_i x x2 h2
      have e2 : args = #[x, x2] := by rw [← Array.toList_inj]; exact h2
      subst e2
      rw [Bool.and_eq_true] at hk
      obtain ⟨g2, g3⟩ := hk
      have hx := opd_EV F g2
      have hy := opd_EV F g3
      simp only [aop] at hr
      split at hr
      · rename_i k1 n k2 m e1 e2
        split at hr
        · rename_i hkk
          subst hkk
          rw [e1] at hx; rw [e2] at hy
          simp only [EV, VR] at hx hy
          refine Done.pure (v' := .int k1 (if m > n then m else n)) F ?_ (EV.of_VR VR_int) hr
          simp [execOp, resolve, invoke, builtin, Builtin.max_, Builtin.max2, hx, hy]
        · cases hr
      · cases hr
    · cases hk
  case h_35 args argTypes y z =>
    split at hk
    · rename_i x x2 h2
      have e2 : args = #[x, x2] := by rw [← Array.toList_inj]; exact h2
      subst e2
      rw [Bool.and_eq_true] at hk
      obtain ⟨g2, g3⟩ := hk
      have hx := opd_EV F g2
      have hy := opd_EV F g3
      simp only [aop] at hr
      split at hr
      · rename_i k1 n k2 m e1 e2
        split at hr
        · rename_i hkk
          subst hkk
          rw [e1] at hx; rw [e2] at hy
          simp only [EV, VR] at hx hy
          refine Done.pure (v' := .int k1 (if m < n then m else n)) F ?_ (EV.of_VR VR_int) hr
          simp [execOp, resolve, invoke, builtin, Builtin.min_, Builtin.min2, hx, hy]
        · cases hr
      · cases hr
    · cases hk
  case h_36 => cases hk
  case h_33 args argTypes z y =>
    split at hk
    · rename_i t x h1 h2
      have e1 : argTypes = #[t] := by rw [← Array.toList_inj]; exact h1
      have e2 : args = #[x] := by rw [← Array.toList_inj]; exact h2
      subst e1; subst e2
      rw [Bool.and_eq_true] at hk
      obtain ⟨g1, g2⟩ := hk
      simp only [aop] at hr
      split at hr
      · obtain ⟨h', j1, j2⟩ := orF_run hr
        obtain ⟨w', k1, k2, k3⟩ := run_clear (ty := ty) F g1 (opd_EV F g2) j1
        refine ⟨.value (.tuple #[]), .tuple #[], .und, e, h', w', r, FP, dl, ?_, rfl, k3, rfl, r.le_refl, k2, j2, fun _ hj => .inr hj⟩
        simp only [execOp, resolve, Sem.run_bind, Sem.run_pure, Result.andThen_ok, invoke, builtin, List.map_toArray, List.map_cons, List.map_nil, k1]
      · cases hr
    · cases hk

end
end Go.Proofs.YtpkimnaenlbbjaaGreat.AM
