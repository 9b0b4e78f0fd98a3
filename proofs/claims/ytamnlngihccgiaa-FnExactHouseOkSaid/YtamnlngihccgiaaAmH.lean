/- Comparisons with nil and of structs, bytes to strings, struct literals; all operations that leave the heap alone, together. -/
import Derived.Test.YtamnlngihccgiaaAmG
import Derived.Laws.Tables
namespace Go.Proofs.Ytamnlngihccgiaa.AM
set_option linter.all false
open Go
section
variable {P : Program} {nt : Nat} {ρ : Ren} {fr : Fr} {a : Act} {H : AH} {w : World} {o : Oper} {K : AV → AH → Prop} {pw rd : Nat → Prop}

theorem eqGuard_agg {op : BinOp} {t : TypeId} (ht : P.eqGuardType P.depth t = false) (x y : Operand) (p q : Array Value) (w : World) : (eqGuard op t x y (.agg p) (.agg q)).run P w = .ok () w := by
  unfold eqGuard
  cases op <;> simp [ht]

theorem g_eqs (hf : FrOk ρ fr a) (hs : a.tmps.size = nt) (h0 : ρ 0 = some none) {neg : Bool} {ty : TypeId} {x y : Od} (hc : checkOp P nt o.op (.eqs neg ty x y) = true)
    (h : aop (env P) pw rd (.eqs neg ty x y) fr H K) : Gives P rd ρ H w a o K := by
  simp only [checkOp] at hc
  split at hc
  case h_2 => cases hc
  rename_i op' t x' y' t2 e
  simp only [Bool.and_eq_true, beq_iff_eq, Bool.not_eq_true'] at hc
  obtain ⟨⟨⟨⟨⟨rfl, rfl⟩, ht⟩, hg⟩, h1⟩, h2⟩ := hc
  have r1 := odOk.VR hf hs h0 h1
  have r2 := odOk.VR hf hs h0 h2
  simp only [aop] at h
  split at h
  case h_2 => exact h.elim
  rename_i xs ys e1 e2
  obtain ⟨hq, hk, h⟩ := h
  split at h
  case h_2 => exact h.elim
  rename_i r hr
  rw [e1] at r1; rw [e2] at r2
  simp only [VR] at r1 r2
  obtain ⟨vs, ev, hvs⟩ := r1
  obtain ⟨us, eu, hus⟩ := r2
  refine ⟨_, _, h, vr_b, fun w' _ => ?_⟩
  have hrun : (Op.equal t (.agg vs.toArray) (.agg us.toArray)).run P w' = .ok r w' := hq w' ρ xs ys vs us r rfl hk hvs hus hr
  cases neg <;> simp [execOp, e, ev, eu, eqGuard_agg hg, binOp, hrun]

/-! '==' with nil -/
theorem eqIn_ptr {t el : TypeId} (hu : P.underlying t = some (.pointer el)) (d : Nat) (x : Option Addr) (w : World) : (Op.equalIn (d + 1) t (.pointer x) (.pointer none)).run P w = .ok x.isNone w := by
  cases x <;> simp [Op.equalIn, run_underlying hu]
theorem eqIn_if1 {t : TypeId} {ms} (hu : P.underlying t = some (.interface ms)) (d : Nat) (w : World) : (Op.equalIn (d + 1) t .nilIface .nilIface).run P w = .ok true w := by
  simp [Op.equalIn, run_underlying hu]
theorem eqIn_if2 {t ty : TypeId} {ms} (hu : P.underlying t = some (.interface ms)) (d : Nat) (v : Value) (w : World) : (Op.equalIn (d + 1) t (.iface ty v) .nilIface).run P w = .ok false w := by
  simp [Op.equalIn, run_underlying hu]
theorem eqIn_sl {t el : TypeId} (hu : P.underlying t = some (.slice el)) (d : Nat) (x : Option Addr) (n c : Nat) (w : World) : (Op.equalIn (d + 1) t (.slice x n c) (.slice none 0 0)).run P w = .ok x.isNone w := by
  cases x <;> simp [Op.equalIn, run_underlying hu]

theorem binOp_eq {t : TypeId} {v n : Value} {r : Bool} {w : World} (h : (Op.equal t v n).run P w = .ok r w) (hv : ∀ k x, v ≠ .int k x) (hv2 : ∀ s, v ≠ .string s) (hv3 : ∀ k x, v ≠ .float k x) (hv4 : ∀ k x y, v ≠ .complex k x y) (neg : Bool) :
    (binOp (if neg then .neq else .eql) t v n).run P w = .ok (.bool (if neg then !r else r)) w := by
  cases neg <;> cases v <;> first | (simp [binOp, h]; done) | (exact absurd rfl (hv _ _)) | (exact absurd rfl (hv2 _)) | (exact absurd rfl (hv3 _ _)) | (exact absurd rfl (hv4 _ _ _))

theorem eqn_run {kd : Nat} {t : TypeId} {c : Operand} (ht : nilOk P kd t c = true) {x : AV} {v : Value} {r : Bool} (hv : VR ρ x v) (h0 : ρ 0 = some none) (hx : isNil kd x = some r) (w : World) :
    ∃ n, c = .const n ∧ (∀ (neg : Bool) y, (eqGuard (if neg then .neq else .eql) t y (.const n) v n).run P w = .ok () w) ∧
      ∀ (neg : Bool), (binOp (if neg then .neq else .eql) t v n).run P w = .ok (.bool (if neg then !r else r)) w := by
  unfold nilOk at ht
  split at ht
  · split at ht
    case h_2 => cases ht
    rename_i el hu
    have hp : ∃ y, v = .pointer y ∧ y.isNone = r := by
      unfold isNil at hx
      simp only at hx
      split at hx
      · simp only [Option.some.injEq] at hx; subst hx
        simp only [VR] at hv; exact ⟨_, hv, rfl⟩
      · simp only [Option.some.injEq] at hx; subst hx
        simp only [VR] at hv; obtain ⟨l, _, hv⟩ := hv; exact ⟨_, hv, rfl⟩
      · cases hx
    obtain ⟨y, rfl, rfl⟩ := hp
    exact ⟨_, rfl, fun neg y => by unfold eqGuard; cases neg <;> simp,
      fun neg => binOp_eq (show (Op.equalIn (9999 + 1) t _ _).run P w = _ from eqIn_ptr hu 9999 _ w) (by simp) (by simp) (by simp) (by simp) neg⟩
  · split at ht
    case h_2 => cases ht
    rename_i el hu
    unfold isNil at hx
    simp only at hx
    split at hx
    · simp only [Option.some.injEq] at hx; subst hx
      simp only [VR] at hv; subst hv
      exact ⟨_, rfl, fun neg y => by unfold eqGuard; cases neg <;> simp,
        fun neg => binOp_eq (show (Op.equalIn (9999 + 1) t _ _).run P w = _ from eqIn_if1 hu 9999 w) (by simp) (by simp) (by simp) (by simp) neg⟩
    · simp only [Option.some.injEq] at hx; subst hx
      simp only [VR] at hv; obtain ⟨u, rfl, _⟩ := hv
      exact ⟨_, rfl, fun neg y => by unfold eqGuard; cases neg <;> simp,
        fun neg => binOp_eq (show (Op.equalIn (9999 + 1) t _ _).run P w = _ from eqIn_if2 hu 9999 u w) (by simp) (by simp) (by simp) (by simp) neg⟩
    · cases hx
  · split at ht
    case h_2 => cases ht
    rename_i el hu
    have hsl : ∃ ad n c, v = .slice ad n c ∧ ad.isNone = r := by
      unfold isNil at hx
      split at hx
      · simp_all
      · simp_all
      rename_i hne0 hne1
      split at hx
      case h_3 => cases hx
      case h_2 =>
        rename_i rows
        simp only [VR] at hv
        obtain ⟨vss, hvss, hq⟩ := hv
        have hlen := hvss.length
        split at hx
        · cases hx
        · rename_i hne
          simp only [Option.some.injEq] at hx; subst hx
          rcases hq with ⟨rfl, _⟩ | ⟨b, off, k', cap, hne, ev, _⟩
          · exact absurd (List.eq_nil_of_length_eq_zero hlen.symm) hne
          · exact ⟨_, _, _, ev, rfl⟩
      rename_i id i n
      simp only [VR] at hv
      split at hx
      · rename_i e
        simp only [Option.some.injEq] at hx; subst hx
        exact ⟨_, _, _, hv.2 e, rfl⟩
      · split at hx
        · cases hx
        · rename_i hn
          simp only [Option.some.injEq] at hx; subst hx
          replace hv := hv.1
          unfold SlR at hv
          split at hv
          · exact hv.elim
          · exact absurd hv.2.1 hn
          · obtain ⟨ad, rfl, h1, h2, h3⟩ := hv
            rw [h3 (by omega)]
            exact ⟨_, _, _, rfl, rfl⟩
    obtain ⟨ad, n, c, rfl, rfl⟩ := hsl
    exact ⟨_, rfl, fun neg y => by unfold eqGuard; cases neg <;> simp,
      fun neg => binOp_eq (show (Op.equalIn (9999 + 1) t _ _).run P w = _ from eqIn_sl hu 9999 _ _ _ w) (by simp) (by simp) (by simp) (by simp) neg⟩

theorem VR.sl {x : AV} {v : Value} (hx : x.isSl = true) (hv : VR ρ x v) : ∃ ad n c, v = .slice ad n c := by
  cases x <;> simp only [AV.isSl, Bool.false_eq_true] at hx
  case l =>
    simp only [VR] at hv
    replace hv := hv.1
    unfold SlR at hv
    split at hv
    · exact hv.elim
    · obtain ⟨_, _, az, rfl⟩ := hv; exact ⟨_, _, _, rfl⟩
    · obtain ⟨az, rfl, _⟩ := hv; exact ⟨_, _, _, rfl⟩
  case q =>
    simp only [VR] at hv
    obtain ⟨vss, _, h⟩ := hv
    rcases h with ⟨_, a, c, rfl⟩ | ⟨b, off, k, cap, _, rfl, _⟩ <;> exact ⟨_, _, _, rfl⟩

theorem eqn_any {kd : Nat} {t : TypeId} {c : Operand} (ht : nilOk P kd t c = true) (hkd : 2 ≤ kd) {ad : Option Addr} {n cp : Nat} (w : World) :
    ∃ m, c = .const m ∧ (∀ (neg : Bool) y, (eqGuard (if neg then .neq else .eql) t y (.const m) (.slice ad n cp) m).run P w = .ok () w) ∧
      ∀ (neg : Bool), (binOp (if neg then .neq else .eql) t (.slice ad n cp) m).run P w = .ok (.bool (if neg then !ad.isNone else ad.isNone)) w := by
  unfold nilOk at ht
  split at ht
  · omega
  · omega
  · split at ht
    case h_2 => cases ht
    rename_i el hu
    exact ⟨_, rfl, fun neg y => by unfold eqGuard; cases neg <;> simp,
      fun neg => binOp_eq (show (Op.equalIn (9999 + 1) t _ _).run P w = _ from eqIn_sl hu 9999 _ _ _ w) (by simp) (by simp) (by simp) (by simp) neg⟩

theorem g_eqn (hf : FrOk ρ fr a) (hs : a.tmps.size = nt) (h0 : ρ 0 = some none) {kd : Nat} {neg : Bool} {x : Od} (hc : checkOp P nt o.op (.eqn kd neg x) = true)
    (h : aop (env P) pw rd (.eqn kd neg x) fr H K) : Gives P rd ρ H w a o K := by
  simp only [checkOp] at hc
  split at hc
  case h_2 => cases hc
  rename_i op' t x' y' t2 e
  simp only [Bool.and_eq_true, beq_iff_eq] at hc
  obtain ⟨⟨rfl, h1⟩, h2⟩ := hc
  have r2 := odOk.VR hf hs h0 h2
  simp only [aop] at h
  split at h
  case h_2 =>
    obtain ⟨hsl, hkd, h⟩ := h
    obtain ⟨ad, n, cp, ev⟩ := r2.sl hsl
    refine ⟨_, _, h (if neg then !ad.isNone else ad.isNone), vr_b, fun w' _ => ?_⟩
    obtain ⟨m, rfl, hg, hb⟩ := eqn_any (P := P) (ad := ad) (n := n) (cp := cp) h1 hkd w'
    have hn : a.eval (.const m) = m := rfl
    simp only [execOp, e, Sem.run_bind, hn, ev, hg, Result.andThen_ok, hb, Sem.run_pure]
  rename_i r hr
  refine ⟨_, _, h, vr_b, fun w' _ => ?_⟩
  obtain ⟨n, rfl, hg, hb⟩ := eqn_run h1 r2 h0 hr w'
  have hn : a.eval (.const n) = n := rfl
  simp only [execOp, e, Sem.run_bind, hn, hg, Result.andThen_ok, hb, Sem.run_pure]

/-! bytes to a string -/
theorem bytes_loop (f : Value → ByteArray → Sem (ForInStep ByteArray)) (hf : ∀ (n : Int) r w, (f (Value.int .u8 n) r).run P w = .ok (ForInStep.yield (r.push (UInt8.ofNat n.toNat))) w) (w : World) : ∀ (cs : List Value) (bs : List UInt8) (s : ByteArray), (∀ (i : Nat) (b : UInt8), bs[i]? = some b → ∃ n : Int, cs[i]? = some (Value.int .u8 n) ∧ UInt8.ofNat n.toNat = b) → cs.length = bs.length →
    (forIn cs.toArray s f : Sem ByteArray).run P w = .ok ⟨s.data ++ bs.toArray⟩ w
  | [], bs, s, _, hl => by
    cases bs with
    | nil => simp
    | cons => simp at hl
  | c :: cs, bs, s, h, hl => by
    cases bs with
    | nil => simp at hl
    | cons b bs =>
      obtain ⟨n, hn, hb⟩ := h 0 b (by simp)
      simp only [List.length_cons, List.getElem?_cons_zero, Option.some.injEq] at hn hl
      subst hn
      have ih := bytes_loop f hf w cs bs (s.push (UInt8.ofNat n.toNat)) (fun i b' hb' => by simpa using h (i + 1) b' (by simpa using hb')) (by omega)
      simp only [List.forIn_toArray] at ih ⊢
      simp only [List.forIn_cons, Sem.run_bind, hf, Result.andThen_ok]
      rw [ih]
      congr 2
      rw [hb]
      apply Array.toList_inj.1
      simp [ByteArray.push]

theorem bytesOfRows_get : ∀ (rows : List (List AV)) (bs : List UInt8), bytesOfRows rows = some bs → rows.length = bs.length ∧ ∀ (i : Nat) (b : UInt8), bs[i]? = some b → ∃ n : Int, rows[i]? = some [AV.n .u8 n] ∧ UInt8.ofNat n.toNat = b
  | [], bs, h => by simp [bytesOfRows] at h; subst h; simp
  | r :: rows, bs, h => by
    unfold bytesOfRows at h
    split at h
    · rename_i heq; cases heq
    · rename_i v r' heq
      simp only [List.cons.injEq] at heq
      obtain ⟨rfl, rfl⟩ := heq
      simp only [Option.map_eq_some_iff] at h
      obtain ⟨bs', h', rfl⟩ := h
      obtain ⟨hl, hg⟩ := bytesOfRows_get _ _ h'
      refine ⟨by simp [hl], fun i b hb => ?_⟩
      cases i with
      | zero => simp at hb; exact ⟨v, by simp, hb⟩
      | succ i => simpa using hg i b (by simpa using hb)
    · cases h

theorem g_bts (hf : FrOk ρ fr a) (hs : a.tmps.size = nt) (hR : Rel ρ H w) {x : Od} (hc : checkOp P nt o.op (.bts x) = true)
    (h : aop (env P) pw rd (.bts x) fr H K) : Gives P rd ρ H w a o K := by
  have h0 := hR.nil.2
  simp only [checkOp] at hc
  split at hc
  case h_2 => cases hc
  rename_i s d x' e
  simp only [Bool.and_eq_true] at hc
  obtain ⟨⟨h1, hd⟩, h2⟩ := hc
  have r2 := odOk.VR hf hs h0 h2
  have hud := tyStr_spec hd
  split at h1
  case h_2 => cases h1
  rename_i el hel
  simp only [beq_iff_eq] at h1
  have hus := tyElem_spec hel
  have hue := tyInt_spec h1
  simp only [aop] at h
  have conv : ∀ n w' ad c, a.eval x' = .slice ad n c → (execOp a.eval o).run P w' = ((Conv.bytesToString (.slice ad n c)).run P w').andThen fun v w2 => .ok (.value v) w2 := fun n w' ad c ev => by
    simp only [execOp, e, ev, convert, Sem.run_bind, run_underlying hus, run_underlying hud, Result.andThen_ok, run_underlying hue]
    cases (Conv.bytesToString (.slice ad n c)).run P w' <;> rfl
  have fin : ∀ (w' : World) (bs : List UInt8) (b off cap : Nat), 0 < bs.length → (∀ (j : Nat) (x : UInt8), bs[j]? = some x → ∃ nn : Int, w'.cell? ⟨b, off + j, none⟩ = some (.int .u8 nn) ∧ UInt8.ofNat nn.toNat = x) →
      (Conv.bytesToString (.slice (some ⟨b, off, none⟩) bs.length cap)).run P w' = .ok (.string ⟨bs.toArray⟩) w' := fun w' bs b off cap hpos hcell => by
    have hload : (loadCells ⟨b, off, none⟩ bs.length).run P w' = .ok (((List.range bs.length).map fun j => (w'.cell? ⟨b, off + j, none⟩).getD undef).toArray) w' :=
      run_loadCells w' _ bs.length (fun j => (w'.cell? ⟨b, off + j, none⟩).getD undef) fun j hj => by
        obtain ⟨nn, h1', _⟩ := hcell j bs[j] (List.getElem?_eq_getElem (by omega))
        rw [add_addr, h1']; rfl
    simp only [Conv.bytesToString, Sem.run_bind, hload, Result.andThen_ok]
    rw [bytes_loop (P := P) _ (fun n r w => rfl) w' ((List.range bs.length).map fun j => (w'.cell? ⟨b, off + j, none⟩).getD undef) bs ByteArray.empty (fun j b' hb => by
      obtain ⟨nn, h1', h2'⟩ := hcell j b' hb
      have hj : j < bs.length := by have := (List.getElem?_eq_some_iff.1 hb).1; omega
      exact ⟨nn, by simp [hj, h1'], h2'⟩) (by simp)]
    simp only [ByteArray.empty, ByteArray.emptyWithCapacity, Sem.run_pure, Result.andThen_ok]
    congr 4
    exact Array.empty_append
  split at h
  case h_3 => exact h.elim
  case h_2 =>
    rename_i rows ex
    split at h
    case h_2 => exact h.elim
    rename_i bs hbs
    obtain ⟨hrd, h⟩ := h
    rw [ex] at r2
    simp only [VR] at r2
    obtain ⟨vss, hvss, hq⟩ := r2
    have hvl := hvss.length
    obtain ⟨hl, hg⟩ := bytesOfRows_get _ _ hbs
    refine ⟨_, _, h, vr_s, fun w' hw' => ?_⟩
    rcases hq with ⟨rfl, ad, c, ev⟩ | ⟨b, off, k', cap, hne, ev, hcap, hcon⟩
    · rw [conv _ w' _ _ ev]
      have : bs = [] := List.eq_nil_of_length_eq_zero (by simp only [List.length_nil] at hvl; omega)
      subst this
      cases ad <;> simp [Conv.bytesToString, loadCells, loadCellsFrom] <;> rfl
    · rw [conv _ w' _ _ ev]
      have hvb : vss.length = bs.length := by omega
      have hpos : 0 < bs.length := by
        rcases Nat.eq_zero_or_pos vss.length with h0' | h0'
        · exact absurd (List.eq_nil_of_length_eq_zero h0') hne
        · omega
      rw [hvb, fin w' bs b off cap hpos ?_]
      · rfl
      · intro j x hx
        obtain ⟨nn, h1', h2'⟩ := hg j x hx
        obtain ⟨vs, hvs1, hvs2⟩ := hvss.get _ _ h1'
        simp only [VRs, VR] at hvs2
        obtain ⟨_, _, rfl, rfl, rfl⟩ := hvs2
        obtain ⟨hk, hc⟩ := hcon _ _ hvs1
        have hk1 : k' = 1 := by rw [← hk]; rfl
        have := hc 0 _ rfl
        rw [hk1] at this
        simp only [Nat.mul_one, Nat.add_zero] at this
        refine ⟨nn, ?_, h2'⟩
        rw [cell?_same (hw'.c hrd _ _ _ this)]
        exact (hR.con _ _ _ this).1
  rename_i id i n ex
  split at h
  case h_2 => exact h.elim
  rename_i B hB
  obtain ⟨hin, h⟩ := h
  split at h
  case h_2 => exact h.elim
  rename_i bs hbs
  obtain ⟨hrd, h⟩ := h
  rw [ex] at r2
  simp only [VR] at r2
  refine ⟨_, _, h, vr_s, fun w' hw' => ?_⟩
  obtain ⟨hl, hg⟩ := bytesOfRows_get _ _ hbs
  have hlen : bs.length = n := by
    rw [← hl]; simp; omega
  replace r2 := r2.1
  cases hl' : ρ id with
  | none => rw [hl'] at r2; exact r2.elim
  | some z =>
    rw [hl'] at r2
    cases z with
    | none =>
      obtain ⟨rfl, rfl, az, ev⟩ := r2
      rw [conv _ w' _ _ ev]
      have : bs = [] := List.eq_nil_of_length_eq_zero hlen
      subst this
      cases az <;> simp [Conv.bytesToString, loadCells, loadCellsFrom] <;> rfl
    | some l =>
      obtain ⟨ad, ev, hin', hlc, had⟩ := r2.some
      rw [conv _ w' _ _ ev]
      obtain ⟨xx, hx1, hok⟩ := hR.blk id B hB
      rw [hl'] at hx1
      simp only [Option.some.injEq] at hx1
      subst hx1
      simp only at hok
      rcases Nat.eq_zero_or_pos n with hn | hn
      · subst hn
        have : bs = [] := List.eq_nil_of_length_eq_zero hlen
        subst this
        cases ad with
        | none => simp [Conv.bytesToString]; rfl
        | some ad =>
          simp [Conv.bytesToString, loadCells, loadCellsFrom]
          rfl
      · rw [had (by omega)]
        -- the rows are of one cell each
        have hk1 : l.k = 1 := by
          obtain ⟨nn, h1', _⟩ := hg 0 bs[0] (List.getElem?_eq_getElem (by omega))
          have hmem : [AV.n .u8 nn] ∈ B.rows := by
            have := List.mem_of_getElem? h1'
            exact List.mem_of_mem_drop (List.mem_of_mem_take this)
          have := (hok.wid _ hmem).1
          rw [hok.k, ← this]; rfl
        have hcell : ∀ j (b : UInt8), bs[j]? = some b → ∃ nn : Int, w'.cell? ⟨l.b, l.off + i * l.k + j, none⟩ = some (.int .u8 nn) ∧ UInt8.ofNat nn.toNat = b := fun j b hb => by
          obtain ⟨nn, h1', h2'⟩ := hg j b hb
          have hj : j < n := by have := (List.getElem?_eq_some_iff.1 hb).1; omega
          have hrow : B.rows[i + j]? = some [.n .u8 nn] := by
            simpa [List.getElem?_take, hj, List.getElem?_drop] using h1'
          obtain ⟨cv, hc1, hc2⟩ := hok.cel (i + j) _ hrow 0 _ rfl
          simp only [VR] at hc2
          subst hc2
          refine ⟨nn, ?_, h2'⟩
          rw [cell?_same (hw'.l id l hrd hl')]
          rw [hk1] at hc1 ⊢
          simpa [Nat.add_assoc] using hc1
        rw [← hlen, fin w' bs _ _ _ (by omega) hcell]
        rfl

/-! struct literals -/
theorem foldl_put : ∀ (vs : List Value) (off : Nat) (cs : Array Value), off + vs.length ≤ cs.size →
    ((vs.toArray.zipIdx.foldl (fun cs (c, j) => cs.setIfInBounds (off + j) c) cs)).toList = cs.toList.take off ++ vs ++ cs.toList.drop (off + vs.length) := by
  suffices h : ∀ (vs : List Value) (k off : Nat) (cs : Array Value), off + k + vs.length ≤ cs.size →
      ((vs.zipIdx k).foldl (fun cs (c, j) => cs.setIfInBounds (off + j) c) cs).toList = cs.toList.take (off + k) ++ vs ++ cs.toList.drop (off + k + vs.length) by
    intro vs off cs hl
    have := h vs 0 off cs (by omega)
    simpa using this
  intro vs
  induction vs with
  | nil => intro k off cs _; simp
  | cons v vs ih =>
    intro k off cs hl
    simp only [List.length_cons] at hl
    simp only [List.zipIdx_cons, List.foldl_cons]
    rw [ih (k + 1) off _ (by simp; omega)]
    simp only [Array.toList_setIfInBounds, List.length_cons]
    have e1 : off + (k + 1) = off + k + 1 := by omega
    rw [e1]
    apply List.ext_getElem?
    intro i
    have hk : off + k < cs.toList.length := by simp; omega
    rcases Nat.lt_trichotomy i (off + k) with h | h | h
    · simp [List.getElem?_append, List.getElem?_take, List.getElem?_set, h, Nat.lt_succ_of_lt h, Nat.min_eq_left (Nat.le_of_lt (show off + k < cs.size by omega)), Nat.min_eq_left (show off + k + 1 ≤ cs.size by omega), Nat.ne_of_gt h]
    · subst h
      simp [List.getElem?_append, List.getElem?_take, List.getElem?_set, Nat.min_eq_left (Nat.le_of_lt (show off + k < cs.size by omega)), Nat.min_eq_left (show off + k + 1 ≤ cs.size by omega)]
    · have h1 : ¬ i < off + k := by omega
      have h2 : ¬ i < off + k + 1 := by omega
      have h3 : i - (off + k) = (i - (off + k + 1)) + 1 := by omega
      simp only [List.append_assoc, List.getElem?_append, List.length_take, List.length_set, List.length_cons]
      have m1 : min (off + k) cs.toList.length = off + k := Nat.min_eq_left (by omega)
      have m2 : min (off + k + 1) cs.toList.length = off + k + 1 := Nat.min_eq_left (by omega)
      rw [m1, m2, if_neg h1, if_neg h2, h3, List.getElem?_cons_succ]
      by_cases h4 : i - (off + k + 1) < vs.length
      · rw [if_pos h4, if_pos (by omega)]
      · rw [if_neg h4, if_neg (by omega)]
        rw [List.getElem?_drop, List.getElem?_drop, List.getElem?_set_ne (by omega)]
        congr 1
        omega

theorem putAt_VRs {zs cs : List AV} {zv vs : List Value} {off : Nat} (hz : VRs ρ zs zv) (hc : VRs ρ cs vs) : VRs ρ (putAt zs off cs) (zv.take off ++ vs ++ zv.drop (off + vs.length)) := by
  unfold putAt
  rw [← hc.length]
  exact ((hz.take off).append hc).append (hz.drop _)

theorem putAt_length {zs cs : List AV} {off : Nat} (h : off + cs.length ≤ zs.length) : (putAt zs off cs).length = zs.length := by
  simp [putAt]; omega

theorem fill_run (hf : FrOk ρ fr a) (hs : a.tmps.size = nt) (h0 : ρ 0 = some none) {t : TypeId} {place : Nat → Option (Nat × Nat)}
    (hp : ∀ f off ft sz, tyField P t f = some (off, ft) → tySize P ft = some sz → place f = some (off, sz)) : ∀ (ps : List (Nat × Operand)) (qs : List (Nat × Nat × Od)) (zs : List AV) (cells : Array Value),
    partsMatch P nt t ps qs = true → partsOk fr zs.length qs → VRs ρ zs cells.toList → ∃ cells', Instr.fill place cells (ps.map fun (i, x) => (i, a.eval x)) = some cells' ∧ VRs ρ (fillv fr zs qs) cells'.toList
  | [], [], zs, cells, _, _, hz => ⟨cells, by simp [Instr.fill], by simpa [fillv] using hz⟩
  | [], _ :: _, _, _, h, _, _ => by simp [partsMatch] at h
  | _ :: _, [], _, _, h, _, _ => by simp [partsMatch] at h
  | (f, x) :: ps, (off, sz, y) :: qs, zs, cells, h, hok, hz => by
    simp only [partsMatch, Bool.and_eq_true] at h
    obtain ⟨⟨h1, h2⟩, h3⟩ := h
    split at h1
    case h_2 => cases h1
    rename_i off' ft htf
    simp only [Bool.and_eq_true, beq_iff_eq] at h1
    obtain ⟨rfl, hsz⟩ := h1
    obtain ⟨hl, hleaf, hle, hok'⟩ := hok
    have r := odOk.VR hf hs h0 h2
    have hc := VR.cells hleaf r
    have hcl : (a.eval x).cells.toList.length = sz := by rw [hc.length, hl]
    have hzl := hz.length
    have hcs : (a.eval x).cells.size = sz := by rw [← hcl]; simp
    have hput : ((a.eval x).cells.zipIdx.foldl (fun cs (c, j) => cs.setIfInBounds (off' + j) c) cells).toList = cells.toList.take off' ++ (a.eval x).cells.toList ++ cells.toList.drop (off' + (a.eval x).cells.toList.length) := by
      have := foldl_put (a.eval x).cells.toList off' cells (by rw [hcl]; simp at hzl; omega)
      simpa using this
    obtain ⟨cells', h4, h5⟩ := fill_run hf hs h0 hp ps qs (putAt zs off' (cellsOf (fr.ev y))) _ h3 (by rw [putAt_length (by omega)]; exact hok') (by rw [hput]; exact putAt_VRs hz hc)
    refine ⟨cells', ?_, by simpa only [fillv] using h5⟩
    simp only [List.map_cons, Instr.fill, hp f off' ft sz htf hsz, hcs, ne_eq, not_true_eq_false, false_or, decide_false, Bool.false_or]
    rw [if_neg (by simp at hzl ⊢; omega)]
    exact h4

theorem mapM_get {α β : Type} {g : α → Option β} : ∀ {l : List α} {r : List β}, l.mapM g = some r → ∀ (i : Nat) (x : α), l[i]? = some x → r[i]? = g x
  | [], r, _, i, x, hx => by simp at hx
  | y :: l, r, h, i, x, hx => by
    simp only [List.mapM_cons, Option.bind_eq_bind, Option.bind_eq_some_iff, Option.pure_def, Option.some.injEq] at h
    obtain ⟨b, hb, bs, hbs, rfl⟩ := h
    cases i with
    | zero => simp at hx; subst hx; simp [hb]
    | succ i => simpa using mapM_get hbs i x (by simpa using hx)

theorem g_bld (hf : FrOk ρ fr a) (hs : a.tmps.size = nt) (h0 : ρ 0 = some none) {zero : List AV} {parts : List (Nat × Nat × Od)} (hc : checkOp P nt o.op (.bld zero parts) = true)
    (h : aop (env P) pw rd (.bld zero parts) fr H K) : Gives P rd ρ H w a o K := by
  simp only [checkOp] at hc
  split at hc
  case h_2 => cases hc
  rename_i t ps e
  simp only [Bool.and_eq_true] at hc
  obtain ⟨⟨h1, h2⟩, h3⟩ := hc
  obtain ⟨places, hpl⟩ := Option.isSome_iff_exists.1 h1
  unfold placesOf at hpl
  split at hpl
  case h_2 => cases hpl
  rename_i fs hu
  split at h2
  case h_2 => cases h2
  rename_i z hz
  simp only [aop] at h
  obtain ⟨hok, h⟩ := h
  have hzv := VRs.of_valsOk h0 _ _ h2
  obtain ⟨cells, hfill, hvr⟩ := fill_run hf hs h0 (t := t) (place := (places.toArray[·]?)) (fun f off ft sz h1 h2 => by
    obtain ⟨fs', hu', fd, hfd, rfl, rfl⟩ := tyField_spec h1
    rw [hu] at hu'
    simp only [Option.some.injEq, TypeDesc.struct.injEq] at hu'
    subst hu'
    have := mapM_get hpl f fd (by simpa using hfd)
    simp only [tySize, Option.map_eq_some_iff] at h2
    obtain ⟨i, hi, rfl⟩ := h2
    simpa [hi] using this) ps.toList parts zero z.cells h3 hok hzv
  refine ⟨.agg cells, _, h, by simp only [VR]; exact ⟨cells.toList, by simp, hvr⟩, fun w' _ => ?_⟩
  have hb : P.built t (ps.map fun (i, x) => (i, a.eval x)).toList = some cells := by
    unfold Program.built
    simp only [tyZero, Option.bind_eq_some_iff] at hz
    obtain ⟨it, hit, hz⟩ := hz
    rw [hit, hu]
    simp only [hz, hpl]
    rw [Array.toList_map]
    exact hfill
  simp only [execOp, e, Sem.run_bind, run_build w' t _ cells hb, Result.andThen_ok, Sem.run_pure]
end
end Go.Proofs.Ytamnlngihccgiaa.AM
