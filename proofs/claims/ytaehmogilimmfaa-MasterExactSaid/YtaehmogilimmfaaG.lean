/- Of each function of the program: the predicate that its translated code denotes, printed by wip/gen.py and checked by the kernel. Conditions: none. -/
import Derived.Test.YtaehmogilimmfaaGf0
import Derived.Test.YtaehmogilimmfaaGf1
import Derived.Test.YtaehmogilimmfaaGf2
import Derived.Test.YtaehmogilimmfaaGf3
import Derived.Test.YtaehmogilimmfaaGf4
import Derived.Test.YtaehmogilimmfaaGf5
