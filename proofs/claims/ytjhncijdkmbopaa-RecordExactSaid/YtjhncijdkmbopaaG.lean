/- Of each function of the program: the predicate that its translated code denotes, printed by wip/gen.py and checked by the kernel. Conditions: none. -/
import Derived.Test.YtjhncijdkmbopaaGf0
import Derived.Test.YtjhncijdkmbopaaGf1
import Derived.Test.YtjhncijdkmbopaaGf2
import Derived.Test.YtjhncijdkmbopaaGf3
import Derived.Test.YtjhncijdkmbopaaGf4
import Derived.Test.YtjhncijdkmbopaaGf5
import Derived.Test.YtjhncijdkmbopaaGf6
import Derived.Test.YtjhncijdkmbopaaGf7
import Derived.Test.YtjhncijdkmbopaaGf8
